/- The law of fields: the plain facts, and the walk. -/
import Derived.Test.YthgigkjnbflnpaaBitLaws3
namespace Go.Proofs.Ythgigkjnbflnpaa
open Go.RowKit
set_option linter.unusedVariables false
theorem field_low (w : Int) (k : Int) (h0 : 0 ≤ k) (h1 : k ≤ 32) : sField w 0 k = w % 2 ^ k.toNat := by
  unfold sField
  rw [show (max 0 (min 0 31) : Int).toNat = 0 from rfl, show (max 0 (min k (32 - max 0 (min 0 31)))) = k by omega]
  simp
theorem field_high (w : Int) (k : Int) (h0 : 1 ≤ k) (h1 : k ≤ 31) : sField w k (32 - k) = w / 2 ^ k.toNat % 2 ^ (32 - k).toNat := by
  unfold sField
  rw [show (max 0 (min k 31) : Int) = k by omega, show (max 0 (min (32 - k) (32 - k)) : Int) = 32 - k by omega]
theorem pow_range (m : Nat) (hm : m ≤ 32) : 1 ≤ (2 : Int) ^ m ∧ (2 : Int) ^ m ≤ 4294967296 := by
  have h1 := Nat.pow_le_pow_right (n := 2) (by omega) hm
  have h2 := Nat.one_le_two_pow (n := m)
  have e : (2 : Int) ^ m = ((2 ^ m : Nat) : Int) := by simp
  rw [e]; omega
theorem fields_join (w : Int) (k : Int) (w0 : 0 ≤ w) (w1 : w ≤ 4294967295) (h0 : 1 ≤ k) (h1 : k ≤ 31) :
    ((sField w 0 k + sField w k (32 - k) * 2 ^ k.toNat) % 4294967296 == w) = true := by
  rw [beq_iff_eq, field_low _ _ (by omega) (by omega), field_high _ _ h0 h1]
  obtain ⟨p0, p1⟩ := pow_range k.toNat (by omega)
  obtain ⟨q0, q1⟩ := pow_range (32 - k).toNat (by omega)
  have hj : (2 : Int) ^ k.toNat * 2 ^ (32 - k).toNat = 4294967296 := by
    rw [← Int.pow_add, show k.toNat + (32 - k).toNat = 32 by omega]; rfl
  have hd := Int.mul_ediv_add_emod w (2 ^ k.toNat)
  have hlt : w / 2 ^ k.toNat < 2 ^ (32 - k).toNat := by
    apply Int.ediv_lt_of_lt_mul (by omega)
    rw [Int.mul_comm, hj]; omega
  have hge : 0 ≤ w / 2 ^ k.toNat := Int.ediv_nonneg w0 (by omega)
  have hm := Int.emod_nonneg w (show (2 : Int) ^ k.toNat ≠ 0 by omega)
  rw [Int.emod_eq_of_lt hge hlt, Int.mul_comm]
  omega
theorem sext_core (w : Int) (j : Nat) (h0 : 0 ≤ w) (h1 : w ≤ 4294967295) (hj : j ≤ 31) :
    (wrap32 (w * 2 ^ j % 4294967296) / 2 ^ j % 4294967296) % 2 ^ (32 - j) = w % 2 ^ (32 - j) ∧
    wrap32 ((wrap32 (w * 2 ^ j % 4294967296) / 2 ^ j % 4294967296) * 2 ^ j % 4294967296) / 2 ^ j % 4294967296 = wrap32 (w * 2 ^ j % 4294967296) / 2 ^ j % 4294967296 := by
  unfold wrap32
  rcases cases32 hj with rfl | rfl | rfl | rfl | rfl | rfl | rfl | rfl | rfl | rfl | rfl | rfl | rfl | rfl | rfl | rfl | rfl | rfl | rfl | rfl | rfl | rfl | rfl | rfl | rfl | rfl | rfl | rfl | rfl | rfl | rfl | rfl <;> (simp only [Int.reducePow, Nat.reduceSub]; omega)
theorem sext_facts (w m : Int) (h0 : 0 ≤ w) (h1 : w ≤ 4294967295) (m0 : 1 ≤ m) (m1 : m ≤ 32) :
    (sField (sSext w m) 0 m == sField w 0 m) = true ∧ (sSext (sSext w m) m == sSext w m) = true := by
  have hj : (32 - m).toNat ≤ 31 := by omega
  obtain ⟨c1, c2⟩ := sext_core w _ h0 h1 hj
  have hm : max 1 (min m 32) = m := by omega
  have he : 32 - (32 - m).toNat = m.toNat := by omega
  rw [he] at c1
  refine ⟨?_, ?_⟩
  · rw [beq_iff_eq, field_low _ _ (by omega) (by omega), field_low _ _ (by omega) (by omega)]
    unfold sSext
    rw [hm, c1]
  · rw [beq_iff_eq]
    unfold sSext
    rw [hm, c2]
theorem sext_bd (w m : Int) : 0 ≤ sSext w m ∧ sSext w m ≤ 4294967295 := by unfold sSext; omega
theorem zeros_bd (w : Int) (h1 : w ≤ 4294967295) : 0 ≤ sZeros w ∧ sZeros w ≤ 32 := by
  have := bitLen_32 h1
  unfold sZeros; omega
theorem bitLen_zero_iff (x : Nat) (h : x < 18446744073709551616) : Lib.bitLen x = 0 ↔ x = 0 := by
  constructor
  · intro hh
    by_cases hx : x = 0
    · exact hx
    · have := Lib.bitLen_half x hx h
      omega
  · rintro rfl; rfl
theorem zeros_eq (w : Int) (h0 : 0 ≤ w) (h1 : w ≤ 4294967295) : ((w == 0) == (sZeros w == 32)) = true := by
  rw [beq_iff_eq, Bool.eq_iff_iff, beq_iff_eq, beq_iff_eq]
  have := bitLen_zero_iff w.toNat (by omega)
  unfold sZeros
  omega
set_option maxHeartbeats 4000000 in
theorem BitsFields_walk (a0 a1 a2 : Int) (W : World) (w0 : (Lit.int .u32 a0).wf = true) (w1 : (Lit.int .i64 a1).wf = true) (w2 : (Lit.int .i64 a2).wf = true) :
    Calls Try.prog 5 #[.int .u32 a0, .int .i64 a1, .int .i64 a2] W fun e W' => e = .returned (.bool true) ∧ Below W.heap.size W W' := by
  obtain ⟨b0, b1⟩ := bounds_u32 w0
  obtain ⟨b2, b3⟩ := bounds_i64 w1
  obtain ⟨b4, b5⟩ := bounds_i64 w2
  clear w0 w1 w2
  obtain ⟨k, hk, k0, k1⟩ : ∃ k : Int, 1 + a1 % 31 = k ∧ 1 ≤ k ∧ k ≤ 31 := ⟨_, rfl, by omega, by omega⟩
  obtain ⟨m, hm, m0, m1⟩ : ∃ m : Int, 1 + a2 % 32 = m ∧ 1 ≤ m ∧ m ≤ 32 := ⟨_, rfl, by omega, by omega⟩
  have f1 := fields_join a0 k b0 b1 k0 k1
  obtain ⟨f2, f3⟩ := sext_facts a0 m b0 b1 m0 m1
  obtain ⟨z0, z1⟩ := zeros_bd a0 b1
  have f5 := zeros_eq a0 b0 b1
  have z2 : sZeros a0 ≤ 4294967295 := by omega
  obtain ⟨e0, e1⟩ := sext_bd a0 m
  have hx : 0 ≤ bits .xor .u32 IntKind.u32.max a0 ∧ bits .xor .u32 IntKind.u32.max a0 ≤ 4294967295 := bounds_u32 (wf_bits _ _ _ _)
  obtain ⟨x0, x1⟩ := hx
  go_enter Try.func5, Try.ntmps5
  go_wp2_with (first | (go_at_call 9; refine (Shr_c _ _ _ (by omega) (by omega)).mono ?_; rintro e w' ⟨rfl, rfl⟩) | (go_at_call 10; refine (Shl_c _ _ _ (by omega) (by omega)).mono ?_; rintro e w' ⟨rfl, rfl⟩) | (go_at_call 11; refine (Sar_c _ _ _ (by omega) (by omega)).mono ?_; rintro e w' ⟨rfl, rfl⟩) | (go_at_call 15; refine (Sext_c _ _ _).mono ?_; rintro e w' ⟨rfl, rfl⟩) | (go_at_call 18; refine (Zeros_c _ _ (by omega) (by omega)).mono ?_; rintro e w' ⟨rfl, rfl⟩) | (go_at_call 19; refine (Ones_c _ _ (by omega) (by omega)).mono ?_; rintro e w' ⟨rfl, rfl⟩) | (go_at_call 17; refine (Field_c _ _ _ _ (by omega) (by omega)).mono ?_; rintro e w' ⟨rfl, nd, rfl⟩) | (go_at_call 20; refine (Mul_c _ _ _ _ (by omega) (by omega) (by omega) (by omega)).mono ?_; rintro e w' ⟨rfl, rfl⟩) | (go_at_call 21; refine (Div_c _ _ _ _ (by omega) (by omega) (by omega) (by omega)).mono ?_; rintro e w' ⟨rfl, nd, rfl⟩) | (go_at_call 16; refine (Place_c _ _ _ (by omega) (by omega) (by omega) (by omega)).mono ?_; rintro e w' ⟨rfl, rfl⟩) | (go_at_call 12; refine (awake_c _).mono ?_; rintro e w' ⟨rfl, hb⟩))
  go_ret
  exact ⟨rfl, by have h := ‹Below _ _ _›; exact ⟨h.os, h.tape, h.output, h.size, h.block⟩⟩
end Go.Proofs.Ythgigkjnbflnpaa
