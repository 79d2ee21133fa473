/- More laws of package bits that need no reference: products, quotients, fields. -/
import Derived.Test.YthgigkjnbflnpaaBitLaws2
namespace Go.Proofs.Ythgigkjnbflnpaa
open Go.RowKit
set_option linter.unusedVariables false
theorem muls_facts (a b : Int) (ha : 0 ≤ a) (ha' : a ≤ 4294967295) (hb : 0 ≤ b) (hb' : b ≤ 4294967295) :
    (sMulHi a b true == sMulHi b a true) = true ∧ (sMulLo a b == sMulLo b a) = true ∧ (sMulHi a 1 true == sSar a 31) = true ∧ (sMulLo a 1 == a) = true ∧ (sMulLo a 0 == 0) = true ∧
    (a < 2147483648 → b < 2147483648 → (sMulHi a b true == sMulHi a b false) = true) := by
  refine ⟨?_, ?_, ?_, ?_, ?_, ?_⟩
  · rw [beq_iff_eq]; unfold sMulHi; rw [if_pos rfl, if_pos rfl, Int.mul_comm]
  · rw [beq_iff_eq]; unfold sMulLo; rw [Int.mul_comm]
  · rw [beq_iff_eq, sSar_31 a ha ha']; unfold sMulHi; rw [if_pos rfl]
    have : wrap32 1 = 1 := by unfold wrap32; omega
    rw [this]; unfold wrap32; omega
  · rw [beq_iff_eq]; unfold sMulLo; omega
  · rw [beq_iff_eq]; unfold sMulLo; omega
  · intro h1 h2
    rw [beq_iff_eq]; unfold sMulHi; rw [if_pos rfl, if_neg (by simp)]
    have e1 : wrap32 a = a := by unfold wrap32; omega
    have e2 : wrap32 b = b := by unfold wrap32; omega
    rw [e1, e2]
    obtain ⟨p0, p1⟩ := mul_bd ha ha' hb hb'
    omega
theorem bit_of (x : Int) (h0 : 0 ≤ x) (h1 : x ≤ 4294967295) : (x / 2147483648 == 1) = true ∨ ((x / 2147483648 == 1) = false ∧ x < 2147483648) := by
  by_cases h : x / 2147483648 = 1
  · exact Or.inl (beq_iff_eq.mpr h)
  · exact Or.inr ⟨beq_eq_false_iff_ne.mpr h, by omega⟩
set_option maxHeartbeats 4000000 in
theorem BitsMuls_walk (a0 a1 : Int) (W : World) (w0 : (Lit.int .u32 a0).wf = true) (w1 : (Lit.int .u32 a1).wf = true) :
    Calls Try.prog 6 #[.int .u32 a0, .int .u32 a1] W fun e W' => e = .returned (.bool true) ∧ Below W.heap.size W W' := by
  obtain ⟨b0, b1⟩ := bounds_u32 w0
  obtain ⟨b2, b3⟩ := bounds_u32 w1
  clear w0 w1
  obtain ⟨f1, f2, f3, f4, f5, f6⟩ := muls_facts a0 a1 b0 b1 b2 b3
  have m : (a0 / 2147483648 == 1) = true ∨ ((a0 / 2147483648 == 1) = false ∧ (a1 / 2147483648 == 1) = true) ∨ ((a0 / 2147483648 == 1) = false ∧ (a1 / 2147483648 == 1) = false ∧ (sMulHi a0 a1 true == sMulHi a0 a1 false) = true) := by
    rcases bit_of a0 b0 b1 with h | ⟨h, h'⟩
    · exact Or.inl h
    · rcases bit_of a1 b2 b3 with g | ⟨g, g'⟩
      · exact Or.inr (Or.inl ⟨h, g⟩)
      · exact Or.inr (Or.inr ⟨h, g, f6 h' g'⟩)
  clear f6
  rcases m with m1 | ⟨m1, m2⟩ | ⟨m1, m2, m3⟩
  all_goals
    go_enter Try.func6, Try.ntmps6
    go_wp2_with (first | (go_at_call 9; refine (Shr_c _ _ _ (by omega) (by omega)).mono ?_; rintro e w' ⟨rfl, rfl⟩) | (go_at_call 10; refine (Shl_c _ _ _ (by omega) (by omega)).mono ?_; rintro e w' ⟨rfl, rfl⟩) | (go_at_call 11; refine (Sar_c _ _ _ (by omega) (by omega)).mono ?_; rintro e w' ⟨rfl, rfl⟩) | (go_at_call 15; refine (Sext_c _ _ _).mono ?_; rintro e w' ⟨rfl, rfl⟩) | (go_at_call 18; refine (Zeros_c _ _ (by omega) (by omega)).mono ?_; rintro e w' ⟨rfl, rfl⟩) | (go_at_call 19; refine (Ones_c _ _ (by omega) (by omega)).mono ?_; rintro e w' ⟨rfl, rfl⟩) | (go_at_call 17; refine (Field_c _ _ _ _ (by omega) (by omega)).mono ?_; rintro e w' ⟨rfl, nd, rfl⟩) | (go_at_call 20; refine (Mul_c _ _ _ _ (by omega) (by omega) (by omega) (by omega)).mono ?_; rintro e w' ⟨rfl, rfl⟩) | (go_at_call 21; refine (Div_c _ _ _ _ (by omega) (by omega) (by omega) (by omega)).mono ?_; rintro e w' ⟨rfl, nd, rfl⟩) | (go_at_call 16; refine (Place_c _ _ _ (by omega) (by omega) (by omega) (by omega)).mono ?_; rintro e w' ⟨rfl, rfl⟩) | (go_at_call 12; refine (awake_c _).mono ?_; rintro e w' ⟨rfl, hb⟩))
    go_ret
    exact ⟨rfl, by assumption⟩
theorem quo_bd (a b : Int) (s : Bool) (ha : 0 ≤ a) (ha' : a ≤ 4294967295) (hb : 0 ≤ b) (hb' : b ≤ 4294967295) :
    0 ≤ sQuo a b s ∧ sQuo a b s ≤ 4294967295 ∧ 0 ≤ sRem a b s ∧ sRem a b s ≤ 4294967295 := by
  unfold sQuo sRem
  by_cases hz : b = 0
  · simp [hz]
  · rw [if_neg hz, if_neg hz]
    have q1 := Int.ediv_nonneg ha hb
    have q2 : a / b ≤ a := Int.ediv_le_self _ ha
    have q3 := Int.emod_nonneg a hz
    have q4 := Int.emod_lt_of_pos a (show 0 < b by omega)
    cases s
    · rw [if_neg (by simp), if_neg (by simp)]; omega
    · rw [if_pos rfl, if_pos rfl]; omega
theorem div_un (a b : Int) (ha : 0 ≤ a) (ha' : a ≤ 4294967295) (hb : 0 < b) (hb' : b ≤ 4294967295) :
    ((sMulLo (sQuo a b false) b + sRem a b false) % 4294967296 == a) = true ∧ sRem a b false < b := by
  unfold sMulLo sQuo sRem
  have hb0 : ¬ b = 0 := by omega
  simp only [if_neg hb0, Bool.false_eq_true, if_false]
  have h := Int.mul_ediv_add_emod a b
  rw [Int.mul_comm] at h
  have q4 := Int.emod_lt_of_pos a hb
  refine ⟨?_, q4⟩
  rw [beq_iff_eq]
  omega
theorem wrap32_self {x : Int} (h1 : -2147483648 ≤ x) (h2 : x ≤ 2147483647) : wrap32 (x % 4294967296) = x := by unfold wrap32; omega
theorem div_sg (a b : Int) (ha : 0 ≤ a) (ha' : a ≤ 4294967295) (hb : 0 < b) (hb' : b ≤ 4294967295) :
    ((sMulLo (sQuo a b true) b + sRem a b true) % 4294967296 == a) = true ∧
    max (wrap32 (sRem a b true)) (-(wrap32 (sRem a b true))) < max (wrap32 b) (-(wrap32 b)) ∧
    ((sRem a b true == 0) = true ∨ ((sRem a b true == 0) = false ∧ (decide (wrap32 (sRem a b true) < 0) == decide (wrap32 a < 0)) = true)) := by
  have b1 := wrap32_bd a
  have b2 := wrap32_bd b
  have hy : wrap32 b ≠ 0 := by unfold wrap32; omega
  have hdef := Int.tmod_def (wrap32 a) (wrap32 b)
  have hab := Int.natAbs_tmod (wrap32 a) (wrap32 b)
  have hlt := Nat.mod_lt (wrap32 a).natAbs (show 0 < (wrap32 b).natAbs by omega)
  have hle := Nat.mod_le (wrap32 a).natAbs (wrap32 b).natAbs
  rw [← hab] at hlt hle
  have ea : wrap32 a % 4294967296 = a := by unfold wrap32; omega
  have eb : wrap32 b % 4294967296 = b := by unfold wrap32; omega
  have hr : sRem a b true = Int.tmod (wrap32 a) (wrap32 b) % 4294967296 := by unfold sRem; rw [if_neg (by omega), if_pos rfl]
  have hq : sQuo a b true = Int.tdiv (wrap32 a) (wrap32 b) % 4294967296 := by unfold sQuo; rw [if_neg (by omega), if_pos rfl]
  have hw : wrap32 (sRem a b true) = Int.tmod (wrap32 a) (wrap32 b) := by rw [hr]; exact wrap32_self (by omega) (by omega)
  refine ⟨?_, ?_, ?_⟩
  · rw [beq_iff_eq]
    have hm : sMulLo (sQuo a b true) b = wrap32 b * Int.tdiv (wrap32 a) (wrap32 b) % 4294967296 := by
      unfold sMulLo
      rw [hq, Int.mul_comm (wrap32 b)]
      conv => rhs; rw [Int.mul_emod, eb]
    rw [hm, hr]
    generalize wrap32 b * Int.tdiv (wrap32 a) (wrap32 b) = p at *
    generalize Int.tmod (wrap32 a) (wrap32 b) = t at *
    clear hm hr hq hw hab hlt hle
    omega
  · rw [hw]
    generalize Int.tmod (wrap32 a) (wrap32 b) = t at *
    omega
  · by_cases hz : sRem a b true = 0
    · exact Or.inl (beq_iff_eq.mpr hz)
    · refine Or.inr ⟨beq_eq_false_iff_ne.mpr hz, ?_⟩
      rw [beq_iff_eq, hw]
      have tn : Int.tmod (wrap32 a) (wrap32 b) ≠ 0 := fun h => hz (by rw [hr, h]; rfl)
      by_cases hn : wrap32 a < 0
      · have : Int.tmod (wrap32 a) (wrap32 b) ≤ 0 := by
          have := Int.tmod_nonneg (a := -(wrap32 a)) (wrap32 b) (by omega)
          rw [Int.neg_tmod] at this; omega
        rw [decide_eq_true hn, decide_eq_true (by omega)]
      · have := Int.tmod_nonneg (a := wrap32 a) (wrap32 b) (by omega)
        rw [decide_eq_false hn, decide_eq_false (by omega)]
set_option maxHeartbeats 4000000 in
theorem BitsDivides_walk (a0 a1 : Int) (W : World) (w0 : (Lit.int .u32 a0).wf = true) (w1 : (Lit.int .u32 a1).wf = true) :
    Calls Try.prog 7 #[.int .u32 a0, .int .u32 a1] W fun e W' => e = .returned (.bool true) ∧ Below W.heap.size W W' := by
  obtain ⟨b0, b1⟩ := bounds_u32 w0
  obtain ⟨b2, b3⟩ := bounds_u32 w1
  clear w0 w1
  by_cases hz : a1 = 0
  · subst hz
    have t1 : (sQuo a0 0 true == 0) = true := rfl
    have t2 : (sRem a0 0 true == 0) = true := rfl
    go_enter Try.func7, Try.ntmps7
    go_wp2_with (first | (go_at_call 9; refine (Shr_c _ _ _ (by omega) (by omega)).mono ?_; rintro e w' ⟨rfl, rfl⟩) | (go_at_call 10; refine (Shl_c _ _ _ (by omega) (by omega)).mono ?_; rintro e w' ⟨rfl, rfl⟩) | (go_at_call 11; refine (Sar_c _ _ _ (by omega) (by omega)).mono ?_; rintro e w' ⟨rfl, rfl⟩) | (go_at_call 15; refine (Sext_c _ _ _).mono ?_; rintro e w' ⟨rfl, rfl⟩) | (go_at_call 18; refine (Zeros_c _ _ (by omega) (by omega)).mono ?_; rintro e w' ⟨rfl, rfl⟩) | (go_at_call 19; refine (Ones_c _ _ (by omega) (by omega)).mono ?_; rintro e w' ⟨rfl, rfl⟩) | (go_at_call 17; refine (Field_c _ _ _ _ (by omega) (by omega)).mono ?_; rintro e w' ⟨rfl, nd, rfl⟩) | (go_at_call 20; refine (Mul_c _ _ _ _ (by omega) (by omega) (by omega) (by omega)).mono ?_; rintro e w' ⟨rfl, rfl⟩) | (go_at_call 21; refine (Div_c _ _ _ _ (by omega) (by omega) (by omega) (by omega)).mono ?_; rintro e w' ⟨rfl, nd, rfl⟩) | (go_at_call 16; refine (Place_c _ _ _ (by omega) (by omega) (by omega) (by omega)).mono ?_; rintro e w' ⟨rfl, rfl⟩) | (go_at_call 12; refine (awake_c _).mono ?_; rintro e w' ⟨rfl, hb⟩))
    go_ret
    exact ⟨rfl, Below.of_drewN ‹_›⟩
  · have hz' : (a1 == 0) = false := beq_eq_false_iff_ne.mpr hz
    have hp : 0 < a1 := by omega
    obtain ⟨p1, p2, p3, p4⟩ := quo_bd a0 a1 false b0 b1 b2 b3
    obtain ⟨q1, q2, q3, q4⟩ := quo_bd a0 a1 true b0 b1 b2 b3
    obtain ⟨f1, f2⟩ := div_un a0 a1 b0 b1 hp b3
    obtain ⟨g1, g2, g3⟩ := div_sg a0 a1 b0 b1 hp b3
    have c1 := wrap32_bd (sRem a0 a1 true)
    have c2 := wrap32_bd a1
    obtain ⟨c1a, c1b⟩ := c1
    obtain ⟨c2a, c2b⟩ := c2
    clear hz
    rcases g3 with g3 | ⟨g3, g4⟩
    all_goals
      go_enter Try.func7, Try.ntmps7
      go_wp2_with (first | (go_at_call 9; refine (Shr_c _ _ _ (by omega) (by omega)).mono ?_; rintro e w' ⟨rfl, rfl⟩) | (go_at_call 10; refine (Shl_c _ _ _ (by omega) (by omega)).mono ?_; rintro e w' ⟨rfl, rfl⟩) | (go_at_call 11; refine (Sar_c _ _ _ (by omega) (by omega)).mono ?_; rintro e w' ⟨rfl, rfl⟩) | (go_at_call 15; refine (Sext_c _ _ _).mono ?_; rintro e w' ⟨rfl, rfl⟩) | (go_at_call 18; refine (Zeros_c _ _ (by omega) (by omega)).mono ?_; rintro e w' ⟨rfl, rfl⟩) | (go_at_call 19; refine (Ones_c _ _ (by omega) (by omega)).mono ?_; rintro e w' ⟨rfl, rfl⟩) | (go_at_call 17; refine (Field_c _ _ _ _ (by omega) (by omega)).mono ?_; rintro e w' ⟨rfl, nd, rfl⟩) | (go_at_call 20; refine (Mul_c _ _ _ _ (by omega) (by omega) (by omega) (by omega)).mono ?_; rintro e w' ⟨rfl, rfl⟩) | (go_at_call 21; refine (Div_c _ _ _ _ (by omega) (by omega) (by omega) (by omega)).mono ?_; rintro e w' ⟨rfl, nd, rfl⟩) | (go_at_call 16; refine (Place_c _ _ _ (by omega) (by omega) (by omega) (by omega)).mono ?_; rintro e w' ⟨rfl, rfl⟩) | (go_at_call 12; refine (awake_c _).mono ?_; rintro e w' ⟨rfl, hb⟩))
      go_ret
      exact ⟨rfl, by have h := ‹Below _ _ _›; exact ⟨h.os, h.tape, h.output, h.size, h.block⟩⟩
end Go.Proofs.Ythgigkjnbflnpaa
