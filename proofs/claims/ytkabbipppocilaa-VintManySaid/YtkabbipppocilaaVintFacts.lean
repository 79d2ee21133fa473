/- Numbers in few bytes: what is put, what is read; plain lists, no program. -/
import Derived.Laws.BitsAllLaws
import Derived.Laws.BitsLemmas
import Derived.IntWalk
namespace Go.Proofs.Ytkabbipppocilaa
open Go.RowKit
set_option linter.unusedVariables false
/-- The bytes of a number. -/
def vput (v : Nat) : List Int := if v < 128 then [(v : Int)] else ((v % 128 + 128 : Nat) : Int) :: vput (v / 128)
termination_by v
decreasing_by omega
theorem vput_small {v : Nat} (h : v < 128) : vput v = [(v : Int)] := by rw [vput, if_pos h]
theorem vput_more {v : Nat} (h : 128 ≤ v) : vput v = ((v % 128 + 128 : Nat) : Int) :: vput (v / 128) := by rw [vput, if_neg (by omega)]
theorem vput_length (k : Nat) : ∀ v : Nat, v < 128 ^ (k + 1) → 1 ≤ (vput v).length ∧ (vput v).length ≤ k + 1 := by
  induction k with
  | zero => intro v h; rw [vput_small (by simpa using h)]; simp
  | succ k ih =>
    intro v h
    by_cases h0 : v < 128
    · rw [vput_small h0]; simp
    · rw [vput_more (by omega)]
      have := ih (v / 128) (by rw [Nat.pow_succ] at h; exact Nat.div_lt_of_lt_mul (by omega))
      simp only [List.length_cons]; omega
theorem vput_len {v : Nat} (h : v < 18446744073709551616) : 1 ≤ (vput v).length ∧ (vput v).length ≤ 10 := vput_length 9 v (by omega)
theorem vput_byte (k : Nat) : ∀ v : Nat, v < 128 ^ (k + 1) → ∀ x ∈ vput v, 0 ≤ x ∧ x ≤ 255 := by
  induction k with
  | zero => intro v h; rw [vput_small (by simpa using h)]; simp; simp at h; omega
  | succ k ih =>
    intro v h
    by_cases h0 : v < 128
    · rw [vput_small h0]; simp; omega
    · rw [vput_more (by omega)]
      have := ih (v / 128) (by rw [Nat.pow_succ] at h; exact Nat.div_lt_of_lt_mul (by omega))
      intro x hx
      rcases List.mem_cons.1 hx with rfl | hx
      · omega
      · exact this x hx
theorem vput_bytes {v : Nat} (h : v < 18446744073709551616) : ∀ x ∈ vput v, 0 ≤ x ∧ x ≤ 255 := vput_byte 9 v (by omega)
/-- Reading on: the number, how many bytes it takes, the error. -/
def sGo : List Int → Nat → Int → Int × Int × Int
  | [], _, _ => (0, 0, 3)
  | x :: l, i, v => if i = 9 ∧ 1 < x then (0, 0, 4) else if x < 128 then (if x = 0 ∧ 0 < i then (0, 0, 4) else (v + x * 2 ^ (7 * i), (i : Int) + 1, 0)) else sGo l (i + 1) (v + (x - 128) * 2 ^ (7 * i))
/-- What Get tells of a list of bytes and a place. -/
def sGet (xs : List Int) (k : Int) : Int × Int × Int :=
  if k < 0 ∨ (xs.length : Int) < k then (0, 0, 1) else
    ((sGo (xs.drop k.toNat) 0 0).1, (if (sGo (xs.drop k.toNat) 0 0).2.2 = 0 then k + (sGo (xs.drop k.toNat) 0 0).2.1 else 0), (sGo (xs.drop k.toNat) 0 0).2.2)
theorem sGo_vput (n : Nat) : ∀ (v i : Nat) (a : Int) (r : List Int), v < 128 ^ (n + 1) → v * 2 ^ (7 * i) < 18446744073709551616 → (0 < i → 0 < v) → i ≤ 9 →
    sGo (vput v ++ r) i a = (a + v * 2 ^ (7 * i), (i : Int) + (vput v).length, 0) := by
  induction n with
  | zero =>
    intro v i a r h hv hi h9
    rw [vput_small (by simpa using h)]
    simp only [List.cons_append, List.nil_append, sGo, List.length_cons, List.length_nil]
    rw [if_neg (by rintro ⟨rfl, h1⟩; simp only [Nat.reduceMul, Nat.reducePow] at hv; omega), if_pos (by simp at h; omega), if_neg (by omega)]
    simp
  | succ n ih =>
    intro v i a r h hv hi h9
    by_cases h0 : v < 128
    · rw [vput_small h0]
      simp only [List.cons_append, List.nil_append, sGo, List.length_cons, List.length_nil]
      rw [if_neg (by rintro ⟨rfl, h1⟩; simp only [Nat.reduceMul, Nat.reducePow] at hv; omega), if_pos (by omega), if_neg (by omega)]
      simp
    · rw [vput_more (by omega)]
      have hp : 2 ^ (7 * (i + 1)) = 2 ^ (7 * i) * 128 := by rw [Nat.mul_add, Nat.pow_add]
      have hpos := Nat.two_pow_pos (7 * i)
      have hv2 : v / 128 * 2 ^ (7 * (i + 1)) < 18446744073709551616 := by
        rw [hp, Nat.mul_comm (2 ^ (7 * i)), ← Nat.mul_assoc]
        exact Nat.lt_of_le_of_lt (Nat.mul_le_mul_right _ (Nat.div_mul_le_self v 128)) hv
      have h9' : i + 1 ≤ 9 := by
        rcases Nat.lt_or_ge i 9 with h | h
        · omega
        · obtain rfl : i = 9 := by omega
          simp only [Nat.reduceMul, Nat.reducePow] at hv; omega
      have := ih (v / 128) (i + 1) (a + ((v % 128 : Nat) : Int) * 2 ^ (7 * i)) r (by rw [Nat.pow_succ] at h; exact Nat.div_lt_of_lt_mul (by omega)) hv2 (by omega) h9'
      simp only [List.cons_append, sGo, List.length_cons]
      rw [if_neg (by rintro ⟨rfl, h1⟩; omega), if_neg (by omega)]
      rw [show (((v % 128 + 128 : Nat) : Int) - 128) = ((v % 128 : Nat) : Int) by omega, this]
      have e1 : a + ((v % 128 : Nat) : Int) * 2 ^ (7 * i) + ((v / 128 : Nat) : Int) * 2 ^ (7 * (i + 1)) = a + (v : Int) * 2 ^ (7 * i) := by
        have hpi : (2 : Int) ^ (7 * (i + 1)) = 128 * 2 ^ (7 * i) := by rw [Nat.mul_add, Int.pow_add, Int.mul_comm]; rfl
        rw [hpi, Int.add_assoc, ← Int.mul_assoc, ← Int.add_mul]
        congr 2; omega
      rw [e1]
      congr 2; push_cast; omega
theorem sGet_vput {v : Nat} (h : v < 18446744073709551616) (p r : List Int) : sGet (p ++ (vput v ++ r)) p.length = ((v : Int), (p.length : Int) + (vput v).length, 0) := by
  have := sGo_vput 9 v 0 0 r (by omega) (by simpa using h) (by omega) (by omega)
  unfold sGet
  rw [if_neg (by simp only [List.length_append]; omega)]
  rw [Int.toNat_natCast, List.drop_left, this]
  simp
end Go.Proofs.Ytkabbipppocilaa
