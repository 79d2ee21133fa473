/- Plain facts about numbers of 32 bits: masks, signs, overflow. No program. -/
import Derived.Laws.BitsAllLaws
import Derived.Laws.BitsLemmas
import Derived.IntWalk
import Derived.Lib.BitFns
namespace Go.Proofs.Ytpnkgmmaanpgiaa
open Go.RowKit
set_option linter.unusedVariables false

theorem and_mask (m : Nat) (hm : m ≤ 32) {v : Int} (h0 : 0 ≤ v) (h1 : v ≤ 4294967295) : bits .and .u32 v (2 ^ m - 1) = v % 2 ^ m := by
  have hp : (2 ^ m : Nat) ≤ 2 ^ 32 := Nat.pow_le_pow_right (by omega) hm
  have hq : 1 ≤ (2 ^ m : Nat) := Nat.one_le_two_pow
  have e : ((2 : Int) ^ m) = ((2 ^ m : Nat) : Int) := by simp
  rw [e, u32_and v _ h0 (by omega) (by omega) (by omega)]
  have : (((2 ^ m : Nat) : Int) - 1).toNat = 2 ^ m - 1 := by omega
  rw [this, Nat.and_two_pow_sub_one_eq_mod, Int.natCast_emod, Int.toNat_of_nonneg h0]
theorem and31 {n : Int} (h0 : 0 ≤ n) (h1 : n ≤ 4294967295) : bits .and .u32 n 31 = n % 32 := and_mask 5 (by omega) h0 h1
theorem tb31 (a : Nat) (h : a < 4294967296) : a.testBit 31 = decide (2147483648 ≤ a) := by
  rw [Nat.testBit_eq_decide_div_mod_eq]
  congr 1
  simp only [eq_iff_iff]
  omega
theorem and_sign_ne {x : Nat} : ((x &&& 2147483648 : Nat) ≠ 0) ↔ x.testBit 31 = true := by
  have e : (2147483648 : Nat) = 2 ^ 31 := rfl
  rw [e, nat_bit, Nat.testBit_eq_decide_div_mod_eq]
  simp only [decide_eq_true_eq]
  omega
theorem sign_and {x : Int} (h0 : 0 ≤ x) (h1 : x ≤ 4294967295) : (bits .and .u32 x 2147483648 != 0) = x.toNat.testBit 31 := by
  rw [u32_and x _ h0 (by omega) (by omega) (by omega)]
  have := and_sign_ne (x := x.toNat)
  have e : (2147483648 : Int).toNat = 2147483648 := rfl
  rw [e]
  rw [Bool.eq_iff_iff, bne_iff_ne, ← this]
  constructor <;> intro h hh <;> apply h <;> omega
theorem over_bit {a b c : Int} (ha : 0 ≤ a) (ha' : a ≤ 4294967295) (hb : 0 ≤ b) (hb' : b ≤ 4294967295) (hc : 0 ≤ c) (hc' : c ≤ 4294967295) (d : Int) (hd : 0 ≤ d) (hd' : d ≤ 4294967295) :
    (bits .and .u32 (bits .and .u32 (bits .xor .u32 a c) (bits .xor .u32 b d)) 2147483648 != 0) =
      ((decide (2147483648 ≤ a) != decide (2147483648 ≤ c)) && (decide (2147483648 ≤ b) != decide (2147483648 ≤ d))) := by
  rw [u32_xor a c ha (by omega) hc (by omega), u32_xor b d hb (by omega) hd (by omega)]
  have k1 : (a.toNat ^^^ c.toNat) < 2 ^ 32 := Nat.xor_lt_two_pow (by omega) (by omega)
  have k2 : (b.toNat ^^^ d.toNat) < 2 ^ 32 := Nat.xor_lt_two_pow (by omega) (by omega)
  rw [u32_and_nat _ _ (by omega) (by omega)]
  have k3 : ((a.toNat ^^^ c.toNat) &&& (b.toNat ^^^ d.toNat)) < 2 ^ 32 := Nat.and_lt_two_pow _ k2
  rw [sign_and (by omega) (by omega)]
  simp only [Int.toNat_natCast, Nat.testBit_and, Nat.testBit_xor]
  rw [tb31 _ (by omega), tb31 _ (by omega), tb31 _ (by omega), tb31 _ (by omega)]
  have z (x : Int) (hx : 0 ≤ x) : decide (2147483648 ≤ x.toNat) = decide (2147483648 ≤ x) := by
    congr 1; simp only [eq_iff_iff]; omega
  rw [z a ha, z b hb, z c hc, z d hd]

/-- Does the sum, the difference, as numbers with a sign, leave 32 bits? -/
def sAddOv (a b : Int) : Bool := decide (wrap32 a + wrap32 b < -2147483648 ∨ 2147483648 ≤ wrap32 a + wrap32 b)
def sSubOv (a b : Int) : Bool := decide (wrap32 a - wrap32 b < -2147483648 ∨ 2147483648 ≤ wrap32 a - wrap32 b)
theorem bool_or4 {p q r s t : Prop} [Decidable p] [Decidable q] [Decidable r] [Decidable s] [Decidable t] (h : t ↔ ((p ↔ ¬ q) ∧ (r ↔ ¬ s))) :
    ((decide p != decide q) && (decide r != decide s)) = decide t := by
  by_cases p <;> by_cases q <;> by_cases r <;> by_cases s <;> by_cases t <;> simp_all
theorem add_over {a b : Int} (ha : 0 ≤ a) (ha' : a ≤ 4294967295) (hb : 0 ≤ b) (hb' : b ≤ 4294967295) :
    (bits .and .u32 (bits .and .u32 (bits .xor .u32 a ((a + b) % 4294967296)) (bits .xor .u32 b ((a + b) % 4294967296))) 2147483648 != 0) = sAddOv a b := by
  rw [over_bit ha ha' hb hb' (by omega) (by omega) _ (by omega) (by omega)]
  unfold sAddOv
  apply bool_or4
  unfold wrap32
  omega
theorem sub_over {a b : Int} (ha : 0 ≤ a) (ha' : a ≤ 4294967295) (hb : 0 ≤ b) (hb' : b ≤ 4294967295) :
    (bits .and .u32 (bits .and .u32 (bits .xor .u32 a b) (bits .xor .u32 a ((a - b) % 4294967296))) 2147483648 != 0) = sSubOv a b := by
  rw [over_bit ha ha' ha ha' hb hb' _ (by omega) (by omega)]
  unfold sSubOv
  apply bool_or4
  unfold wrap32
  omega
/-- The low m bits by a mask, on 64 bits. -/
theorem and_mask64 (m : Nat) (hm : m ≤ 63) {v : Int} (h0 : 0 ≤ v) (h1 : v ≤ 18446744073709551615) : bits .and .u64 v (2 ^ m - 1) = v % 2 ^ m := by
  have hp : (2 ^ m : Nat) ≤ 2 ^ 63 := Nat.pow_le_pow_right (by omega) hm
  have hq : 1 ≤ (2 ^ m : Nat) := Nat.one_le_two_pow
  have e : ((2 : Int) ^ m) = ((2 ^ m : Nat) : Int) := by simp
  rw [e, u64_and v _ h0 (by omega) (by omega) (by omega)]
  have : (((2 ^ m : Nat) : Int) - 1).toNat = 2 ^ m - 1 := by omega
  rw [this, Nat.and_two_pow_sub_one_eq_mod, Int.natCast_emod, Int.toNat_of_nonneg h0]

/-! What the functions of package bits tell, in plain numbers. -/
def sShr (v n : Int) : Int := v / 2 ^ (n % 32).toNat
def sShl (v n : Int) : Int := v * 2 ^ (n % 32).toNat % 4294967296
def sSar (v n : Int) : Int := wrap32 v / 2 ^ (n % 32).toNat % 4294967296
def sSext (v n : Int) : Int := wrap32 (v * 2 ^ (32 - max 1 (min n 32)).toNat % 4294967296) / 2 ^ (32 - max 1 (min n 32)).toNat % 4294967296
def sField (w a n : Int) : Int := w / 2 ^ (max 0 (min a 31)).toNat % 2 ^ (max 0 (min n (32 - max 0 (min a 31)))).toNat
def sMulHi (a b : Int) (s : Bool) : Int := if s then wrap32 a * wrap32 b / 4294967296 % 4294967296 else a * b / 4294967296
def sMulLo (a b : Int) : Int := a * b % 4294967296
def sQuo (a b : Int) (s : Bool) : Int := if b = 0 then 0 else if s then Int.tdiv (wrap32 a) (wrap32 b) % 4294967296 else a / b
def sRem (a b : Int) (s : Bool) : Int := if b = 0 then 0 else if s then Int.tmod (wrap32 a) (wrap32 b) % 4294967296 else a % b
def sZeros (v : Int) : Int := 32 - (Lib.bitLen v.toNat : Int)
end Go.Proofs.Ytpnkgmmaanpgiaa
