/- The reference's Word: the same number. -/
import Derived.Test.YthgigkjnbflnpaaBitWord
namespace Go.Proofs.Ythgigkjnbflnpaa
open Go.RowKit
set_option linter.unusedVariables false
set_option linter.unusedSimpArgs false
theorem rword_case (w : World) (a : Option Addr) (xs : List Int) (k j : Int) (hb : Bytes8 w a xs) (i0 : 0 ≤ j) (i1 : j ≤ 3) :
    (-j ≤ k ∧ k < xs.length - j ∧ 0 ≤ k + j ∧ k + j < xs.length ∧ ∃ b off, a = some ⟨b, off, none⟩ ∧ b < w.heap.size ∧ w.cell? ⟨b, off + (k + j).toNat, none⟩ = some (.int .u8 (sByte xs (k + j)))) ∨
      (k < -j ∧ sByte xs (k + j) = 0) ∨ (-j ≤ k ∧ (xs.length : Int) - j ≤ k ∧ sByte xs (k + j) = 0) := by
  by_cases hr : 0 ≤ k + j ∧ k + j < xs.length
  · obtain ⟨b, off, rfl, hbl, hc⟩ := hb.at (k + j).toNat (by omega)
    have hg := sByte_in hr.1 hr.2
    refine Or.inl ⟨by omega, by omega, hr.1, hr.2, b, off, rfl, hbl, ?_⟩
    rw [← hg]; exact hc
  · have hz := sByte_out hr
    by_cases h0 : k < -j
    · exact Or.inr (Or.inl ⟨h0, hz⟩)
    · exact Or.inr (Or.inr ⟨by omega, by omega, hz⟩)
def sAcc (xs : List Int) (k : Int) : Nat → Int
  | 0 => 0
  | 1 => sByte xs k
  | 2 => sByte xs k * 256 + sByte xs (k + 1)
  | 3 => (sByte xs k * 256 + sByte xs (k + 1)) * 256 + sByte xs (k + 2)
  | _ => sWord xs k
set_option maxHeartbeats 1000000 in
theorem rWord_c (a : Option Addr) (xs : List Int) (c : Nat) (k : Int) (w : World) (hb : Bytes8 w a xs) (hx : ∀ x ∈ xs, 0 ≤ x ∧ x ≤ 255) (hn : xs.length ≤ 9223372036854775807) (k0 : -9223372036854775808 ≤ k) (k1 : k ≤ 9223372036854775807) :
    Calls Try.prog 34 #[.slice a xs.length c, .int .i64 k] w fun e w' => e = .returned (.int .u32 (sWord xs k)) ∧ w = w' := by
  have HB := Lib.hid hb
  obtain ⟨s00, s01⟩ := sByte_bd xs k hx
  obtain ⟨s10, s11⟩ := sByte_bd xs (k + 1) hx
  obtain ⟨s20, s21⟩ := sByte_bd xs (k + 2) hx
  obtain ⟨s30, s31⟩ := sByte_bd xs (k + 3) hx
  clear hb hx
  go_enter Try.func34, Try.ntmps34
  go_wp2
  go_loop [5, 6] (fun v i => ∃ n : Nat, n ≤ 4 ∧ i = .int .i64 n ∧ v = .int .u32 (sAcc xs k n)) (fun _ i => 4 - (intOf i).toNat)
  case atStart => exact ⟨0, by omega, rfl, rfl⟩
  case round =>
    obtain ⟨n, hn4, rfl, rfl⟩ := hrel
    rcases (show n = 0 ∨ n = 1 ∨ n = 2 ∨ n = 3 ∨ n = 4 by omega) with rfl | rfl | rfl | rfl | rfl
    · have hc := rword_case w a xs k 0 HB.out (by omega) (by omega)
      simp only [Int.add_zero, Int.sub_zero, Int.neg_zero] at hc
      have ea : sAcc xs k 0 = 0 := rfl
      rcases hc with ⟨q0, q1, q2, q3, b, off, rfl, hbl, hc⟩ | ⟨q0, hz⟩ | ⟨q0, q1, hz⟩
      · go_wp2
        go_round
        case rel => exact ⟨1, by omega, rfl, by first | (simp only [sAcc, sWord]; done) | (simp only [sAcc, sWord]; congr 1 <;> omega)⟩
        case measure => simp [intOf]
      · have HZ := Lib.hid hz
        clear hz
        go_wp2
        go_round
        case rel => exact ⟨1, by omega, rfl, by first | (simp only [sAcc, sWord, HZ.out]; done) | (simp only [sAcc, sWord, HZ.out]; congr 1 <;> omega)⟩
        case measure => simp [intOf]
      · have HZ := Lib.hid hz
        clear hz
        go_wp2
        go_round
        case rel => exact ⟨1, by omega, rfl, by first | (simp only [sAcc, sWord, HZ.out]; done) | (simp only [sAcc, sWord, HZ.out]; congr 1 <;> omega)⟩
        case measure => simp [intOf]
    · have hc := rword_case w a xs k 1 HB.out (by omega) (by omega)
      skip
      have ea : sAcc xs k 1 = sByte xs k := rfl
      rcases hc with ⟨q0, q1, q2, q3, b, off, rfl, hbl, hc⟩ | ⟨q0, hz⟩ | ⟨q0, q1, hz⟩
      · go_wp2
        go_round
        case rel => exact ⟨2, by omega, rfl, by first | (simp only [sAcc, sWord]; done) | (simp only [sAcc, sWord]; congr 1 <;> omega)⟩
        case measure => simp [intOf]
      · have HZ := Lib.hid hz
        clear hz
        go_wp2
        go_round
        case rel => exact ⟨2, by omega, rfl, by first | (simp only [sAcc, sWord, HZ.out]; done) | (simp only [sAcc, sWord, HZ.out]; congr 1 <;> omega)⟩
        case measure => simp [intOf]
      · have HZ := Lib.hid hz
        clear hz
        go_wp2
        go_round
        case rel => exact ⟨2, by omega, rfl, by first | (simp only [sAcc, sWord, HZ.out]; done) | (simp only [sAcc, sWord, HZ.out]; congr 1 <;> omega)⟩
        case measure => simp [intOf]
    · have hc := rword_case w a xs k 2 HB.out (by omega) (by omega)
      skip
      have ea : sAcc xs k 2 = sByte xs k * 256 + sByte xs (k + 1) := rfl
      rcases hc with ⟨q0, q1, q2, q3, b, off, rfl, hbl, hc⟩ | ⟨q0, hz⟩ | ⟨q0, q1, hz⟩
      · go_wp2
        go_round
        case rel => exact ⟨3, by omega, rfl, by first | (simp only [sAcc, sWord]; done) | (simp only [sAcc, sWord]; congr 1 <;> omega)⟩
        case measure => simp [intOf]
      · have HZ := Lib.hid hz
        clear hz
        go_wp2
        go_round
        case rel => exact ⟨3, by omega, rfl, by first | (simp only [sAcc, sWord, HZ.out]; done) | (simp only [sAcc, sWord, HZ.out]; congr 1 <;> omega)⟩
        case measure => simp [intOf]
      · have HZ := Lib.hid hz
        clear hz
        go_wp2
        go_round
        case rel => exact ⟨3, by omega, rfl, by first | (simp only [sAcc, sWord, HZ.out]; done) | (simp only [sAcc, sWord, HZ.out]; congr 1 <;> omega)⟩
        case measure => simp [intOf]
    · have hc := rword_case w a xs k 3 HB.out (by omega) (by omega)
      skip
      have ea : sAcc xs k 3 = (sByte xs k * 256 + sByte xs (k + 1)) * 256 + sByte xs (k + 2) := rfl
      rcases hc with ⟨q0, q1, q2, q3, b, off, rfl, hbl, hc⟩ | ⟨q0, hz⟩ | ⟨q0, q1, hz⟩
      · go_wp2
        go_round
        case rel => exact ⟨4, by omega, rfl, by first | (simp only [sAcc, sWord]; done) | (simp only [sAcc, sWord]; congr 1 <;> omega)⟩
        case measure => simp [intOf]
      · have HZ := Lib.hid hz
        clear hz
        go_wp2
        go_round
        case rel => exact ⟨4, by omega, rfl, by first | (simp only [sAcc, sWord, HZ.out]; done) | (simp only [sAcc, sWord, HZ.out]; congr 1 <;> omega)⟩
        case measure => simp [intOf]
      · have HZ := Lib.hid hz
        clear hz
        go_wp2
        go_round
        case rel => exact ⟨4, by omega, rfl, by first | (simp only [sAcc, sWord, HZ.out]; done) | (simp only [sAcc, sWord, HZ.out]; congr 1 <;> omega)⟩
        case measure => simp [intOf]
    · go_wp2
      go_ret
      exact ⟨ret_int rfl, rfl⟩
end Go.Proofs.Ythgigkjnbflnpaa
