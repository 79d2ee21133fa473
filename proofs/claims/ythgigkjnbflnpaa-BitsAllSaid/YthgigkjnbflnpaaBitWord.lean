/- Word and Put of package bits and of the reference: bytes of a slice as a number, and back. -/
import Derived.Test.YthgigkjnbflnpaaBitRefA
namespace Go.Proofs.Ythgigkjnbflnpaa
open Go.RowKit
set_option linter.unusedVariables false
/-- The byte at a place of a list; 0 where there is none. -/
def sByte (xs : List Int) (k : Int) : Int := if 0 ≤ k ∧ k < xs.length then xs.getD k.toNat 0 else 0
def sWord (xs : List Int) (k : Int) : Int := ((sByte xs k * 256 + sByte xs (k + 1)) * 256 + sByte xs (k + 2)) * 256 + sByte xs (k + 3)
/-- The bytes of a slice at an address, as they stand in a world. -/
def Bytes8 (w : World) (a : Option Addr) (xs : List Int) : Prop := ∀ j, j < xs.length → ∃ b off, a = some ⟨b, off, none⟩ ∧ w.cell? ⟨b, off + j, none⟩ = some (.int .u8 (xs.getD j 0))
theorem lt_of_cell {w : World} {b o : Nat} {s : Option Nat} {v : Value} (h : w.cell? ⟨b, o, s⟩ = some v) : b < w.heap.size := by
  by_cases hb : b < w.heap.size
  · exact hb
  · have : w.heap[b]? = none := by simp; omega
    simp [World.cell?, this] at h
theorem Bytes8.at {w : World} {a : Option Addr} {xs : List Int} (h : Bytes8 w a xs) (j : Nat) (hj : j < xs.length) :
    ∃ b off, a = some ⟨b, off, none⟩ ∧ b < w.heap.size ∧ w.cell? ⟨b, off + j, none⟩ = some (.int .u8 (xs.getD j 0)) := by
  obtain ⟨b, off, rfl, hc⟩ := h j hj
  exact ⟨b, off, rfl, lt_of_cell hc, hc⟩
theorem Put_c (v : Int) (w : World) (h0 : 0 ≤ v) (h1 : v ≤ 4294967295) :
    Calls Try.prog 26 #[.int .u32 v] w fun e w' => e = .returned (.agg #[.int .u8 (v / 16777216), .int .u8 (v / 65536 % 256), .int .u8 (v / 256 % 256), .int .u8 (v % 256)]) ∧ Below w.heap.size w w' := by
  go_enter Try.func26, Try.ntmps26
  go_wp2
  exact bodyPost_ret (v := .agg #[.int .u8 (v / 16777216), .int .u8 (v / 65536 % 256), .int .u8 (v / 256 % 256), .int .u8 (v % 256)]) (by simp [results, Try.results26, go_sem]) rfl ⟨rfl, (Below.refl _ _).alloc (Nat.le_refl _) _⟩
theorem rPut_c (v : Int) (w : World) (h0 : 0 ≤ v) (h1 : v ≤ 4294967295) :
    Calls Try.prog 32 #[.int .u32 v] w fun e w' => e = .returned (.slice (some ⟨w.heap.size, 0, none⟩) 4 4) ∧
      w.alloc (.cells #[.int .u8 (v / 16777216), .int .u8 (v / 65536 % 256), .int .u8 (v / 256 % 256), .int .u8 (v % 256)] 5) = w' := by
  go_enter Try.func32, Try.ntmps32
  go_wp2
  go_ret
  exact ⟨rfl, rfl⟩
def part (k : Nat) (j : Nat) (x : Int) : Int := if j < k then x else 0
theorem sByte_in {xs : List Int} {k : Int} (h0 : 0 ≤ k) (h1 : k < xs.length) : xs.getD k.toNat 0 = sByte xs k := by unfold sByte; rw [if_pos ⟨h0, h1⟩]
theorem sByte_out {xs : List Int} {k : Int} (h : ¬ (0 ≤ k ∧ k < xs.length)) : sByte xs k = 0 := by unfold sByte; rw [if_neg h]
theorem in_wrap {k i : Int} {n : Nat} (i0 : 0 ≤ i) (i1 : i ≤ 3) (k0 : -9223372036854775808 ≤ k) (k1 : k ≤ 9223372036854775807) (hn : n ≤ 9223372036854775807) :
    (0 ≤ wrap64 (k + i) ∧ wrap64 (k + i) < n) ↔ (0 ≤ k + i ∧ k + i < n) := by unfold wrap64; omega
theorem wrap_same {k i : Int} {n : Nat} (i0 : 0 ≤ i) (i1 : i ≤ 3) (k0 : -9223372036854775808 ≤ k) (k1 : k ≤ 9223372036854775807) (hn : n ≤ 9223372036854775807) (h : 0 ≤ k + i ∧ k + i < n) : wrap64 (k + i) = k + i := by unfold wrap64; omega
theorem word_case (w : World) (a : Option Addr) (xs : List Int) (k j : Int) (hb : Bytes8 w a xs) (hn : xs.length ≤ 9223372036854775807) (k0 : -9223372036854775808 ≤ k) (k1 : k ≤ 9223372036854775807) (i0 : 0 ≤ j) (i1 : j ≤ 3) :
    ∃ q : Int, wrap64 (k + j) = q ∧ ((0 ≤ q ∧ q < xs.length ∧ xs.getD q.toNat 0 = sByte xs (k + j) ∧ ∃ b off, a = some ⟨b, off, none⟩ ∧ b < w.heap.size ∧ w.cell? ⟨b, off + q.toNat, none⟩ = some (.int .u8 (sByte xs (k + j)))) ∨
      (q < 0 ∧ sByte xs (k + j) = 0) ∨ (0 ≤ q ∧ (xs.length : Int) ≤ q ∧ sByte xs (k + j) = 0)) := by
  have hiff := in_wrap i0 i1 k0 k1 hn
  refine ⟨_, rfl, ?_⟩
  by_cases hr : 0 ≤ k + j ∧ k + j < xs.length
  · have hw := wrap_same i0 i1 k0 k1 hn hr
    obtain ⟨b, off, rfl, hbl, hc⟩ := hb.at (k + j).toNat (by omega)
    have hg := sByte_in hr.1 hr.2
    rw [hw]
    refine Or.inl ⟨hr.1, hr.2, hg, b, off, rfl, hbl, ?_⟩
    rw [← hg]; exact hc
  · have hz := sByte_out hr
    by_cases h0 : wrap64 (k + j) < 0
    · exact Or.inr (Or.inl ⟨h0, hz⟩)
    · refine Or.inr (Or.inr ⟨by omega, ?_, hz⟩)
      have := mt hiff.1 hr
      omega
theorem or_bytes (a b c d : Int) (a0 : 0 ≤ a) (a1 : a ≤ 255) (b0 : 0 ≤ b) (b1 : b ≤ 255) (c0 : 0 ≤ c) (c1 : c ≤ 255) (d0 : 0 ≤ d) (d1 : d ≤ 255) :
    bits .or .u32 (bits .or .u32 (bits .or .u32 (a * 16777216) (b * 65536)) (c * 256)) d = ((a * 256 + b) * 256 + c) * 256 + d := by
  have j1 (x y : Int) (m : Nat) (hx : 0 ≤ x) (hy : 0 ≤ y) (hx1 : x ≤ 4294967295) (hm : x.toNat % 2 ^ m = 0) (hy1 : y.toNat < 2 ^ m) (hy2 : y ≤ 4294967295) : bits .or .u32 x y = x + y := by
    rw [u32_or x y hx (by omega) hy (by omega), nat_join m _ _ hm hy1]
    omega
  rw [j1 (a * 16777216) (b * 65536) 24 (by omega) (by omega) (by omega) (by simp only [Nat.reducePow]; omega) (by simp only [Nat.reducePow]; omega) (by omega)]
  rw [j1 (a * 16777216 + b * 65536) (c * 256) 16 (by omega) (by omega) (by omega) (by simp only [Nat.reducePow]; omega) (by simp only [Nat.reducePow]; omega) (by omega)]
  rw [j1 (a * 16777216 + b * 65536 + c * 256) d 8 (by omega) (by omega) (by omega) (by simp only [Nat.reducePow]; omega) (by simp only [Nat.reducePow]; omega) (by omega)]
  omega
theorem sByte_bd (xs : List Int) (k : Int) (h : ∀ x ∈ xs, 0 ≤ x ∧ x ≤ 255) : 0 ≤ sByte xs k ∧ sByte xs k ≤ 255 := by
  unfold sByte
  split
  · rename_i hk
    have hl : k.toNat < xs.length := by omega
    have : xs.getD k.toNat 0 = xs[k.toNat] := by simp [hl]
    rw [this]; exact h _ (List.getElem_mem hl)
  · omega
set_option maxHeartbeats 1000000 in
theorem Word_c (a : Option Addr) (xs : List Int) (c : Nat) (k : Int) (w : World) (hb : Bytes8 w a xs) (hx : ∀ x ∈ xs, 0 ≤ x ∧ x ≤ 255) (hn : xs.length ≤ 9223372036854775807) (k0 : -9223372036854775808 ≤ k) (k1 : k ≤ 9223372036854775807) :
    Calls Try.prog 33 #[.slice a xs.length c, .int .i64 k] w fun e w' => e = .returned (.int .u32 (sWord xs k)) ∧ Below w.heap.size w w' := by
  have K := Lib.hid (And.intro k0 k1)
  have HB := Lib.hid hb
  have HN := Lib.hid hn
  obtain ⟨s00, s01⟩ := sByte_bd xs k hx
  obtain ⟨s10, s11⟩ := sByte_bd xs (k + 1) hx
  obtain ⟨s20, s21⟩ := sByte_bd xs (k + 2) hx
  obtain ⟨s30, s31⟩ := sByte_bd xs (k + 3) hx
  clear k0 k1 hb hn hx
  go_enter Try.func33, Try.ntmps33
  go_wp2
  go_loopw [8] (fun i wr => ∃ n : Nat, n ≤ 4 ∧ i = .int .i64 n ∧ wr = w.alloc (.cells #[.int .u8 (part n 0 (sByte xs k)), .int .u8 (part n 1 (sByte xs (k + 1))), .int .u8 (part n 2 (sByte xs (k + 2))), .int .u8 (part n 3 (sByte xs (k + 3)))] 37)) (fun i _ => 4 - (intOf i).toNat)
  case atStart => exact ⟨0, by omega, rfl, rfl⟩
  case round =>
    obtain ⟨n, hn4, rfl, rfl⟩ := hrel
    rcases (show n = 0 ∨ n = 1 ∨ n = 2 ∨ n = 3 ∨ n = 4 by omega) with rfl | rfl | rfl | rfl | rfl
    · obtain ⟨q, hq, hc⟩ := word_case w a xs k 0 HB.out HN.out K.out.1 K.out.2 (by omega) (by omega)
      simp only [Int.add_zero] at hq hc
      rcases hc with ⟨q0, q1, hg, b, off, rfl, hbl, hc⟩ | ⟨q0, hz⟩ | ⟨q0, q1, hz⟩
      · clear hg
        go_wp2
        go_roundw
        case rel => exact ⟨1, by omega, rfl, by simp [part]⟩
        case measure => simp [intOf]
      · have HZ := Lib.hid hz
        clear hz
        go_wp2
        go_roundw
        case rel => exact ⟨1, by omega, rfl, by simp [part, HZ.out]⟩
        case measure => simp [intOf]
      · have HZ := Lib.hid hz
        clear hz
        go_wp2
        go_roundw
        case rel => exact ⟨1, by omega, rfl, by simp [part, HZ.out]⟩
        case measure => simp [intOf]
    · obtain ⟨q, hq, hc⟩ := word_case w a xs k 1 HB.out HN.out K.out.1 K.out.2 (by omega) (by omega)
      skip
      rcases hc with ⟨q0, q1, hg, b, off, rfl, hbl, hc⟩ | ⟨q0, hz⟩ | ⟨q0, q1, hz⟩
      · clear hg
        go_wp2
        go_roundw
        case rel => exact ⟨2, by omega, rfl, by simp [part]⟩
        case measure => simp [intOf]
      · have HZ := Lib.hid hz
        clear hz
        go_wp2
        go_roundw
        case rel => exact ⟨2, by omega, rfl, by simp [part, HZ.out]⟩
        case measure => simp [intOf]
      · have HZ := Lib.hid hz
        clear hz
        go_wp2
        go_roundw
        case rel => exact ⟨2, by omega, rfl, by simp [part, HZ.out]⟩
        case measure => simp [intOf]
    · obtain ⟨q, hq, hc⟩ := word_case w a xs k 2 HB.out HN.out K.out.1 K.out.2 (by omega) (by omega)
      skip
      rcases hc with ⟨q0, q1, hg, b, off, rfl, hbl, hc⟩ | ⟨q0, hz⟩ | ⟨q0, q1, hz⟩
      · clear hg
        go_wp2
        go_roundw
        case rel => exact ⟨3, by omega, rfl, by simp [part]⟩
        case measure => simp [intOf]
      · have HZ := Lib.hid hz
        clear hz
        go_wp2
        go_roundw
        case rel => exact ⟨3, by omega, rfl, by simp [part, HZ.out]⟩
        case measure => simp [intOf]
      · have HZ := Lib.hid hz
        clear hz
        go_wp2
        go_roundw
        case rel => exact ⟨3, by omega, rfl, by simp [part, HZ.out]⟩
        case measure => simp [intOf]
    · obtain ⟨q, hq, hc⟩ := word_case w a xs k 3 HB.out HN.out K.out.1 K.out.2 (by omega) (by omega)
      skip
      rcases hc with ⟨q0, q1, hg, b, off, rfl, hbl, hc⟩ | ⟨q0, hz⟩ | ⟨q0, q1, hz⟩
      · clear hg
        go_wp2
        go_roundw
        case rel => exact ⟨4, by omega, rfl, by simp [part]⟩
        case measure => simp [intOf]
      · have HZ := Lib.hid hz
        clear hz
        go_wp2
        go_roundw
        case rel => exact ⟨4, by omega, rfl, by simp [part, HZ.out]⟩
        case measure => simp [intOf]
      · have HZ := Lib.hid hz
        clear hz
        go_wp2
        go_roundw
        case rel => exact ⟨4, by omega, rfl, by simp [part, HZ.out]⟩
        case measure => simp [intOf]
    · have e0 : part 4 0 (sByte xs k) = sByte xs k := rfl
      have e1 : part 4 1 (sByte xs (k + 1)) = sByte xs (k + 1) := rfl
      have e2 : part 4 2 (sByte xs (k + 2)) = sByte xs (k + 2) := rfl
      have e3 : part 4 3 (sByte xs (k + 3)) = sByte xs (k + 3) := rfl
      go_wp2
      go_ret
      refine ⟨ret_int ?_, (Below.refl _ _).alloc (Nat.le_refl _) _⟩
      exact or_bytes _ _ _ _ s00 s01 s10 s11 s20 s21 s30 s31
end Go.Proofs.Ythgigkjnbflnpaa
