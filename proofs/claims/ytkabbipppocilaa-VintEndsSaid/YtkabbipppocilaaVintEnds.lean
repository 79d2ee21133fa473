/- The closed law of vint: where a byte more is needed; the greatest number; what is none. -/
import Derived.Test.YtkabbipppocilaaVintCon4
namespace Go.Proofs.Ytkabbipppocilaa
open Go.RowKit
set_option linter.unusedVariables false
theorem vput_exact (k : Nat) : ∀ v : Nat, 128 ^ k ≤ v → v < 128 ^ (k + 1) → (vput v).length = k + 1 := by
  induction k with
  | zero => intro v _ h; rw [vput_small (by simpa using h)]; rfl
  | succ k ih =>
    intro v h1 h2
    have hp : 1 ≤ 128 ^ k := Nat.one_le_pow _ _ (by omega)
    rw [Nat.pow_succ] at h1 h2
    rw [vput_more (by omega), List.length_cons, ih (v / 128) (by omega) (by omega)]
theorem reads_nil (w : World) : Reads w none 0 [] := ⟨fun _ => ⟨rfl, rfl⟩, fun b h => (by cases h), Nat.le_refl _⟩
theorem Put_len (n : Nat) (V : Int) (w : World) (h0 : 0 ≤ V) (h1 : V < 18446744073709551616) (hl : (vput V.toNat).length = n) :
    Calls Try.prog 7 #[.slice none 0 0, .int .u64 V] w fun e w' => (∃ g c, e = .returned (.slice (some ⟨g, 0, none⟩) n c)) ∧ Below w.heap.size w w' := by
  obtain ⟨v, rfl⟩ : ∃ v : Nat, V = v := ⟨V.toNat, by omega⟩
  refine (Put_r none [] 0 v w (reads_nil w) (by omega) (by simp)).mono ?_
  rintro e w' ⟨g, c, rfl, _, _, hb⟩
  rw [Int.toNat_natCast] at hl
  exact ⟨⟨g, c, by rw [List.nil_append, hl]⟩, hb⟩
theorem reads_new (w : World) (e : TypeId) (xs : List Int) : Reads (w.alloc (.cells (bv xs).toArray e)) (some ⟨w.heap.size, 0, none⟩) xs.length xs := by
  refine ⟨by simp, fun b hb j u hj => ?_, Nat.le_refl _⟩
  injection hb with hb; subst hb
  have hadd : (⟨w.heap.size, 0, none⟩ : Addr).add j = ⟨w.heap.size, j, none⟩ := by unfold Addr.add; split <;> simp_all
  rw [hadd, World.cell?_alloc_new]
  simpa using hj
def pw (n : Nat) : Int := (128 ^ n - 1) % 18446744073709551616
theorem Get_new (w : World) (b : Nat) (hb : b = w.heap.size) (e : TypeId) (xs : List Int) (k : Int) (r : Int × Int × Int) (hr : sGet xs k = r) (hby : ∀ x ∈ xs, 0 ≤ x ∧ x ≤ 255) (hn : xs.length ≤ 9223372036854775807) :
    Calls Try.prog 8 #[.slice (some ⟨b, 0, none⟩) xs.length xs.length, .int .i64 k] (w.alloc (.cells (bv xs).toArray e)) fun e' w' => e' = .returned (.tuple #[.int .u64 r.1, .int .i64 r.2.1, .int .i64 r.2.2]) ∧ w.alloc (.cells (bv xs).toArray e) = w' := by
  subst hr; subst hb
  exact Get_c _ xs _ k _ (reads_new w e xs) hby hn
theorem Get_m (a : Option Addr) (xs : List Int) (m c : Nat) (k : Int) (r : Int × Int × Int) (w : World) (hm : xs.length = m) (hr : sGet xs k = r) (hx : Reads w a c xs) (hby : ∀ x ∈ xs, 0 ≤ x ∧ x ≤ 255) (hn : m ≤ 9223372036854775807) :
    Calls Try.prog 8 #[.slice a m c, .int .i64 k] w fun e w' => e = .returned (.tuple #[.int .u64 r.1, .int .i64 r.2.1, .int .i64 r.2.2]) ∧ w = w' := by
  subst hm; subst hr
  exact Get_c a xs c k w hx hby hn
theorem Put_top (w : World) : Calls Try.prog 7 #[.slice none 0 0, .int .u64 18446744073709551615] w fun e w' =>
    ∃ g c, e = .returned (.slice (some ⟨g, 0, none⟩) 10 c) ∧ Reads w' (some ⟨g, 0, none⟩) c (vput 18446744073709551615) ∧ Below w.heap.size w w' := by
  refine (Put_r none [] 0 18446744073709551615 w (reads_nil w) (by omega) (by simp)).mono ?_
  rintro e w' ⟨g, c, rfl, _, hr, hb⟩
  rw [List.nil_append] at hr
  have hl := vput_exact 9 18446744073709551615 (by decide) (by decide)
  exact ⟨g, c, by rw [List.nil_append, hl], hr, hb⟩
theorem sGet_top : sGet (vput 18446744073709551615) 0 = (18446744073709551615, 10, 0) := by
  have h := sGet_vput (v := 18446744073709551615) (by omega) [] []
  rw [List.append_nil, List.nil_append, vput_exact 9 18446744073709551615 (by decide) (by decide)] at h
  exact h
def top : List Int := vput 18446744073709551615
theorem top_len : top.length = 10 := vput_exact 9 18446744073709551615 (by decide) (by decide)
theorem top_by : ∀ x ∈ top, 0 ≤ x ∧ x ≤ 255 := vput_bytes (by omega)
set_option maxRecDepth 20000 in
set_option maxHeartbeats 4000000 in
theorem VintEnds_walk (W : World) : Calls Try.prog 4 #[] W fun e W' => e = .returned (.bool true) ∧ Below W.heap.size W W' := by
  go_enter Try.func4, Try.ntmps4
  go_wp2_with fail
  go_loopw [1, 2] (fun v i wr => ∃ n : Nat, 1 ≤ n ∧ n ≤ 10 ∧ i = .int .i64 n ∧ v = .int .u64 (pw n) ∧ Below W.heap.size W wr) (fun _ i _ => 10 - (intOf i).toNat)
  case atStart => exact ⟨1, by omega, by omega, rfl, rfl, Below.refl _ _⟩
  case round =>
    obtain ⟨n, h1, h10, rfl, rfl, hb⟩ := hrel
    have HB := Lib.hid hb
    clear hb
    rcases (show n = 1 ∨ n = 2 ∨ n = 3 ∨ n = 4 ∨ n = 5 ∨ n = 6 ∨ n = 7 ∨ n = 8 ∨ n = 9 ∨ n = 10 by omega) with rfl | rfl | rfl | rfl | rfl | rfl | rfl | rfl | rfl | rfl
    · rw [show pw 1 = 127 from rfl]
      go_wp2_with fail
      refine (Put_len 1 127 _ (by omega) (by omega) (vput_exact 0 _ (by decide) (by decide))).mono ?_
      rintro e w1 ⟨⟨g, c, rfl⟩, hb1⟩
      have HB1 := Lib.hid hb1
      clear hb1
      go_wp2_with fail
      refine (Put_len 2 128 _ (by omega) (by omega) (vput_exact 1 _ (by decide) (by decide))).mono ?_
      rintro e w2 ⟨⟨g2, c2, rfl⟩, hb2⟩
      have HB2 := Lib.hid hb2
      clear hb2
      go_wp2_with fail
      go_roundw
      case rel => exact ⟨2, by omega, by omega, rfl, rfl, HB.out.trans ((HB1.out.trans (HB2.out.mono HB1.out.size)).mono HB.out.size)⟩
      case measure => simp [intOf]
    · rw [show pw 2 = 16383 from rfl]
      go_wp2_with fail
      refine (Put_len 2 16383 _ (by omega) (by omega) (vput_exact 1 _ (by decide) (by decide))).mono ?_
      rintro e w1 ⟨⟨g, c, rfl⟩, hb1⟩
      have HB1 := Lib.hid hb1
      clear hb1
      go_wp2_with fail
      refine (Put_len 3 16384 _ (by omega) (by omega) (vput_exact 2 _ (by decide) (by decide))).mono ?_
      rintro e w2 ⟨⟨g2, c2, rfl⟩, hb2⟩
      have HB2 := Lib.hid hb2
      clear hb2
      go_wp2_with fail
      go_roundw
      case rel => exact ⟨3, by omega, by omega, rfl, rfl, HB.out.trans ((HB1.out.trans (HB2.out.mono HB1.out.size)).mono HB.out.size)⟩
      case measure => simp [intOf]
    · rw [show pw 3 = 2097151 from rfl]
      go_wp2_with fail
      refine (Put_len 3 2097151 _ (by omega) (by omega) (vput_exact 2 _ (by decide) (by decide))).mono ?_
      rintro e w1 ⟨⟨g, c, rfl⟩, hb1⟩
      have HB1 := Lib.hid hb1
      clear hb1
      go_wp2_with fail
      refine (Put_len 4 2097152 _ (by omega) (by omega) (vput_exact 3 _ (by decide) (by decide))).mono ?_
      rintro e w2 ⟨⟨g2, c2, rfl⟩, hb2⟩
      have HB2 := Lib.hid hb2
      clear hb2
      go_wp2_with fail
      go_roundw
      case rel => exact ⟨4, by omega, by omega, rfl, rfl, HB.out.trans ((HB1.out.trans (HB2.out.mono HB1.out.size)).mono HB.out.size)⟩
      case measure => simp [intOf]
    · rw [show pw 4 = 268435455 from rfl]
      go_wp2_with fail
      refine (Put_len 4 268435455 _ (by omega) (by omega) (vput_exact 3 _ (by decide) (by decide))).mono ?_
      rintro e w1 ⟨⟨g, c, rfl⟩, hb1⟩
      have HB1 := Lib.hid hb1
      clear hb1
      go_wp2_with fail
      refine (Put_len 5 268435456 _ (by omega) (by omega) (vput_exact 4 _ (by decide) (by decide))).mono ?_
      rintro e w2 ⟨⟨g2, c2, rfl⟩, hb2⟩
      have HB2 := Lib.hid hb2
      clear hb2
      go_wp2_with fail
      go_roundw
      case rel => exact ⟨5, by omega, by omega, rfl, rfl, HB.out.trans ((HB1.out.trans (HB2.out.mono HB1.out.size)).mono HB.out.size)⟩
      case measure => simp [intOf]
    · rw [show pw 5 = 34359738367 from rfl]
      go_wp2_with fail
      refine (Put_len 5 34359738367 _ (by omega) (by omega) (vput_exact 4 _ (by decide) (by decide))).mono ?_
      rintro e w1 ⟨⟨g, c, rfl⟩, hb1⟩
      have HB1 := Lib.hid hb1
      clear hb1
      go_wp2_with fail
      refine (Put_len 6 34359738368 _ (by omega) (by omega) (vput_exact 5 _ (by decide) (by decide))).mono ?_
      rintro e w2 ⟨⟨g2, c2, rfl⟩, hb2⟩
      have HB2 := Lib.hid hb2
      clear hb2
      go_wp2_with fail
      go_roundw
      case rel => exact ⟨6, by omega, by omega, rfl, rfl, HB.out.trans ((HB1.out.trans (HB2.out.mono HB1.out.size)).mono HB.out.size)⟩
      case measure => simp [intOf]
    · rw [show pw 6 = 4398046511103 from rfl]
      go_wp2_with fail
      refine (Put_len 6 4398046511103 _ (by omega) (by omega) (vput_exact 5 _ (by decide) (by decide))).mono ?_
      rintro e w1 ⟨⟨g, c, rfl⟩, hb1⟩
      have HB1 := Lib.hid hb1
      clear hb1
      go_wp2_with fail
      refine (Put_len 7 4398046511104 _ (by omega) (by omega) (vput_exact 6 _ (by decide) (by decide))).mono ?_
      rintro e w2 ⟨⟨g2, c2, rfl⟩, hb2⟩
      have HB2 := Lib.hid hb2
      clear hb2
      go_wp2_with fail
      go_roundw
      case rel => exact ⟨7, by omega, by omega, rfl, rfl, HB.out.trans ((HB1.out.trans (HB2.out.mono HB1.out.size)).mono HB.out.size)⟩
      case measure => simp [intOf]
    · rw [show pw 7 = 562949953421311 from rfl]
      go_wp2_with fail
      refine (Put_len 7 562949953421311 _ (by omega) (by omega) (vput_exact 6 _ (by decide) (by decide))).mono ?_
      rintro e w1 ⟨⟨g, c, rfl⟩, hb1⟩
      have HB1 := Lib.hid hb1
      clear hb1
      go_wp2_with fail
      refine (Put_len 8 562949953421312 _ (by omega) (by omega) (vput_exact 7 _ (by decide) (by decide))).mono ?_
      rintro e w2 ⟨⟨g2, c2, rfl⟩, hb2⟩
      have HB2 := Lib.hid hb2
      clear hb2
      go_wp2_with fail
      go_roundw
      case rel => exact ⟨8, by omega, by omega, rfl, rfl, HB.out.trans ((HB1.out.trans (HB2.out.mono HB1.out.size)).mono HB.out.size)⟩
      case measure => simp [intOf]
    · rw [show pw 8 = 72057594037927935 from rfl]
      go_wp2_with fail
      refine (Put_len 8 72057594037927935 _ (by omega) (by omega) (vput_exact 7 _ (by decide) (by decide))).mono ?_
      rintro e w1 ⟨⟨g, c, rfl⟩, hb1⟩
      have HB1 := Lib.hid hb1
      clear hb1
      go_wp2_with fail
      refine (Put_len 9 72057594037927936 _ (by omega) (by omega) (vput_exact 8 _ (by decide) (by decide))).mono ?_
      rintro e w2 ⟨⟨g2, c2, rfl⟩, hb2⟩
      have HB2 := Lib.hid hb2
      clear hb2
      go_wp2_with fail
      go_roundw
      case rel => exact ⟨9, by omega, by omega, rfl, rfl, HB.out.trans ((HB1.out.trans (HB2.out.mono HB1.out.size)).mono HB.out.size)⟩
      case measure => simp [intOf]
    · rw [show pw 9 = 9223372036854775807 from rfl]
      go_wp2_with fail
      refine (Put_len 9 9223372036854775807 _ (by omega) (by omega) (vput_exact 8 _ (by decide) (by decide))).mono ?_
      rintro e w1 ⟨⟨g, c, rfl⟩, hb1⟩
      have HB1 := Lib.hid hb1
      clear hb1
      go_wp2_with fail
      refine (Put_len 10 9223372036854775808 _ (by omega) (by omega) (vput_exact 9 _ (by decide) (by decide))).mono ?_
      rintro e w2 ⟨⟨g2, c2, rfl⟩, hb2⟩
      have HB2 := Lib.hid hb2
      clear hb2
      go_wp2_with fail
      go_roundw
      case rel => exact ⟨10, by omega, by omega, rfl, rfl, HB.out.trans ((HB1.out.trans (HB2.out.mono HB1.out.size)).mono HB.out.size)⟩
      case measure => simp [intOf]
    · go_wp2_with fail
      refine (Put_top _).mono ?_
      rintro e w1 ⟨g, c, rfl, hr, hb1⟩
      have HR := Lib.hid hr
      have HB1 := Lib.hid (HB.out.trans (hb1.mono HB.out.size))
      clear hr hb1
      go_wp2_with fail
      refine (Get_m _ top 10 c 0 (18446744073709551615, 10, 0) _ top_len sGet_top HR.out top_by (by omega)).mono ?_
      rintro e w2 ⟨rfl, rfl⟩
      go_wp2_with fail
      refine (Get_new _ _ rfl _ [255, 255, 255, 255, 255, 255, 255, 255, 255, 2] 0 (0, 0, 4) (by decide) (by decide) (by decide)).mono ?_
      rintro e w2 ⟨rfl, rfl⟩
      go_wp2_with fail
      refine (Get_new _ _ (by simp) _ [128, 0] 0 (0, 0, 4) (by decide) (by decide) (by decide)).mono ?_
      rintro e w2 ⟨rfl, rfl⟩
      go_wp2_with fail
      refine (Get_new _ _ (by simp) _ [128] 0 (0, 0, 3) (by decide) (by decide) (by decide)).mono ?_
      rintro e w2 ⟨rfl, rfl⟩
      go_wp2_with fail
      refine (Get_m none [] 0 0 1 (0, 0, 1) _ rfl (by decide) (reads_nil _) (by simp) (by omega)).mono ?_
      rintro e w2 ⟨rfl, rfl⟩
      go_wp2_with (go_at_call 9; refine (awake_c _).mono ?_; rintro e w2 ⟨rfl, hb2⟩)
      go_ret
      refine ⟨rfl, ?_⟩
      have h3 : Below W.heap.size W (((w1.alloc (.cells (bv [255, 255, 255, 255, 255, 255, 255, 255, 255, 2]).toArray 5)).alloc (.cells (bv [128, 0]).toArray 5)).alloc (.cells (bv [128]).toArray 5)) :=
        ((HB1.out.alloc HB1.out.size _).alloc (by have := HB1.out.size; simp; omega) _).alloc (by have := HB1.out.size; simp; omega) _
      exact h3.trans (hb2.mono h3.size)
end Go.Proofs.Ytkabbipppocilaa
