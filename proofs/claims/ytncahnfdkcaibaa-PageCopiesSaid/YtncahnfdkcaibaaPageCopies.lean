/- PageCopies: the walk. -/
import Derived.Test.YtncahnfdkcaibaaPageKit
import Derived.Test.YtncahnfdkcaibaaRowWords
import Derived.Deep.DeepCutAuto
namespace Go.Proofs.Ytncahnfdkcaibaa
open Go Go.RowKit
set_option linter.unusedVariables false
theorem isRow_at {k : IntKind} {w : World} {a : Option Addr} {l c : Nat} {z : List Int} (h : IsRow k w a l c z) (i : Nat) (hi : i < l) :
    ∃ b off, a = some ⟨b, off, none⟩ ∧ b < w.heap.size ∧ w.cell? ⟨b, off + i, none⟩ = some (.int k (z.getD i 0)) := by
  rcases h with ⟨_, rfl, _⟩ | ⟨x, rfl, hl, _, hz, hc, _⟩
  · omega
  · have hx : ∃ b off, x = ⟨b, off, none⟩ := by
      obtain ⟨bb, off, sp⟩ := x
      have : sp = none := by simpa [Addr.add] using World.cell?_spot (hc 0 (by omega))
      exact ⟨bb, off, by rw [this]⟩
    obtain ⟨b, off, rfl⟩ := hx
    have := hc i (by omega)
    have hadd : (⟨b, off, none⟩ : Addr).add i = ⟨b, off + i, none⟩ := by unfold Addr.add; split <;> simp_all
    rw [hadd] at this
    refine ⟨b, off, rfl, ?_, this⟩
    by_cases hb : b < w.heap.size
    · exact hb
    · have h0 : w.heap[b]? = none := by simp; omega
      simp [World.cell?, h0] at this
set_option maxRecDepth 20000 in
set_option maxHeartbeats 4000000 in
theorem PageCopies_walk (a0 : Option Addr) (l0 c0 : Nat) (z0 : List Int) (a1 a2 a3 : Int) (W : World) (w0 : IsRow .u8 W a0 l0 c0 z0) (s0 : l0 * 1 ≤ 140737488351232) (w1 : (Lit.int .i64 a1).wf = true) (w2 : (Lit.int .u8 a2).wf = true) (w3 : (Lit.int .i64 a3).wf = true) :
    Calls Try.prog 4 #[.slice a0 l0 c0, .int .i64 a1, .int .u8 a2, .int .i64 a3] W fun e W' => e = .returned (.bool true) ∧ Below W.heap.size W W' := by
  obtain ⟨b1, b2⟩ := bounds_i64 w1
  obtain ⟨b3, b4⟩ := bounds_i64 w3
  have HR := Lib.hid w0
  clear w0 w1 w2 w3
  have hA := Lib.hid (PageAt.new W noughts_len (a3 % 8) 0)
  have hB0 := Lib.hid (show Below W.heap.size W (W.alloc (.cells (pcells noughts (a3 % 8) 0) 51)) from (Below.refl _ _).alloc (Nat.le_refl _) _)
  generalize hw1 : W.alloc (.cells (pcells noughts (a3 % 8) 0) 51) = w1 at hA hB0
  have HW := Lib.hid hw1
  clear hw1
  by_cases hl : 200 < l0
  · have hl' : (200 : Int) < l0 := by omega
    go_enter Try.func4, Try.ntmps4
    go_wp2_with (first | (go_at_call 6; refine (New_c _ _).mono ?_; rintro e w' ⟨rfl, hq⟩; rw [HW.out] at hq; subst hq) | (go_at_call 12; refine (awake_c _).mono ?_; rintro e w2 ⟨rfl, hb2⟩))
    go_ret
    exact ⟨rfl, hB0.out.trans (hb2.mono hB0.out.size)⟩
  · have hl' : ¬ (200 : Int) < l0 := by omega
    go_enter Try.func4, Try.ntmps4
    go_wp2_with (first | (go_at_call 6; refine (New_c _ _).mono ?_; rintro e w' ⟨rfl, hq⟩; rw [HW.out] at hq; subst hq))
    go_loopw [10] (fun si wr => ∃ (k : Nat) (bs : List Int), si = .int .i64 k ∧ k ≤ l0 ∧ Hid (PageAt wr W.heap.size bs (a3 % 8) k) ∧ Hid (Below W.heap.size W wr)) (fun si _ => l0 - (intOf si).toNat)
    case atStart => exact ⟨0, noughts, rfl, by omega, hA, hB0⟩
    case round =>
      obtain ⟨k, bs, rfl, hk, hP, hB⟩ := hrel
      by_cases hlt : k < l0
      · obtain ⟨b, off, rfl, hbl, hc⟩ := isRow_at HR.out k hlt
        have hc' : wr.cell? ⟨b, off + k, none⟩ = some (.int .u8 (z0.getD k 0)) := by rw [hB.out.cell (p := ⟨b, off + k, none⟩) hbl]; exact hc
        clear hc
        generalize z0.getD k 0 = V at hc'
        go_wp2_with fail
        refine (SetByte_c _ _ _ _ k V _ hP.out (by omega) (by omega) (by omega) (by omega)).mono ?_
        rintro e w2 ⟨rfl, hP2, hb2⟩
        have hP3 : Hid (PageAt w2 W.heap.size (bs.set k V) (a3 % 8) ((k + 1 : Nat) : Int)) := by
          have hin : (0 : Int) ≤ k ∧ (k : Int) < 256 := by omega
          rw [if_pos hin, if_pos hin] at hP2
          simpa [Hid] using hP2
        have hB3 : Hid (Below W.heap.size W w2) := by
          have h := hB.out
          exact ⟨hb2.os.trans h.os, hb2.tape.trans h.tape, hb2.output.trans h.output, by rw [hb2.size]; exact h.size, fun j hj => (hb2.block j (by omega)).trans (h.block j hj)⟩
        clear hP2 hb2
        go_wp2_with fail
        go_roundw
        case rel => exact ⟨k + 1, _, by go_num, by omega, hP3, hB3⟩
        case measure => simp [intOf]; omega
      · obtain rfl : k = l0 := by omega
        go_wp2_with fail
        obtain ⟨n, hn⟩ : ∃ n : Nat, a1 % 256 = n := ⟨(a1 % 256).toNat, by omega⟩
        have hn2 : n < 256 := by omega
        refine (Place_c a1 256 _ (by omega) (by omega) (by omega) (by omega)).mono ?_
        rintro e w2 ⟨rfl, rfl⟩
        rw [hn]
        have hlen := hP.out.len
        have hin : (0 : Int) ≤ n ∧ (n : Int) < 256 := by omega
        have hPc := (hP.out.alloc (.cells (pcells bs (a3 % 8) k) 51)).drew.drew
        have hQc := (PageAt.new wr hlen (a3 % 8) k).drew.drew
        have hBc : Below W.heap.size W ((wr.alloc (.cells (pcells bs (a3 % 8) k) 51)).drewN 2) := by
          have h := hB.out.alloc hB.out.size (.cells (pcells bs (a3 % 8) k) 51)
          exact ⟨h.os, h.tape, h.output, h.size, h.block⟩
        have hne : W.heap.size ≠ wr.heap.size := by have := hP.out.lt; omega
        have hPc' : PageAt ((wr.alloc (.cells (pcells bs (a3 % 8) k) 51)).drewN 2) W.heap.size bs (a3 % 8) k := hPc
        have hQc' : PageAt ((wr.alloc (.cells (pcells bs (a3 % 8) k) 51)).drewN 2) wr.heap.size bs (a3 % 8) k := hQc
        clear hPc hQc
        have hmw : W.heap.size ≤ wr.heap.size := hB.out.size
        generalize hwc : (wr.alloc (.cells (pcells bs (a3 % 8) k) 51)).drewN 2 = wc at hPc' hQc' hBc
        generalize hm : wr.heap.size = m at hQc' hne hmw
        have HMW := Lib.hid hmw
        clear hmw
        go_wp2_with fail
        refine (Copy_c _ _ _ _ _ hP.out).mono ?_
        rintro e w2 ⟨rfl, hq⟩
        rw [hwc] at hq
        rw [hm]
        subst hq
        clear hwc hm
        have HP := Lib.hid hPc'
        have HQ := Lib.hid hQc'
        have HB := Lib.hid hBc
        have HN := Lib.hid hne
        clear hPc' hQc' hBc hne
        have h7 := and7 a3
        have h8 := and7 (a3 % 8 + 1)
        have HIN := Lib.hid hin
        have HL := Lib.hid hlen
        clear hlen
        obtain ⟨BV, hbv⟩ : ∃ BV, bs.getD n 0 = BV := ⟨_, rfl⟩
        have HV := Lib.hid hbv
        clear hbv
        go_wp2_with (first | (go_at_call 11; refine (Writes_c _ _ _ _ _ HQ.out).mono ?_; rintro e w' ⟨rfl, rfl⟩) | (go_at_call 10; refine (Byte_c _ _ _ _ _ _ HP.out (by omega) (by omega)).mono ?_; rintro e w' ⟨he, rfl⟩; rw [if_pos HIN.out, Int.toNat_natCast, HV.out] at he; subst he))
        refine (SetByte_c _ _ _ _ n a2 _ HQ.out (by omega) (by omega) (by omega) (by omega)).mono ?_
        rintro e w3 ⟨rfl, hQ3, hb3⟩
        rw [if_pos HIN.out, if_pos HIN.out, Int.toNat_natCast] at hQ3
        have hP3 := HP.out.but hb3 HN.out
        have HQ3 := Lib.hid hQ3
        have HP3 := Lib.hid hP3
        have HB3 := Lib.hid hb3
        clear hQ3 hP3 hb3
        go_wp2_with fail
        have hwp : wrap64 (a3 + 1) % 8 = (a3 % 8 + 1) % 8 := by unfold wrap64; omega
        refine (SetPerm_c _ _ _ _ _ _ HQ3.out (by unfold wrap64; omega) (by unfold wrap64; omega)).mono ?_
        rintro e w4 ⟨rfl, hQ4, hb4⟩
        rw [hwp] at hQ4
        have hP4 := HP3.out.but hb4 HN.out
        have HQ4 := Lib.hid hQ4
        have HP4 := Lib.hid hP4
        have HB4 := Lib.hid (HB3.out.trans hb4)
        have hg : (bs.set n a2).getD n 0 = a2 := by simp [HL.out, hn2]
        have HG := Lib.hid hg
        clear hQ4 hP4 hb4 hg hwp
        clear HR hl hl' hk hlt s0 hn
        go_wp2_with fail
        refine (Byte_c _ _ _ _ _ _ HP4.out (by omega) (by omega)).mono ?_
        rintro e w' ⟨he, rfl⟩; rw [if_pos HIN.out, Int.toNat_natCast, HV.out] at he; subst he
        go_wp2_with fail
        refine (Byte_c _ _ _ _ _ _ HQ4.out (by omega) (by omega)).mono ?_
        rintro e w' ⟨he, rfl⟩; rw [if_pos HIN.out, Int.toNat_natCast, HG.out] at he; subst he
        go_wp2_with fail
        refine (Perm_c _ _ _ _ _ HP4.out).mono ?_
        rintro e w' ⟨rfl, rfl⟩
        go_wp2_with fail
        refine (Perm_c _ _ _ _ _ HQ4.out).mono ?_
        rintro e w' ⟨rfl, rfl⟩
        go_wp2_with fail
        refine (Writes_c _ _ _ _ _ HP4.out).mono ?_
        rintro e w' ⟨rfl, rfl⟩
        go_wp2_with fail
        refine (Writes_c _ _ _ _ _ HQ4.out).mono ?_
        rintro e w' ⟨rfl, rfl⟩
        go_wp2_with fail
        refine (awake_c _).mono ?_
        rintro e w2 ⟨rfl, hb2⟩
        go_wp2_with fail
        go_ret
        have h4 := HB4.out
        have hb := HB.out
        have hlt4 : W.heap.size ≤ m := by have := HN.out; have := HMW.out; omega
        have hB4 : Below W.heap.size W w4 := ⟨h4.os.trans hb.os, h4.tape.trans hb.tape, h4.output.trans hb.output, by rw [h4.size]; exact hb.size, fun j hj => (h4.block j (by omega)).trans (hb.block j hj)⟩
        exact ⟨rfl, hB4.trans (hb2.mono hB4.size)⟩
end Go.Proofs.Ytncahnfdkcaibaa
