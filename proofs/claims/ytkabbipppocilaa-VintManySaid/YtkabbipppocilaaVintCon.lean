/- What the functions of package vint answer: contracts over this program. -/
import Derived.Test.YtkabbipppocilaaProg
import Derived.Test.YtkabbipppocilaaVintFacts
import Derived.WalkKit
import Derived.Lib.Hide
import Derived.KernelRfl
import Derived.Lib.Walk
import Derived.Lib.Small
import Derived.Lib.Strings
import Derived.Lib.Slices
import Derived.ArgAppend
import Derived.Laws.BytesArg
namespace Go.Proofs.Ytkabbipppocilaa
open Go.RowKit
set_option linter.unusedVariables false
theorem ret_int {k : IntKind} {a b : Int} (h : a = b) : Ending.returned (.int k a) = .returned (.int k b) := by rw [h]
/-- Bytes as values. -/
def bv (xs : List Int) : List Value := xs.map (.int .u8)
theorem bv_len (xs : List Int) : (bv xs).length = xs.length := by simp [bv]
theorem bv_app (xs ys : List Int) : bv (xs ++ ys) = bv xs ++ bv ys := by simp [bv]
theorem bv_one (xs : List Int) : ∀ u ∈ bv xs, u.oneCell' = true := by intro u hu; simp [bv] at hu; obtain ⟨x, _, rfl⟩ := hu; rfl
theorem info8 : (Try.prog.info? 5).map (fun i => (i.zero, i.size, i.bytes)) = some (some (.int .u8 0), 1, 1) := by kernel_rfl
theorem cell_new1 (w : World) (t : TypeId) (x : Value) : ∀ j u, [x][j]? = some u → (w.alloc (.cells #[x] t)).cell? ((⟨w.heap.size, 0, none⟩ : Addr).add j) = some u := by
  intro j u h
  cases j with
  | zero => simp at h; subst h; simp [Addr.add]
  | succ j => simp at h
/-- A slice that reads as bytes: its address, how many, their values. -/
def Reads (w : World) (a : Option Addr) (c : Nat) (xs : List Int) : Prop :=
  (a = none → xs = [] ∧ c = 0) ∧ (∀ b, a = some b → ∀ j u, (bv xs)[j]? = some u → w.cell? (b.add j) = some u) ∧ xs.length ≤ c
theorem lt_of_cell {w : World} {b o : Nat} {s : Option Nat} {v : Value} (h : w.cell? ⟨b, o, s⟩ = some v) : b < w.heap.size := by
  by_cases hb : b < w.heap.size
  · exact hb
  · have : w.heap[b]? = none := by simp; omega
    simp [World.cell?, this] at h
theorem below_grown {w w' : World} (h : w.grownBy w' none) : Below w.heap.size w w' := ⟨h.os, h.tape, h.output, h.size, fun k hk => h.block k hk (by simp)⟩
theorem put_c (a : Option Addr) (xs : List Int) (c : Nat) (b : Addr) (ys : List Int) (d : Nat) (w : World) (hx : Reads w a c xs) (hy : ∀ j u, (bv ys)[j]? = some u → w.cell? (b.add j) = some u) (hne : 0 < ys.length)
    (hl : xs.length + ys.length ≤ 140737488355328) :
    Calls Try.prog 16 #[.slice a xs.length c, .slice (some b) ys.length d] w fun e w' => ∃ v', e = .returned v' ∧ w'.ownsRow w.heap.size 5 1 v' (xs.length + ys.length) (bv (xs ++ ys)) ∧ Below w.heap.size w w' := by
  obtain ⟨i0, hi, hz0, hz1, hz2⟩ := info_parts info8
  obtain ⟨hx0, hx1, hx2⟩ := hx
  have HX1 := Lib.hid hx1
  have HX0 := Lib.hid hx0
  have HY := Lib.hid hy
  clear hx1 hx0 hy
  go_enter Try.func16, Try.ntmps16
  go_wp2_with (at_builtin; refine wpList_append_grows _ rfl (.tmp 10) (.tmp 11) 23 rfl 5 i0 (.int .u8 0) 1 1 Try.underlying23 hi hz0 hz1 hz2 rfl (by decide) a xs.length xs.length (bv xs) rfl ?h1 ?h2 ?h3 b ys.length d (bv ys) rfl ?h4 ?h5 ?h6 ?h7 ?h8 ?h9 ?_)
  case h1 => intro h; have := HX0.out h; simp [this.1]
  case h2 => simp [bv]
  case h3 => exact HX1.out
  case h4 => simp [bv]
  case h5 => exact HY.out
  case h6 => exact bv_one _
  case h7 => omega
  case h8 => unfold maxLen; omega
  case h9 => omega
  intro v' w' hown hg
  go_wp2_with fail
  go_ret
  rw [← bv_app] at hown
  exact ⟨v', rfl, hown, below_grown hg⟩
theorem bv_get {xs : List Int} {j : Nat} {u : Value} (h : (bv xs)[j]? = some u) : j < xs.length ∧ u = .int .u8 (xs.getD j 0) := by
  simp only [bv, List.getElem?_map, Option.map_eq_some_iff] at h
  obtain ⟨x, hx, rfl⟩ := h
  obtain ⟨hj, rfl⟩ := List.getElem?_eq_some_iff.1 hx
  exact ⟨hj, by simp [hj]⟩
theorem ownBlock_from {w : World} {base : Nat} {e : TypeId} {v : Value} {n : Nat} {xs : List Value} (h : w.ownsRow base e 1 v n xs) {k : Nat} (hk : v.ownBlock = some k) : base ≤ k := by
  obtain ⟨_, ⟨rfl, _⟩ | ⟨g, cap, cur, rfl, hg, _⟩⟩ := h
  · simp [Value.ownBlock] at hk
  · simp [Value.ownBlock] at hk; omega
theorem own_slice {w : World} {base : Nat} {e : TypeId} {v : Value} {n : Nat} {xs : List Value} (h : w.ownsRow base e 1 v n xs) (hn : 0 < n) :
    ∃ g cap, v = .slice (some ⟨g, 0, none⟩) n cap ∧ base ≤ g ∧ n ≤ cap ∧ ∀ j u, xs[j]? = some u → w.cell? ((⟨g, 0, none⟩ : Addr).add j) = some u := by
  obtain ⟨hl, ⟨rfl, h0⟩ | ⟨g, cap, cur, rfl, hg, hc, hcap, hm, hsz, ht⟩⟩ := h
  · omega
  · refine ⟨g, cap, rfl, hg, hcap, fun j u hj => ?_⟩
    have hadd : (⟨g, 0, none⟩ : Addr).add j = ⟨g, j, none⟩ := by unfold Addr.add; split <;> simp_all
    rw [hadd]
    rw [← ht] at hj
    rw [List.getElem?_take] at hj
    split at hj
    case isFalse => simp at hj
    simp [World.cell?, hc]
    simpa using hj
theorem own_mono {w : World} {base base' : Nat} {e : TypeId} {v : Value} {n : Nat} {xs : List Value} (h : w.ownsRow base e 1 v n xs) (hb : base' ≤ base) : w.ownsRow base' e 1 v n xs := by
  obtain ⟨hl, ⟨rfl, h0⟩ | ⟨g, cap, cur, rfl, hg, r⟩⟩ := h
  · exact ⟨hl, .inl ⟨rfl, h0⟩⟩
  · exact ⟨hl, .inr ⟨g, cap, cur, rfl, Nat.le_trans hb hg, r⟩⟩
theorem Reads.below {w w' : World} {a : Option Addr} {c : Nat} {xs : List Int} (h : Reads w a c xs) (hb : Below w.heap.size w w') : Reads w' a c xs := by
  refine ⟨h.1, fun b hb0 j u hj => ?_, h.2.2⟩
  have hc := h.2.1 b hb0 j u hj
  have hl : (b.add j).block < w.heap.size := by
    have hh : ∀ ad : Addr, w.cell? ad = some u → ad.block < w.heap.size := fun ad had => lt_of_cell (b := ad.block) (o := ad.off) (s := ad.spot) had
    exact hh _ hc
  rw [hb.cell hl]; exact hc
/-- Put's loop: the bytes that are already there. -/
theorem vput_split (v : Nat) (h : v < 18446744073709551616) : v < 128 ∨ (128 ≤ v ∧ vput v = ((v % 128 + 128 : Nat) : Int) :: vput (v / 128)) := by
  by_cases h0 : v < 128
  · exact Or.inl h0
  · exact Or.inr ⟨by omega, vput_more (by omega)⟩
theorem or128 (x : Int) (h0 : 0 ≤ x) (h1 : x < 256) : bits .or .u8 x 128 = x % 128 + 128 := by
  rw [u8_or x 128 h0 h1 (by omega) (by omega)]
  have : ∀ n : Fin 256, (n.val ||| 128) = n.val % 128 + 128 := by decide +kernel
  have := this ⟨x.toNat, by omega⟩
  simp only at this
  rw [show (128 : Int).toNat = 128 from rfl, this]; omega
theorem own_alloc {w : World} {base : Nat} {e : TypeId} {v : Value} {n : Nat} {xs : List Value} (h : w.ownsRow base e 1 v n xs) (o : Obj) : (w.alloc o).ownsRow base e 1 v n xs := h.alloc o
set_option maxRecDepth 20000 in
set_option maxHeartbeats 2000000 in
theorem Put_c (a : Option Addr) (xs : List Int) (c : Nat) (v0 : Nat) (w : World) (hx : Reads w a c xs) (hv0 : v0 < 18446744073709551616) (hl : xs.length + 10 ≤ 140737488355328) :
    Calls Try.prog 7 #[.slice a xs.length c, .int .u64 v0] w fun e w' => ∃ v', e = .returned v' ∧ w'.ownsRow w.heap.size 5 1 v' (xs.length + (vput v0).length) (bv (xs ++ vput v0)) ∧ Below w.heap.size w w' := by
  obtain ⟨i0, hi, hz0, hz1, hz2⟩ := info_parts info8
  have HX := Lib.hid hx
  have HV := Lib.hid hv0
  clear hx hv0
  go_enter Try.func7, Try.ntmps7
  go_wp2_with fail
  go_loopw [1, 5] (fun sv sl wr => ∃ (v : Nat) (done : List Int), sv = .int .u64 v ∧ v ≤ v0 ∧ done ++ vput v = vput v0 ∧ wr.ownsRow w.heap.size 5 1 sl done.length (bv done) ∧ Below w.heap.size w wr) (fun sv _ _ => (intOf sv).toNat)
  case atStart => exact ⟨v0, [], rfl, Nat.le_refl _, rfl, World.ownsRow_nil _ _ _ _, Below.refl _ _⟩
  case round =>
    obtain ⟨v, done, rfl, hle, hd, hown, hb⟩ := hrel
    have HD := Lib.hid hd
    have HO := Lib.hid hown
    have HB := Lib.hid hb
    have HV2 : Hid (v < 18446744073709551616) := by have := HV.out; unfold Hid; omega
    clear hd hown hb
    have hlen : Hid (done.length + (vput v).length ≤ 10 ∧ 1 ≤ (vput v).length) := by
      have h1 := (vput_len HV.out).2
      have h2 := vput_len HV2.out
      have h3 := congrArg List.length HD.out
      simp only [List.length_append] at h3
      unfold Hid; omega
    rcases vput_split v HV2.out with h | ⟨h, hm⟩
    · have hn : (v : Int) < 128 := by omega
      have hs := Lib.hid (vput_small h)
      clear h
      go_wp2_with (first | (at_builtin; refine wpList_append_own _ rfl (.tmp 17) (.tmp 20) 23 rfl w.heap.size 5 i0 (.int .u8 0) 1 1 Try.underlying23 hi hz0 hz1 hz2 rfl (by decide) _ _ _ rfl (HO.out.alloc _) ⟨wr.heap.size, 0, none⟩ 1 1 [.int .u8 (v : Int)] rfl rfl ?c1 ?c2 ?c3 ?c4 ?c5 ?_))
      case c1 => exact cell_new1 _ _ _
      case c2 => intro u hu; simp at hu; subst hu; rfl
      case c3 => have := hlen.out; unfold maxLen; omega
      case c4 => have := hlen.out; omega
      case c5 => have := HB.out.size; simp; omega
      intro v' w1 hown' hg _
      have hb2 : Hid (Below w.heap.size w w1) := (HB.out.alloc HB.out.size _).grown hg (by have := HB.out.size; simp; omega) (fun k hk => ownBlock_from HO.out hk)
      have hr : w1.ownsRow w.heap.size 5 1 v' (done ++ [(v : Int)]).length (bv (done ++ [(v : Int)])) := by
        rw [bv_app, List.length_append]
        exact hown'
      obtain ⟨ys, hys⟩ : ∃ ys, ys = done ++ [(v : Int)] := ⟨_, rfl⟩
      rw [← hys] at hr
      have hy1 : ys.length = done.length + 1 := by rw [hys]; simp
      have hfin : Hid (ys = vput v0) := by unfold Hid; rw [hys, ← HD.out, hs.out]
      have hlen2 : Hid (ys.length ≤ 10 ∧ 0 < ys.length) := by have := hlen.out; unfold Hid; omega
      clear hys hy1
      obtain ⟨g, cap, hv, hg0, hcap, hcells⟩ := own_slice hr hlen2.out.2
      have HC := Lib.hid hcells
      clear hown' hg hr hcells
      subst hv
      go_wp2_with (go_at_call 16; refine (put_c a xs c ⟨g, 0, none⟩ ys cap _ (HX.out.below hb2.out) HC.out ?d1 ?d2).mono ?_)
      case d1 => exact hlen2.out.2
      case d2 => have := hlen2.out; omega
      rintro e w2 ⟨v2, rfl, hown2, hbl2⟩
      rw [hfin.out] at hown2
      have H2 := Lib.hid hown2
      clear hown2
      go_wp2_with fail
      go_ret
      have hsz := hb2.out.size
      refine ⟨v2, rfl, ?_, hb2.out.trans (hbl2.mono hsz)⟩
      exact own_mono H2.out hsz
    · have hn : 128 ≤ (v : Int) := by omega
      have HM := Lib.hid hm
      have ho := or128 ((v : Int) % 256) (by omega) (by omega)
      clear hm
      go_wp2_with (first | (at_builtin; refine wpList_append_own _ rfl (.tmp 8) (.tmp 12) 23 rfl w.heap.size 5 i0 (.int .u8 0) 1 1 Try.underlying23 hi hz0 hz1 hz2 rfl (by decide) _ _ _ rfl (HO.out.alloc _) ⟨wr.heap.size, 0, none⟩ 1 1 [.int .u8 ((v : Int) % 128 + 128)] rfl rfl ?c1 ?c2 ?c3 ?c4 ?c5 ?_))
      case c1 => exact cell_new1 _ _ _
      case c2 => intro u hu; simp at hu; subst hu; rfl
      case c3 => have := hlen.out; unfold maxLen; omega
      case c4 => have := hlen.out; omega
      case c5 => have := HB.out.size; simp; omega
      intro v' w1 hown' hg _
      have hr : Hid (w1.ownsRow w.heap.size 5 1 v' (done ++ [((v % 128 + 128 : Nat) : Int)]).length (bv (done ++ [((v % 128 + 128 : Nat) : Int)]))) := by
        unfold Hid
        rw [bv_app]
        have e : ((v % 128 + 128 : Nat) : Int) = (v : Int) % 128 + 128 := by omega
        rw [e, List.length_append]
        exact hown'
      have hb2 : Hid (Below w.heap.size w w1) := (HB.out.alloc HB.out.size _).grown hg (by have := HB.out.size; simp; omega) (fun k hk => ownBlock_from HO.out hk)
      clear hown' hg
      go_wp2_with fail
      go_roundw
      case rel =>
        refine ⟨v / 128, done ++ [((v % 128 + 128 : Nat) : Int)], by simp, by omega, ?_, hr.out, hb2.out⟩
        rw [← HD.out, HM.out]; simp
      case measure => simp [intOf]; omega
end Go.Proofs.Ytkabbipppocilaa
