/- The law of numbers one behind the other: the walk. -/
import Derived.Test.YtkabbipppocilaaVintCon5
import Derived.Test.YtkabbipppocilaaRowWords
import Derived.Deep.DeepCutAuto
namespace Go.Proofs.Ytkabbipppocilaa
open Go.RowKit
set_option linter.unusedVariables false
/-- All the numbers' bytes. -/
def vall (l : List Int) : List Int := l.flatMap fun v => vput v.toNat
theorem vall_nil : vall [] = [] := rfl
theorem vall_cons (v : Int) (l : List Int) : vall (v :: l) = vput v.toNat ++ vall l := by simp [vall]
theorem vall_snoc (v : Int) (l : List Int) : vall (l ++ [v]) = vall l ++ vput v.toNat := by simp [vall]
theorem vall_len (l : List Int) (h : ∀ v ∈ l, 0 ≤ v ∧ v < 18446744073709551616) : (vall l).length ≤ 10 * l.length := by
  induction l with
  | nil => simp [vall]
  | cons v l ih =>
    rw [vall_cons, List.length_append, List.length_cons]
    have h1 := h v (by simp)
    have h2 := (vput_len (v := v.toNat) (by omega)).2
    have h3 := ih (fun u hu => h u (by simp [hu]))
    omega
theorem vall_byte (l : List Int) (h : ∀ v ∈ l, 0 ≤ v ∧ v < 18446744073709551616) : ∀ x ∈ vall l, 0 ≤ x ∧ x ≤ 255 := by
  intro x hx
  simp only [vall, List.mem_flatMap] at hx
  obtain ⟨v, hv, hx⟩ := hx
  have := h v hv
  exact vput_bytes (v := v.toNat) (by omega) x hx
theorem take_succ (l : List Int) (k : Nat) (h : k < l.length) : l.take (k + 1) = l.take k ++ [l.getD k 0] := by
  rw [List.take_succ_eq_append_getElem h]
  simp [h]
theorem vall_split (l : List Int) (k : Nat) (h : k < l.length) : vall l = vall (l.take k) ++ (vput (l.getD k 0).toNat ++ vall (l.drop (k + 1))) := by
  conv => lhs; rw [← List.take_append_drop k l, List.drop_eq_getElem_cons h]
  unfold vall
  rw [List.flatMap_append, List.flatMap_cons]
  simp [h]
theorem reads_m {w : World} {a : Option Addr} {c : Nat} {xs : List Int} (h : Reads w a c xs) : xs.length ≤ c := h.2.2
theorem isRow_at {k : IntKind} {w : World} {a : Option Addr} {l c : Nat} {z : List Int} (h : IsRow k w a l c z) (i : Nat) (hi : i < l) :
    ∃ b off, a = some ⟨b, off, none⟩ ∧ b < w.heap.size ∧ w.cell? ⟨b, off + i, none⟩ = some (.int k (z.getD i 0)) := by
  rcases h with ⟨_, rfl, _⟩ | ⟨x, rfl, hl, _, hz, hc, _⟩
  · omega
  · obtain ⟨b, off, rfl⟩ := plain_of (hc 0 (by omega))
    have := hc i (by omega)
    have hadd : (⟨b, off, none⟩ : Addr).add i = ⟨b, off + i, none⟩ := by unfold Addr.add; split <;> simp_all
    rw [hadd] at this
    exact ⟨b, off, rfl, lt_of_cell this, this⟩
theorem isRow_wf {k : IntKind} {w : World} {a : Option Addr} {l c : Nat} {z : List Int} (h : IsRow k w a l c z) : ∀ n ∈ z, (Lit.int k n).wf = true := by
  rcases h with ⟨_, _, _, rfl⟩ | ⟨x, _, _, _, _, _, hw⟩
  · simp
  · exact hw
theorem isRow_le {k : IntKind} {w : World} {a : Option Addr} {l c : Nat} {z : List Int} (h : IsRow k w a l c z) : l ≤ c ∧ z.length = c ∧ c ≤ 9223372036854775807 := by
  rcases h with ⟨_, rfl, rfl, rfl⟩ | ⟨x, _, hl, hm, hz, _⟩
  · simp
  · unfold maxLen at hm; exact ⟨hl, hz, hm⟩
theorem Put_i (a : Option Addr) (xs zs : List Int) (c : Nat) (V : Int) (w : World) (hx : Reads w a c xs) (h0 : 0 ≤ V) (h1 : V < 18446744073709551616) (hl : xs.length + 10 ≤ 140737488355328) (hz : zs = xs ++ vput V.toNat) :
    Calls Try.prog 7 #[.slice a xs.length c, .int .u64 V] w (Gives w zs) := by
  obtain ⟨v, rfl⟩ : ∃ v : Nat, V = v := ⟨V.toNat, by omega⟩
  subst hz
  exact Put_r a xs c v w hx (by omega) hl
theorem Get_i (a : Option Addr) (xs : List Int) (c : Nat) (k : Int) (r : Int × Int × Int) (w : World) (hr : sGet xs k = r) (hx : Reads w a c xs) (hby : ∀ x ∈ xs, 0 ≤ x ∧ x ≤ 255) (hn : xs.length ≤ 9223372036854775807) :
    Calls Try.prog 8 #[.slice a xs.length c, .int .i64 k] w fun e w' => e = .returned (.tuple #[.int .u64 r.1, .int .i64 r.2.1, .int .i64 r.2.2]) ∧ w = w' := by
  subst hr
  exact Get_c a xs c k w hx hby hn
set_option maxRecDepth 20000 in
set_option maxHeartbeats 4000000 in
theorem VintMany_walk (a0 : Option Addr) (l0 c0 : Nat) (z0 : List Int) (W : World) (w0 : IsRow .u64 W a0 l0 c0 z0) (s0 : l0 * 8 ≤ 140737488351232) :
    Calls Try.prog 3 #[.slice a0 l0 c0] W fun e W' => e = .returned (.bool true) ∧ Below W.heap.size W W' := by
  have HR := Lib.hid w0
  obtain ⟨q1, q2, q3⟩ := isRow_le w0
  clear w0
  go_enter Try.func3, Try.ntmps3
  go_upto_if 15 with (fail)
  go_cut [0] (fun v0 wc => ∃ n : Nat, v0 = .slice a0 n c0 ∧ n ≤ 200 ∧ n ≤ l0 ∧ wc = W)
  case first =>
    by_cases h : 200 < l0
    · have h' : (200 : Int) < l0 := by omega
      have h2 : ¬ (c0 : Int) < 200 := by omega
      go_wp2_with fail
      go_meet
      case rel => exact ⟨200, rfl, by omega, by omega, rfl⟩
    · have h' : ¬ (200 : Int) < l0 := by omega
      go_wp2_with fail
      go_meet
      case rel => exact ⟨l0, rfl, by omega, by omega, rfl⟩
  case rest =>
    obtain ⟨n, rfl, hn, hnl, rfl⟩ := hcut
    have hzl : Hid ((z0.take n).length = n) := by unfold Hid; rw [List.length_take]; omega
    have hzb : Hid (∀ v ∈ z0.take n, 0 ≤ v ∧ v < 18446744073709551616) := by
      intro v hv
      have := bounds_u64 (isRow_wf HR.out v (List.mem_of_mem_take hv))
      omega
    have hcell : Hid (∀ k, k < n → ∃ b off, a0 = some ⟨b, off, none⟩ ∧ b < wc.heap.size ∧ wc.cell? ⟨b, off + k, none⟩ = some (.int .u64 ((z0.take n).getD k 0))) := by
      intro k hk
      obtain ⟨b, off, h1, h2, h3⟩ := isRow_at HR.out k (by omega)
      refine ⟨b, off, h1, h2, ?_⟩
      rw [h3]; simp [List.getD, hk]
    generalize z0.take n = zs at hzl hzb hcell
    go_wp2_with fail
    go_loopw [3, 4] (fun sl si wr => ∃ (k : Nat) (a : Option Addr) (c : Nat) (ys : List Int), si = .int .i64 k ∧ k ≤ n ∧ sl = .slice a ys.length c ∧ Hid (ys = vall (zs.take k)) ∧ Hid (Reads wr a c ys) ∧ Hid (Below wc.heap.size wc wr)) (fun _ si _ => n - (intOf si).toNat)
    case atStart => exact ⟨0, none, 0, [], rfl, by omega, rfl, by unfold Hid; simp [vall], ⟨fun _ => ⟨rfl, rfl⟩, fun b h => (by cases h), Nat.le_refl _⟩, Below.refl _ _⟩
    case round =>
      obtain ⟨k, a, c, ys, rfl, hk, rfl, hys, hr, hb⟩ := hrel
      have hyl : Hid (ys.length ≤ 2000) := by
        have := vall_len (zs.take k) (fun v hv => hzb.out v (List.mem_of_mem_take hv))
        rw [← hys.out, List.length_take] at this
        unfold Hid; omega
      by_cases hlt : k < n
      · obtain ⟨b, off, rfl, hbl, hc⟩ := hcell.out k hlt
        have hc' : wr.cell? ⟨b, off + k, none⟩ = some (.int .u64 (zs.getD k 0)) := by rw [hb.out.cell (p := ⟨b, off + k, none⟩) hbl]; exact hc
        have hv : Hid (0 ≤ zs.getD k 0 ∧ zs.getD k 0 < 18446744073709551616) := by
          have hk2 : k < zs.length := by rw [hzl.out]; exact hlt
          have : zs.getD k 0 = zs[k] := by simp [hk2]
          unfold Hid; rw [this]; exact hzb.out _ (List.getElem_mem hk2)
        obtain ⟨ys2, hys2⟩ : ∃ ys2, ys2 = ys ++ vput (zs.getD k 0).toNat := ⟨_, rfl⟩
        have HY2 : Hid (ys2 = vall (zs.take (k + 1))) := by
          unfold Hid; rw [hys2, hys.out, take_succ zs k (by rw [hzl.out]; exact hlt), vall_snoc]
        have HY3 := Lib.hid hys2
        clear hc hys2
        generalize zs.getD k 0 = V at hc' hv HY3
        go_wp2_with fail
        refine (Put_i a ys ys2 c V _ hr.out hv.out.1 hv.out.2 (by have := hyl.out; omega) HY3.out).mono ?_
        rintro e w1 ⟨g, c1, rfl, _, hr1, hb1⟩
        have HR1 := Lib.hid hr1
        have HB1 := Lib.hid (hb.out.trans (hb1.mono hb.out.size))
        clear hr1 hb1
        go_wp2_with fail
        go_roundw
        case rel => exact ⟨k + 1, _, c1, ys2, by go_num, by omega, rfl, HY2, HR1, HB1⟩
        case measure => simp [intOf]; omega
      · obtain rfl : k = n := by omega
        have hys3 : Hid (ys = vall zs) := by unfold Hid; rw [hys.out, List.take_of_length_le (by rw [hzl.out]; exact Nat.le_refl _)]
        have hyb : Hid (∀ x ∈ ys, 0 ≤ x ∧ x ≤ 255) := by unfold Hid; rw [hys3.out]; exact vall_byte zs hzb.out
        clear hys
        go_wp2_with fail
        go_loopw [5, 6] (fun sp si wx => ∃ (j p : Nat), si = .int .i64 j ∧ j ≤ k ∧ sp = .int .i64 p ∧ Hid (p = (vall (zs.take j)).length) ∧ wx = wr) (fun _ si _ => k - (intOf si).toNat)
        case atStart => exact ⟨0, 0, rfl, by omega, rfl, by unfold Hid; simp [vall], rfl⟩
        case round =>
          obtain ⟨j, p, rfl, hj, rfl, hp, rfl⟩ := hrel
          by_cases hlt : j < k
          · obtain ⟨b, off, rfl, hbl, hc⟩ := hcell.out j hlt
            have hc' : wr.cell? ⟨b, off + j, none⟩ = some (.int .u64 (zs.getD j 0)) := by rw [hb.out.cell (p := ⟨b, off + j, none⟩) hbl]; exact hc
            have hk2 : j < zs.length := by rw [hzl.out]; exact hlt
            have hv : Hid (0 ≤ zs.getD j 0 ∧ zs.getD j 0 < 18446744073709551616) := by
              have : zs.getD j 0 = zs[j] := by simp [hk2]
              unfold Hid; rw [this]; exact hzb.out _ (List.getElem_mem hk2)
            obtain ⟨m, hm⟩ : ∃ m, m = (vput (zs.getD j 0).toNat).length := ⟨_, rfl⟩
            have hm1 : 1 ≤ m ∧ m ≤ 10 := by rw [hm]; exact vput_len (v := (zs.getD j 0).toNat) (by have := hv.out; omega)
            have hget : Hid (sGet ys p = (zs.getD j 0, (p : Int) + m, 0)) := by
              unfold Hid
              rw [hys3.out, vall_split zs j hk2, hp.out, sGet_vput (v := (zs.getD j 0).toNat) (by have := hv.out; omega), hm]
              have : ((zs.getD j 0).toNat : Int) = zs.getD j 0 := by have := hv.out; omega
              rw [this]
            have hp2 : Hid (p + m = (vall (zs.take (j + 1))).length) := by
              unfold Hid
              rw [take_succ zs j hk2, vall_snoc, List.length_append, ← hp.out, ← hm]
            have hpl : Hid (p + m ≤ 2010) := by
              have := vall_len (zs.take j) (fun v hv => hzb.out v (List.mem_of_mem_take hv))
              rw [← hp.out, List.length_take] at this
              unfold Hid; omega
            have hle : ¬ ((p : Int) + m ≤ p) := by omega
            have hyl2 : ys.length ≤ 9223372036854775807 := by have := hyl.out; omega
            clear hc hm hk2
            generalize zs.getD j 0 = V at hc' hv hget
            go_wp2_with fail
            refine (Get_i a ys c p (V, (p : Int) + m, 0) _ hget.out hr.out hyb.out hyl2).mono ?_
            rintro e w1 ⟨rfl, rfl⟩
            go_wp2_with fail
            go_roundw
            case rel => exact ⟨j + 1, p + m, by go_num, by omega, by go_num, hp2, trivial⟩
            case measure => simp [intOf]; omega
          · obtain rfl : j = k := by omega
            have hpe : p = ys.length := by rw [hp.out, hys3.out, List.take_of_length_le (by rw [hzl.out]; exact Nat.le_refl _)]
            subst hpe
            have hget : Hid (sGet ys (ys.length : Int) = (0, 0, 3)) := by
              unfold Hid
              rw [sGet_in ys ys.length (Nat.le_refl _), List.drop_length, sGo_nil]; rfl
            have hyl2 : ys.length ≤ 9223372036854775807 := by have := hyl.out; omega
            go_wp2_with fail
            refine (Get_i a ys c ys.length (0, 0, 3) _ hget.out hr.out hyb.out hyl2).mono ?_
            rintro e w1 ⟨rfl, rfl⟩
            go_wp2_with (first | (go_at_call 9; refine (awake_c _).mono ?_; rintro e w2 ⟨rfl, hb2⟩))
            go_ret
            exact ⟨rfl, hb.out.trans (hb2.mono hb.out.size)⟩
end Go.Proofs.Ytkabbipppocilaa
