/- Reading numbers and texts: vint's Get, GetText, PutText and the reference's. -/
import Derived.Test.YtkabbipppocilaaVintCon2
namespace Go.Proofs.Ytkabbipppocilaa
open Go.RowKit
set_option linter.unusedVariables false
theorem results_tmp3 {fn : Func} {t u v : Tmp} (h : fn.results = #[.tmp t, .tmp u, .tmp v]) (tmps : Array Value) (P : Program) (w : World) :
    (results fn tmps).run P w = .ok (.tuple #[tmps.getD t undef, tmps.getD u undef, tmps.getD v undef]) w := by simp [results, h]
theorem ret_iii {k l m : IntKind} {a b c d e f : Int} (h : a = b) (h' : c = d) (h'' : e = f) : Ending.returned (.tuple #[.int k a, .int l c, .int m e]) = .returned (.tuple #[.int k b, .int l d, .int m f]) := by rw [h, h', h'']
theorem and127 (x : Int) (h0 : 0 ≤ x) (h1 : x ≤ 255) : bits .and .u8 x 127 = x % 128 := by
  rw [u8_and x 127 h0 (by omega) (by omega) (by omega)]
  have : ∀ n : Fin 256, (n.val &&& 127) = n.val % 128 := by decide +kernel
  have := this ⟨x.toNat, by omega⟩
  simp only at this
  rw [show (127 : Int).toNat = 127 from rfl, this]; omega
def two64 : Int := 18446744073709551616
theorem pow7 (k : Nat) (hk : k ≤ 9) : ((2 : Int) ^ (7 * k)) = ((2 ^ (7 * k) : Nat) : Int) ∧ (2 ^ (7 * k) : Nat) ≤ 2 ^ 63 := ⟨by simp, Nat.pow_le_pow_right (by omega) (by omega)⟩
/-- One byte more: the sum stays within 64 bits, and 'or' is the sum. -/
theorem or_add (v x : Int) (k : Nat) (hk : k ≤ 9) (hv : 0 ≤ v) (hv1 : v < 2 ^ (7 * k)) (hx0 : 0 ≤ x) (hx1 : x < 128) (h9 : k = 9 → x ≤ 1) :
    x * 2 ^ (7 * k) % 18446744073709551616 = x * 2 ^ (7 * k) ∧ bits .or .u64 v (x * 2 ^ (7 * k)) = v + x * 2 ^ (7 * k) ∧ 0 ≤ v + x * 2 ^ (7 * k) ∧ v + x * 2 ^ (7 * k) < 18446744073709551616 ∧ (k ≤ 8 → v + x * 2 ^ (7 * k) < 2 ^ (7 * (k + 1))) := by
  obtain ⟨e, hle⟩ := pow7 k hk
  have hpos := Nat.two_pow_pos (7 * k)
  have hb : x.toNat * 2 ^ (7 * k) ≤ 18446744073709551615 - 2 ^ (7 * k) + 1 := by
    by_cases h : k = 9
    · subst h
      have := h9 rfl
      have : x.toNat ≤ 1 := by omega
      simp only [Nat.reduceMul, Nat.reducePow]; omega
    · have hk8 : k ≤ 8 := by omega
      have hp : 2 ^ (7 * k) ≤ 2 ^ 56 := Nat.pow_le_pow_right (by omega) (by omega)
      have := Nat.mul_le_mul (show x.toNat ≤ 127 by omega) hp
      simp only [Nat.reducePow] at this hp ⊢; omega
  have ex : x * 2 ^ (7 * k) = ((x.toNat * 2 ^ (7 * k) : Nat) : Int) := by rw [e, Int.natCast_mul, Int.toNat_of_nonneg hx0]
  have h1 : x * 2 ^ (7 * k) % 18446744073709551616 = x * 2 ^ (7 * k) := by rw [ex]; omega
  refine ⟨h1, ?_, ?_, ?_, ?_⟩
  · rw [ex, u64_or v _ hv (by omega) (by omega) (by omega), Int.toNat_natCast, Nat.or_comm, nat_join (7 * k) _ _ (Nat.mul_mod_left _ _) (by omega)]
    omega
  · rw [ex]; omega
  · rw [ex]; omega
  · intro h8
    have hp : (2 : Int) ^ (7 * (k + 1)) = 128 * 2 ^ (7 * k) := by rw [Nat.mul_add, Int.pow_add, Int.mul_comm]; rfl
    rw [hp]
    have : x * 2 ^ (7 * k) ≤ 127 * 2 ^ (7 * k) := Int.mul_le_mul_of_nonneg_right (by omega) (by rw [e]; omega)
    omega
theorem sGo_nil (i : Nat) (v : Int) : sGo [] i v = (0, 0, 3) := rfl
theorem plain_of {w : World} {b : Addr} {u : Value} (h : w.cell? (b.add 0) = some u) : ∃ bb off, b = ⟨bb, off, none⟩ := by
  obtain ⟨bb, off, sp⟩ := b
  have : sp = none := by simpa [Addr.add] using World.cell?_spot h
  exact ⟨bb, off, by rw [this]⟩
theorem reads_at {w : World} {a : Option Addr} {c : Nat} {xs : List Int} (h : Reads w a c xs) (j : Nat) (hj : j < xs.length) :
    ∃ b off, a = some ⟨b, off, none⟩ ∧ w.cell? ⟨b, off + j, none⟩ = some (.int .u8 (xs.getD j 0)) := by
  cases a with
  | none => have := (h.1 rfl).1; subst this; simp at hj
  | some ad =>
    have h0 := h.2.1 _ rfl 0 (.int .u8 (xs.getD 0 0)) (by have : 0 < xs.length := by omega
                                                          simp [bv, this])
    obtain ⟨b, off, rfl⟩ := plain_of h0
    refine ⟨b, off, rfl, ?_⟩
    have := h.2.1 _ rfl j (.int .u8 (xs.getD j 0)) (by simp [bv, hj])
    have hadd : (⟨b, off, none⟩ : Addr).add j = ⟨b, off + j, none⟩ := by unfold Addr.add; split <;> simp_all
    rwa [hadd] at this
/-- One step of the reading. -/
theorem sGo_step (ys : List Int) (k : Nat) (v : Int) (hk : k < ys.length) :
    sGo (ys.drop k) k v = if k = 9 ∧ 1 < ys.getD k 0 then (0, 0, 4) else if ys.getD k 0 < 128 then (if ys.getD k 0 = 0 ∧ 0 < k then (0, 0, 4) else (v + ys.getD k 0 * 2 ^ (7 * k), (k : Int) + 1, 0)) else sGo (ys.drop (k + 1)) (k + 1) (v + (ys.getD k 0 - 128) * 2 ^ (7 * k)) := by
  have : ys.drop k = ys[k] :: ys.drop (k + 1) := List.drop_eq_getElem_cons hk
  rw [this]
  have e : ys.getD k 0 = ys[k] := by simp [hk]
  rw [e]
  rfl
theorem sGet_err (xs : List Int) (k : Int) (h : k < 0 ∨ (xs.length : Int) < k) : sGet xs k = (0, 0, 1) := by unfold sGet; rw [if_pos h]
theorem sGet_in (xs : List Int) (k : Nat) (h : k ≤ xs.length) : sGet xs k = ((sGo (xs.drop k) 0 0).1, (if (sGo (xs.drop k) 0 0).2.2 = 0 then (k : Int) + (sGo (xs.drop k) 0 0).2.1 else 0), (sGo (xs.drop k) 0 0).2.2) := by
  unfold sGet; rw [if_neg (by omega)]; rfl
set_option maxRecDepth 20000 in
set_option maxHeartbeats 2000000 in
theorem Get_end (a : Option Addr) (xs : List Int) (c : Nat) (w : World) (hc : xs.length ≤ c) (hn : xs.length ≤ 9223372036854775807) :
    Calls Try.prog 8 #[.slice a xs.length c, .int .i64 xs.length] w fun e w' => e = .returned (.tuple #[.int .u64 (sGet xs xs.length).1, .int .i64 (sGet xs xs.length).2.1, .int .i64 (sGet xs xs.length).2.2]) ∧ w = w' := by
  have HG : Hid (sGet xs xs.length = (0, 0, 3)) := by unfold Hid; rw [sGet_in xs _ (Nat.le_refl _), List.drop_length]; rfl
  go_enter Try.func8, Try.ntmps8
  go_wp2_with fail
  all_goals
    refine wp_loop_once ?_
    go_wp2_with fail
    refine bodyPost_ret (results_tmp3 rfl _ _ _) rfl ?_
    rw [HG.out]
    exact ⟨rfl, rfl⟩
theorem Get_out (a : Option Addr) (xs : List Int) (c : Nat) (k : Int) (w : World) (hn : xs.length ≤ 9223372036854775807) (hk : k < 0 ∨ (xs.length : Int) < k) :
    Calls Try.prog 8 #[.slice a xs.length c, .int .i64 k] w fun e w' => e = .returned (.tuple #[.int .u64 (sGet xs k).1, .int .i64 (sGet xs k).2.1, .int .i64 (sGet xs k).2.2]) ∧ w = w' := by
  have HG := Lib.hid (sGet_err xs k hk)
  rcases hk with hk | hk
  · go_enter Try.func8, Try.ntmps8
    go_wp2_with fail
    refine bodyPost_ret (results_tmp3 rfl _ _ _) rfl ?_
    rw [HG.out]
    exact ⟨rfl, rfl⟩
  · have h0 : 0 ≤ k := by omega
    go_enter Try.func8, Try.ntmps8
    go_wp2_with fail
    refine bodyPost_ret (results_tmp3 rfl _ _ _) rfl ?_
    rw [HG.out]
    exact ⟨rfl, rfl⟩
theorem sGet_fin {xs : List Int} {p : Nat} {r : Int × Int × Int} {l : List Int} {k : Nat} {v : Int}
    (h : sGet xs p = ((sGo (xs.drop p) 0 0).1, (if (sGo (xs.drop p) 0 0).2.2 = 0 then (p : Int) + (sGo (xs.drop p) 0 0).2.1 else 0), (sGo (xs.drop p) 0 0).2.2))
    (hs : sGo l k v = sGo (xs.drop p) 0 0) (hr : sGo l k v = r) : sGet xs p = (r.1, (if r.2.2 = 0 then (p : Int) + r.2.1 else 0), r.2.2) := by
  rw [h, ← hs, hr]
theorem getD_drop (xs : List Int) (p k : Nat) : (xs.drop p).getD k 0 = xs.getD (p + k) 0 := by simp [List.getD]
theorem getD_bd {xs : List Int} (h : ∀ x ∈ xs, 0 ≤ x ∧ x ≤ 255) (k : Nat) (hk : k < xs.length) : 0 ≤ xs.getD k 0 ∧ xs.getD k 0 ≤ 255 := by
  have : xs.getD k 0 = xs[k] := by simp [hk]
  rw [this]; exact h _ (List.getElem_mem hk)
set_option maxRecDepth 20000 in
set_option maxHeartbeats 4000000 in
theorem Get_mid (a : Option Addr) (xs : List Int) (c : Nat) (p : Nat) (w : World) (hx : Reads w a c xs) (hby : ∀ x ∈ xs, 0 ≤ x ∧ x ≤ 255) (hn : xs.length ≤ 9223372036854775807) (hp : p < xs.length) :
    Calls Try.prog 8 #[.slice a xs.length c, .int .i64 p] w fun e w' => e = .returned (.tuple #[.int .u64 (sGet xs p).1, .int .i64 (sGet xs p).2.1, .int .i64 (sGet xs p).2.2]) ∧ w = w' := by
  have hcap := hx.2.2
  have HG := Lib.hid (sGet_in xs p (Nat.le_of_lt hp))
  have HCELL : Hid (∀ k, p + k < xs.length → ∃ b off, a = some ⟨b, off, none⟩ ∧ w.cell? ⟨b, off + (p + k), none⟩ = some (.int .u8 (xs.getD (p + k) 0))) := fun k hk => reads_at hx _ hk
  obtain ⟨b, off, rfl, -⟩ := reads_at hx p hp
  have HBY := Lib.hid hby
  have hcp : ¬ c = p := by omega
  clear hx hby
  go_enter Try.func8, Try.ntmps8
  go_wp2_with fail
  go_loop [7, 22] (fun sv si => ∃ (k : Nat) (v : Int), si = .int .i64 k ∧ sv = .int .u64 v ∧ k ≤ xs.length - p ∧ k ≤ 9 ∧ 0 ≤ v ∧ Hid (v < 2 ^ (7 * k)) ∧ Hid (sGo ((xs.drop p).drop k) k v = sGo (xs.drop p) 0 0)) (fun _ si => (xs.length - p) - (intOf si).toNat)
  case atStart => exact ⟨0, 0, rfl, rfl, by omega, by omega, by omega, by unfold Hid; simp, by unfold Hid; simp⟩
  case round =>
    obtain ⟨k, v, rfl, rfl, hk, hk9, hv0, hv1, hs⟩ := hrel
    by_cases hlt : k < xs.length - p
    · obtain ⟨b', off', hbo, hcell⟩ := HCELL.out k (by omega)
      obtain ⟨rfl, rfl⟩ : b = b' ∧ off = off' := by injection hbo with h; injection h with h1 h2; exact ⟨h1, h2⟩
      obtain ⟨x0, x1⟩ := getD_bd HBY.out (p + k) (by omega)
      have hst : Hid _ := Lib.hid (sGo_step (xs.drop p) k v (by rw [List.length_drop]; omega))
      rw [getD_drop] at hst
      generalize xs.getD (p + k) 0 = x at hcell x0 x1 hst
      have ha := and127 x x0 x1
      rw [← Nat.add_assoc] at hcell
      clear hbo
      by_cases he9 : k = 9 ∧ 1 < x
      · obtain ⟨rfl, hx1⟩ := he9
        have HF := Lib.hid (sGet_fin HG.out hs.out (hst.out.trans (if_pos ⟨rfl, hx1⟩)))
        clear hst hs HG
        go_wp2_with fail
        refine bodyPost_ret (results_tmp3 rfl _ _ _) rfl ?_
        rw [HF.out]
        exact ⟨rfl, rfl⟩
      · have hk9x : k = 9 → x ≤ 1 := fun h => by omega
        obtain ⟨o1, o2, o3, o4, o5⟩ := or_add v (x % 128) k hk9 hv0 hv1.out (by omega) (by omega) (fun h => by have := hk9x h; omega)
        have O4 := Lib.hid o4
        have O5 := Lib.hid o5
        have hs2 := Lib.hid (hst.out.trans (if_neg he9))
        clear o4 o5 hst
        have hb9 : (((k : Int) == 9) = true ∧ x ≤ 1 ∧ x < 128) ∨ (((k : Int) == 9) = false ∧ k ≤ 8) := by
          by_cases h : k = 9
          · have := hk9x h; exact Or.inl ⟨beq_iff_eq.mpr (by omega), this, by omega⟩
          · exact Or.inr ⟨beq_eq_false_iff_ne.mpr (by omega), by omega⟩
        clear he9 hk9x
        by_cases hx128 : x < 128
        · have e128 : Hid (x % 128 = x) := by unfold Hid; omega
          have hs3 := Lib.hid (hs2.out.trans (if_pos hx128))
          by_cases hz : x = 0 ∧ 0 < k
          · have HF := Lib.hid (sGet_fin HG.out hs.out (hs3.out.trans (if_pos hz)))
            obtain ⟨hz1, hz2⟩ := hz
            have hz3 : (x == 0) = true := beq_iff_eq.mpr hz1
            have hz4 : (0 : Int) < k := by omega
            have hz5 : x ≤ 1 := by omega
            clear hs hs2 hs3 HG hz1
            rcases hb9 with ⟨hb9, -, -⟩ | ⟨hb9, -⟩
            all_goals
              go_wp2_with fail
              refine bodyPost_ret (results_tmp3 rfl _ _ _) rfl ?_
              rw [HF.out]
              exact ⟨rfl, rfl⟩
          · have HF := Lib.hid (sGet_fin HG.out hs.out (hs3.out.trans (if_neg hz)))
            have hzz : (x == 0) = false ∨ ((x == 0) = true ∧ ¬ (0 : Int) < k) := by
              by_cases h : x = 0
              · exact Or.inr ⟨beq_iff_eq.mpr h, by omega⟩
              · exact Or.inl (beq_eq_false_iff_ne.mpr h)
            clear hs hs2 hs3 HG hz
            rcases hb9 with ⟨hb9, hx1, -⟩ | ⟨hb9, -⟩ <;> rcases hzz with hz3 | ⟨hz3, hz4⟩
            all_goals
              go_wp2_with fail
              refine bodyPost_ret (results_tmp3 rfl _ _ _) rfl ?_
              rw [HF.out]
              exact ⟨ret_iii (by show v + x % 128 * 2 ^ (7 * k) = v + x * 2 ^ (7 * k); rw [e128.out]) (by show (p : Int) + k + 1 = if (0 : Int) = 0 then (p : Int) + (k + 1) else 0; rw [if_pos rfl]; omega) rfl, rfl⟩
        · rcases hb9 with ⟨_, _, h⟩ | ⟨hb9, h8⟩
          · exact absurd h hx128
          · have e128 : Hid (x % 128 = x - 128) := by unfold Hid; omega
            have hs3 := Lib.hid (hs2.out.trans (if_neg hx128))
            have h128 : 128 ≤ x := by omega
            clear hs2 hx128
            go_wp2_with fail
            go_round
            case rel => exact ⟨k + 1, v + x % 128 * 2 ^ (7 * k), by go_num, rfl, by omega, by omega, o3, O5.out h8, by unfold Hid; rw [← hs.out, hs3.out, e128.out]⟩
            case measure => simp [intOf]; omega
    · have hke : Hid (k = xs.length - p) := by unfold Hid; omega
      have HF := Lib.hid (sGet_fin HG.out hs.out (r := (0, 0, 3)) (by rw [hke.out, List.drop_eq_nil_of_le (by rw [List.length_drop]; omega)]; rfl))
      go_wp2_with fail
      refine bodyPost_ret (results_tmp3 rfl _ _ _) rfl ?_
      rw [HF.out]
      exact ⟨rfl, rfl⟩
theorem Get_c (a : Option Addr) (xs : List Int) (c : Nat) (k : Int) (w : World) (hx : Reads w a c xs) (hby : ∀ x ∈ xs, 0 ≤ x ∧ x ≤ 255) (hn : xs.length ≤ 9223372036854775807) :
    Calls Try.prog 8 #[.slice a xs.length c, .int .i64 k] w fun e w' => e = .returned (.tuple #[.int .u64 (sGet xs k).1, .int .i64 (sGet xs k).2.1, .int .i64 (sGet xs k).2.2]) ∧ w = w' := by
  by_cases h : k < 0 ∨ (xs.length : Int) < k
  · exact Get_out a xs c k w hn h
  · obtain ⟨p, rfl⟩ : ∃ p : Nat, k = p := ⟨k.toNat, by omega⟩
    by_cases hp : p < xs.length
    · exact Get_mid a xs c p w hx hby hn hp
    · obtain rfl : p = xs.length := by omega
      exact Get_end a xs c w hx.2.2 hn
end Go.Proofs.Ytkabbipppocilaa
