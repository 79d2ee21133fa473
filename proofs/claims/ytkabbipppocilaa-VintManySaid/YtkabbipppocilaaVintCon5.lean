/- vint's GetText; the reference's Get and GetText. -/
import Derived.Test.YtkabbipppocilaaVintCon4
namespace Go.Proofs.Ytkabbipppocilaa
open Go.RowKit
set_option linter.unusedVariables false
theorem sGo_bd : ∀ (l : List Int) (i : Nat) (v : Int), (∀ x ∈ l, 0 ≤ x ∧ x ≤ 255) → i ≤ 9 → 0 ≤ v → v < 2 ^ (7 * i) →
    0 ≤ (sGo l i v).1 ∧ (sGo l i v).1 < 18446744073709551616 ∧ 0 ≤ (sGo l i v).2.2 ∧ (sGo l i v).2.2 ≤ 4 ∧ ((sGo l i v).2.2 = 0 → (i : Int) < (sGo l i v).2.1 ∧ (sGo l i v).2.1 ≤ i + l.length) := by
  intro l
  induction l with
  | nil => intro i v _ _ _ _; simp [sGo]
  | cons x l ih =>
    intro i v hx hi h0 h1
    have hx0 := hx x (by simp)
    simp only [sGo]
    split
    · simp
    · rename_i h9
      obtain ⟨_, _, o3, o4, o5⟩ := or_add v (x % 128) i hi h0 h1 (by omega) (by omega) (fun h => by omega)
      split
      · split
        · simp
        · rename_i hx1 _
          rw [show x % 128 = x by omega] at o3 o4
          exact ⟨o3, o4, Int.le_refl 0, (by show (0 : Int) ≤ 4; omega), fun _ => ⟨by show (i : Int) < i + 1; omega, by show (i : Int) + 1 ≤ i + (l.length + 1 : Nat); omega⟩⟩
      · rename_i hx1
        rw [show x % 128 = x - 128 by omega] at o3 o5
        have := ih (i + 1) (v + (x - 128) * 2 ^ (7 * i)) (fun y hy => hx y (by simp [hy])) (by omega) o3 (o5 (by omega))
        refine ⟨this.1, this.2.1, this.2.2.1, this.2.2.2.1, fun h => ?_⟩
        have := this.2.2.2.2 h
        simp only [List.length_cons]; omega
theorem sGet_bd {xs : List Int} (k : Int) (hx : ∀ x ∈ xs, 0 ≤ x ∧ x ≤ 255) :
    0 ≤ (sGet xs k).1 ∧ (sGet xs k).1 < 18446744073709551616 ∧ 0 ≤ (sGet xs k).2.2 ∧ (sGet xs k).2.2 ≤ 4 ∧ ((sGet xs k).2.2 = 0 → 0 ≤ k ∧ k < (sGet xs k).2.1 ∧ (sGet xs k).2.1 ≤ xs.length) := by
  unfold sGet
  split
  · simp
  · rename_i h
    have := sGo_bd (xs.drop k.toNat) 0 0 (fun x hx' => hx x (List.mem_of_mem_drop hx')) (by omega) (by omega) (by simp)
    refine ⟨this.1, this.2.1, this.2.2.1, this.2.2.2.1, fun he => ?_⟩
    simp only [] at he ⊢
    rw [if_pos he]
    have h2 := this.2.2.2.2 he
    rw [List.length_drop] at h2
    omega
/-- What GetText tells, of what Get tells. -/
def gtOf (xs : List Int) (r : Int × Int × Int) (m : Int) : List Int × Int × Int :=
  if r.2.2 ≠ 0 then ([], 0, r.2.2) else if m < 0 ∨ m < r.1 then ([], 0, 2) else if (xs.length : Int) - r.2.1 < r.1 then ([], 0, 3)
  else ((xs.drop r.2.1.toNat).take r.1.toNat, r.2.1 + r.1, 0)
def sGetText (xs : List Int) (k m : Int) : List Int × Int × Int := gtOf xs (sGet xs k) m
theorem conv_part (w : World) (b off c c' p n : Nat) (xs : List Int) (hx : Reads w (some ⟨b, off, none⟩) c xs) (hp : p + n ≤ xs.length) :
    (convert 23 9 (.slice (some ⟨b, off + p, none⟩) n c')).run Try.prog w = .ok (.string (strOfNums ((xs.drop p).take n))) w := by
  refine run_convert_bytes_arg w 23 5 Try.underlying23 Try.underlying5 b (off + p) n c' ((xs.drop p).take n) (by rw [List.length_take, List.length_drop]; omega) ?_ 9 Try.underlying9
  intro i hi
  obtain ⟨b', off', h, hc⟩ := reads_at hx (p + i) (by omega)
  injection h with h; injection h with h1 h2; subst h1; subst h2
  rw [Nat.add_assoc, hc]
  simp [List.getD, hi]
theorem ret_sii {a b : ByteArray} {l m : IntKind} {c d e f : Int} (h : a = b) (h' : c = d) (h'' : e = f) : Ending.returned (.tuple #[.string a, .int l c, .int m e]) = .returned (.tuple #[.string b, .int l d, .int m f]) := by rw [h, h', h'']
set_option maxRecDepth 20000 in
set_option maxHeartbeats 2000000 in
theorem GetText_c (a : Option Addr) (xs : List Int) (c : Nat) (k m : Int) (w : World) (hx : Reads w a c xs) (hby : ∀ x ∈ xs, 0 ≤ x ∧ x ≤ 255) (hn : xs.length ≤ 9223372036854775807) (m0 : -9223372036854775808 ≤ m) (m1 : m ≤ 9223372036854775807) :
    Calls Try.prog 13 #[.slice a xs.length c, .int .i64 k, .int .i64 m] w fun e w' => e = .returned (.tuple #[.string (strOfNums (sGetText xs k m).1), .int .i64 (sGetText xs k m).2.1, .int .i64 (sGetText xs k m).2.2]) ∧ w = w' := by
  obtain ⟨g0, g1, g2, g3, g4⟩ := sGet_bd k hby
  have hG := Get_c a xs c k w hx hby hn
  unfold sGetText
  generalize sGet xs k = r at g0 g1 g2 g3 g4 hG
  obtain ⟨n, nx, e⟩ := r
  simp only [] at g0 g1 g2 g3 g4 hG
  have HX := Lib.hid hx
  have HG := Lib.hid hG
  have hcap := hx.2.2
  have G1 := Lib.hid g1
  clear hx hG g1 hby
  by_cases he : e = 0
  · obtain ⟨k0, k1, k2⟩ := g4 he
    subst he
    clear g4 g2 g3
    by_cases hm : m < 0
    · have HF : Hid (gtOf xs (n, nx, 0) m = ([], 0, 2)) := by unfold Hid gtOf; rw [if_neg (by simp), if_pos (Or.inl hm)]
      go_enter Try.func13, Try.ntmps13
      go_wp2_with (go_at_call 8; refine HG.out.mono ?_; rintro e w' ⟨rfl, rfl⟩)
      refine bodyPost_ret (results_tmp3 rfl _ _ _) rfl ?_
      rw [HF.out]
      exact ⟨rfl, rfl⟩
    · by_cases hnm : m < n
      · have HF : Hid (gtOf xs (n, nx, 0) m = ([], 0, 2)) := by unfold Hid gtOf; rw [if_neg (by simp), if_pos (Or.inr hnm)]
        go_enter Try.func13, Try.ntmps13
        go_wp2_with (go_at_call 8; refine HG.out.mono ?_; rintro e w' ⟨rfl, rfl⟩)
        refine bodyPost_ret (results_tmp3 rfl _ _ _) rfl ?_
        rw [HF.out]
        exact ⟨rfl, rfl⟩
      · by_cases hnl : (xs.length : Int) - nx < n
        · have HF : Hid (gtOf xs (n, nx, 0) m = ([], 0, 3)) := by unfold Hid gtOf; rw [if_neg (by simp), if_neg (by simp only []; omega), if_pos hnl]
          go_enter Try.func13, Try.ntmps13
          go_wp2_with (go_at_call 8; refine HG.out.mono ?_; rintro e w' ⟨rfl, rfl⟩)
          refine bodyPost_ret (results_tmp3 rfl _ _ _) rfl ?_
          rw [HF.out]
          exact ⟨rfl, rfl⟩
        · have HF : Hid (gtOf xs (n, nx, 0) m = ((xs.drop nx.toNat).take n.toNat, nx + n, 0)) := by unfold Hid gtOf; rw [if_neg (by simp), if_neg (by simp only []; omega), if_neg hnl]
          by_cases hc : c = nx.toNat
          · obtain rfl : n = 0 := by omega
            subst hc
            have hconv := fun (c : Nat) => conv_zero w a c
            go_enter Try.func13, Try.ntmps13
            go_wp2_with (go_at_call 8; refine HG.out.mono ?_; rintro e w' ⟨rfl, rfl⟩)
            refine bodyPost_ret (results_tmp3 rfl _ _ _) rfl ?_
            rw [HF.out]
            exact ⟨ret_sii rfl (by show nx = nx + 0; omega) rfl, rfl⟩
          · obtain ⟨b, off, rfl, -⟩ := reads_at HX.out 0 (by omega)
            have el : Hid ((nx + n).toNat - nx.toNat = n.toNat) := by unfold Hid; omega
            have hconv : (convert 23 9 (.slice (some ⟨b, off + nx.toNat, none⟩) ((nx + n).toNat - nx.toNat) (c - nx.toNat))).run Try.prog w = .ok (.string (strOfNums ((xs.drop nx.toNat).take n.toNat))) w := by
              rw [el.out]; exact conv_part w b off c _ nx.toNat n.toNat xs HX.out (by omega)
            go_enter Try.func13, Try.ntmps13
            go_wp2_with (go_at_call 8; refine HG.out.mono ?_; rintro e w' ⟨rfl, rfl⟩)
            refine bodyPost_ret (results_tmp3 rfl _ _ _) rfl ?_
            rw [HF.out]
            exact ⟨rfl, rfl⟩
  · have HF : Hid (gtOf xs (n, nx, e) m = ([], 0, e)) := by unfold Hid gtOf; rw [if_pos he]
    have he' : (e != 0) = true := bne_iff_ne.mpr he
    clear he
    go_enter Try.func13, Try.ntmps13
    go_wp2_with (go_at_call 8; refine HG.out.mono ?_; rintro e w' ⟨rfl, rfl⟩)
    refine bodyPost_ret (results_tmp3 rfl _ _ _) rfl ?_
    rw [HF.out]
    exact ⟨rfl, rfl⟩
end Go.Proofs.Ytkabbipppocilaa
