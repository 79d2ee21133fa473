/- Texts: vint's PutText, GetText; the example; the reference's Get and GetText. -/
import Derived.Test.YtkabbipppocilaaVintCon3
import Derived.Deep.RegionHeld3
namespace Go.Proofs.Ytkabbipppocilaa
open Go.RowKit
set_option linter.unusedVariables false
theorem vput_300 : vput 300 = [172, 2] := by rw [vput_more (by omega), vput_small (by omega)]; rfl
theorem vput_1 : vput 1 = [1] := by rw [vput_small (by omega)]; rfl
theorem conv_zero (w : World) (a : Option Addr) (c : Nat) :
    (convert 23 9 (.slice a 0 c)).run Try.prog w = .ok (.string ⟨#[]⟩) w := by
  cases a with
  | none => exact run_convert_bytes_nil w 23 5 Try.underlying23 Try.underlying5 _ _ 9 Try.underlying9
  | some ad =>
    rw [run_convert_bytes_string w 23 9 5 _ 0 c Try.underlying23 Try.underlying5 Try.underlying9, run_bytesToString w ad 0 c [] (by simpa using run_loadCells_list (P := Try.prog) w ad [] (fun j v hj => by simp at hj))]
    rfl
theorem conv_reads (w : World) (a : Option Addr) (xs : List Int) (c : Nat) (hx : Reads w a c xs) :
    (convert 23 9 (.slice a xs.length c)).run Try.prog w = .ok (.string (strOfNums xs)) w := by
  by_cases h0 : xs.length = 0
  · rw [h0, conv_zero, List.eq_nil_of_length_eq_zero h0]; rfl
  · obtain ⟨b, off, rfl, _⟩ := reads_at hx 0 (by omega)
    refine run_convert_bytes_arg w 23 5 Try.underlying23 Try.underlying5 b off xs.length c xs rfl ?_ 9 Try.underlying9
    intro i hi
    obtain ⟨b', off', h, hc⟩ := reads_at hx i hi
    injection h with h; injection h with h1 h2; subst h1; subst h2
    exact hc
theorem put_m (a : Option Addr) (xs : List Int) (c : Nat) (b : Addr) (ys : List Int) (m d : Nat) (w : World) (hm : ys.length = m) (hx : Reads w a c xs) (hy : ∀ j u, (bv ys)[j]? = some u → w.cell? (b.add j) = some u) (hne : 0 < m)
    (hl : xs.length + m ≤ 140737488355328) :
    Calls Try.prog 16 #[.slice a xs.length c, .slice (some b) m d] w (Gives w (xs ++ ys)) := by
  subst hm
  exact (put_c a xs c b ys d w hx hy hne hl).mono fun e w' ⟨v', he, ho, hb⟩ => by
    subst he
    exact gives_own (by rw [List.length_append]; exact ho) hb (by rw [List.length_append]; omega)
theorem gives_mono {w w1 w' : World} {zs : List Int} {e : Ending} (h : Gives w1 zs e w') (hb : Below w.heap.size w w1) : Gives w zs e w' := by
  obtain ⟨g, c, he, hg, hr, hb'⟩ := h
  exact ⟨g, c, he, Nat.le_trans hb.size hg, hr, hb.trans (hb'.mono hb.size)⟩
theorem Put_z (a : Option Addr) (xs zs : List Int) (c : Nat) (v0 : Nat) (w : World) (hz : zs = xs ++ vput v0) (hx : Reads w a c xs) (hv0 : v0 < 18446744073709551616) (hl : xs.length + 10 ≤ 140737488355328) :
    Calls Try.prog 7 #[.slice a xs.length c, .int .u64 v0] w (Gives w zs) := by
  subst hz; exact Put_r a xs c v0 w hx hv0 hl
theorem PutText_r (a : Option Addr) (xs : List Int) (c : Nat) (s : ByteArray) (w : World) (hx : Reads w a c xs) (hs : s.size ≤ 140737488351232) (hl : xs.length + 10 + s.size ≤ 140737488355328) :
    Calls Try.prog 11 #[.slice a xs.length c, .string s] w (Gives w (xs ++ (vput s.size ++ sb s))) := by
  have HX := Lib.hid hx
  clear hx
  obtain ⟨zs, hz⟩ : ∃ zs, zs = xs ++ vput s.size := ⟨_, rfl⟩
  have hzl : zs.length ≤ xs.length + 10 := by rw [hz, List.length_append]; have := (vput_len (v := s.size) (by omega)).2; omega
  have HZ := Lib.hid hz
  have HE : Hid (xs ++ (vput s.size ++ sb s) = zs ++ sb s) := by unfold Hid; rw [hz, List.append_assoc]
  clear hz
  have hconv := fun (W : World) (s : ByteArray) => Lib.run_convert_string_bytes (P := Try.prog) W 9 23 5 s Try.underlying9 Try.underlying23 Try.underlying5
  by_cases h0 : s.size = 0
  · have HS : Hid (sb s = []) := List.eq_nil_of_length_eq_zero (by rw [sb_len]; exact h0)
    go_enter Try.func11, Try.ntmps11
    go_wp2_with fail
    refine (Put_z a xs zs c 0 _ (by rw [HZ.out, h0]) HX.out (by omega) (by omega)).mono ?_
    rintro e w1 ⟨g, c1, rfl, hg, hr, hb⟩
    have HR := Lib.hid hr
    have HB := Lib.hid hb
    have hcc := hr.2.2
    clear hr hb
    go_wp2_with fail
    refine (put_none_c ⟨g, 0, none⟩ zs c1 _ _ _ (by omega) hcc).mono ?_
    rintro e w2 ⟨rfl, rfl⟩
    go_wp2_with fail
    go_ret
    rw [HE.out, HS.out, List.append_nil]
    have hbb := below_bytes w1 5 s
    have hr2 := HR.out.below hbb
    exact ⟨g, zs.length, rfl, hg, ⟨by simp, hr2.2.1, Nat.le_refl _⟩, HB.out.trans (hbb.mono HB.out.size)⟩
  · have h1 : 0 < s.size := by omega
    clear h0
    go_enter Try.func11, Try.ntmps11
    go_wp2_with fail
    refine (Put_z a xs zs c s.size _ HZ.out HX.out (by omega) (by omega)).mono ?_
    rintro e w1 ⟨g, c1, rfl, hg, hr, hb⟩
    have HR := Lib.hid hr
    have HB := Lib.hid hb
    clear hr hb
    go_wp2_with fail
    refine (put_m (some ⟨g, 0, none⟩) zs c1 ⟨w1.heap.size, 0, none⟩ (sb s) s.size _ _ (sb_len s) (HR.out.below (below_bytes w1 5 s)) (bytes_cells w1 5 s) h1 (by omega)).mono ?_
    rintro e w2 hG
    have HG := Lib.hid (gives_mono (gives_mono hG (below_bytes w1 5 s)) HB.out)
    obtain ⟨g2, c2, rfl, _⟩ := hG
    go_wp2_with fail
    go_ret
    rw [HE.out]
    have hh := HG.out
    rw [List.length_append] at hh
    exact hh
theorem awake_c (w : World) : Calls Try.prog 9 #[] w fun e w' => e = .returned (.bool true) ∧ Below w.heap.size w w' := by
  have hr0 : ∀ W : World, Reads W none 0 [] := fun W => ⟨fun _ => ⟨rfl, rfl⟩, fun b h => (by cases h), Nat.le_refl _⟩
  have HR0 := Lib.hid hr0
  clear hr0
  go_enter Try.func9, Try.ntmps9
  go_wp2_with fail
  refine (Put_z none [] [172, 2] 0 300 _ (by rw [vput_300]; rfl) (HR0.out _) (by omega) (by simp)).mono ?_
  rintro e w1 ⟨g, c1, rfl, hg, hr, hb⟩
  have hc1 : (convert 23 9 (.slice (some ⟨g, 0, none⟩) 2 c1)).run Try.prog w1 = .ok (.string ⟨#[172, 2]⟩) w1 := conv_reads w1 _ _ _ hr
  have HB := Lib.hid hb
  clear hr hb
  go_wp2_with fail
  refine (PutText_r none [] 0 ⟨#[97]⟩ _ (HR0.out _) (by decide) (by decide)).mono ?_
  rintro e w2 ⟨g2, c2, rfl, hg2, hr2, hb2⟩
  have e2 : ([] : List Int) ++ (vput (ByteArray.size ⟨#[97]⟩) ++ sb ⟨#[97]⟩) = [1, 97] := by
    show vput 1 ++ [97] = [1, 97]
    rw [vput_1]; rfl
  rw [e2] at hr2 ⊢
  have hc2 : (convert 23 9 (.slice (some ⟨g2, 0, none⟩) 2 c2)).run Try.prog w2 = .ok (.string ⟨#[1, 97]⟩) w2 := conv_reads w2 _ _ _ hr2
  have HB2 := Lib.hid hb2
  clear hr2 hb2
  go_wp2_with fail
  go_ret
  exact ⟨rfl, HB.out.trans (HB2.out.mono HB.out.size)⟩
end Go.Proofs.Ytkabbipppocilaa
