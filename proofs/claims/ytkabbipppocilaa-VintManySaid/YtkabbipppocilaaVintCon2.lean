/- More of package vint and of its reference: texts, reading. -/
import Derived.Test.YtkabbipppocilaaVintCon
import Derived.Lib.ConvBytes
import Derived.Deep.Upon
namespace Go.Proofs.Ytkabbipppocilaa
open Go.RowKit
set_option linter.unusedVariables false
/-- A call that answers a slice in new memory which reads so. -/
def Gives (w : World) (zs : List Int) (e : Ending) (w' : World) : Prop :=
  ∃ g c, e = .returned (.slice (some ⟨g, 0, none⟩) zs.length c) ∧ w.heap.size ≤ g ∧ Reads w' (some ⟨g, 0, none⟩) c zs ∧ Below w.heap.size w w'
theorem gives_own {w w' : World} {v : Value} {zs : List Int} (h : w'.ownsRow w.heap.size 5 1 v zs.length (bv zs)) (hb : Below w.heap.size w w') (hn : 0 < zs.length) : Gives w zs (.returned v) w' := by
  obtain ⟨g, cap, rfl, hg, hc, hr⟩ := own_slice h hn
  exact ⟨g, cap, rfl, hg, ⟨by simp, fun b hb0 j u hj => by injection hb0 with e; subst e; exact hr j u hj, hc⟩, hb⟩
theorem Put_r (a : Option Addr) (xs : List Int) (c : Nat) (v0 : Nat) (w : World) (hx : Reads w a c xs) (hv0 : v0 < 18446744073709551616) (hl : xs.length + 10 ≤ 140737488355328) :
    Calls Try.prog 7 #[.slice a xs.length c, .int .u64 v0] w (Gives w (xs ++ vput v0)) :=
  (Put_c a xs c v0 w hx hv0 hl).mono fun e w' ⟨v', he, ho, hb⟩ => by
    subst he
    have := vput_len hv0
    exact gives_own (by rw [List.length_append]; exact ho) hb (by rw [List.length_append]; omega)
set_option maxRecDepth 20000 in
set_option maxHeartbeats 2000000 in
theorem rPut_r (v0 : Nat) (w : World) (hv0 : v0 < 18446744073709551616) :
    Calls Try.prog 10 #[.int .u64 v0] w (Gives w (vput v0)) := by
  obtain ⟨i0, hi, hz0, hz1, hz2⟩ := info_parts info8
  have HV := Lib.hid hv0
  clear hv0
  go_enter Try.func10, Try.ntmps10
  go_wp2_with fail
  go_loopw [0, 3] (fun sv sl wr => ∃ (v : Nat) (done : List Int), sv = .int .u64 v ∧ v ≤ v0 ∧ done ++ vput v = vput v0 ∧ wr.ownsRow w.heap.size 5 1 sl done.length (bv done) ∧ Below w.heap.size w wr) (fun sv _ _ => (intOf sv).toNat)
  case atStart => exact ⟨v0, [], rfl, Nat.le_refl _, rfl, World.ownsRow_nil _ _ _ _, Below.refl _ _⟩
  case round =>
    obtain ⟨v, done, rfl, hle, hd, hown, hb⟩ := hrel
    have HD := Lib.hid hd
    have HO := Lib.hid hown
    have HB := Lib.hid hb
    have HV2 : Hid (v < 18446744073709551616) := by have := HV.out; unfold Hid; omega
    clear hd hown hb
    have hlen : Hid (done.length + (vput v).length ≤ 10 ∧ 1 ≤ (vput v).length) := by
      have h1 := (vput_len HV.out).2
      have h2 := vput_len HV2.out
      have h3 := congrArg List.length HD.out
      simp only [List.length_append] at h3
      unfold Hid; omega
    rcases vput_split v HV2.out with h | ⟨h, hm⟩
    · have hn : (v : Int) < 128 := by omega
      have hs := Lib.hid (vput_small h)
      clear h
      go_wp2_with (first | (at_builtin; refine wpList_append_own _ rfl (.tmp 15) (.tmp 18) 23 rfl w.heap.size 5 i0 (.int .u8 0) 1 1 Try.underlying23 hi hz0 hz1 hz2 rfl (by decide) _ _ _ rfl (HO.out.alloc _) ⟨wr.heap.size, 0, none⟩ 1 1 [.int .u8 (v : Int)] rfl rfl ?c1 ?c2 ?c3 ?c4 ?c5 ?_))
      case c1 => exact cell_new1 _ _ _
      case c2 => intro u hu; simp at hu; subst hu; rfl
      case c3 => have := hlen.out; unfold maxLen; omega
      case c4 => have := hlen.out; omega
      case c5 => have := HB.out.size; simp; omega
      intro v' w1 hown' hg _
      have hb2 : Hid (Below w.heap.size w w1) := (HB.out.alloc HB.out.size _).grown hg (by have := HB.out.size; simp; omega) (fun k hk => ownBlock_from HO.out hk)
      have hr : Hid (w1.ownsRow w.heap.size 5 1 v' (done ++ [(v : Int)]).length (bv (done ++ [(v : Int)]))) := by
        unfold Hid
        rw [bv_app, List.length_append]
        exact hown'
      clear hown' hg
      go_wp2_with fail
      go_ret
      have hfin : vput v0 = done ++ [(v : Int)] := by rw [← HD.out, hs.out]
      rw [hfin]
      exact gives_own hr.out hb2.out (by simp)
    · have hn : 128 ≤ (v : Int) := by omega
      have HM := Lib.hid hm
      have hw : IntKind.u64.wrap ((v : Int) / 128) = (v : Int) / 128 := by rw [IntKind.wrap_u64]; have := HV2.out; omega
      clear hm
      go_wp2_with (first | (at_builtin; refine wpList_append_own _ rfl (.tmp 6) (.tmp 11) 23 rfl w.heap.size 5 i0 (.int .u8 0) 1 1 Try.underlying23 hi hz0 hz1 hz2 rfl (by decide) _ _ _ rfl (HO.out.alloc _) ⟨wr.heap.size, 0, none⟩ 1 1 [.int .u8 ((v : Int) % 128 + 128)] rfl rfl ?c1 ?c2 ?c3 ?c4 ?c5 ?_))
      case c1 => exact cell_new1 _ _ _
      case c2 => intro u hu; simp at hu; subst hu; rfl
      case c3 => have := hlen.out; unfold maxLen; omega
      case c4 => have := hlen.out; omega
      case c5 => have := HB.out.size; simp; omega
      intro v' w1 hown' hg _
      have hr : Hid (w1.ownsRow w.heap.size 5 1 v' (done ++ [((v % 128 + 128 : Nat) : Int)]).length (bv (done ++ [((v % 128 + 128 : Nat) : Int)]))) := by
        unfold Hid
        rw [bv_app]
        have e : ((v % 128 + 128 : Nat) : Int) = (v : Int) % 128 + 128 := by omega
        rw [e, List.length_append]
        exact hown'
      have hb2 : Hid (Below w.heap.size w w1) := (HB.out.alloc HB.out.size _).grown hg (by have := HB.out.size; simp; omega) (fun k hk => ownBlock_from HO.out hk)
      clear hown' hg
      go_wp2_with fail
      go_roundw
      case rel =>
        refine ⟨v / 128, done ++ [((v % 128 + 128 : Nat) : Int)], by simp, by omega, ?_, hr.out, hb2.out⟩
        rw [← HD.out, HM.out]; simp
      case measure => simp [intOf]; omega
/-- A text's bytes, as numbers. -/
def sb (s : ByteArray) : List Int := s.data.toList.map fun b => (b.toNat : Int)
theorem sb_len (s : ByteArray) : (sb s).length = s.size := by unfold sb; rw [List.length_map, Array.length_toList]; rfl
theorem sb_byte (s : ByteArray) : ∀ x ∈ sb s, 0 ≤ x ∧ x ≤ 255 := by
  intro x hx
  simp only [sb, List.mem_map] at hx
  obtain ⟨b, _, rfl⟩ := hx
  have := b.toNat_lt
  omega
theorem str_sb (s : ByteArray) : strOfNums (sb s) = s := by
  unfold strOfNums sb
  cases s with
  | mk d =>
    have : ((d.toList.map fun b => (b.toNat : Int)).map fun n => UInt8.ofNat n.toNat) = d.toList := by
      rw [List.map_map]
      conv => rhs; rw [← List.map_id d.toList]
      apply List.map_congr_left
      intro b _
      simp
    rw [this]
theorem str_app (xs ys : List Int) : strOfNums (xs ++ ys) = strOfNums xs ++ strOfNums ys := by
  unfold strOfNums
  apply ByteArray.ext
  simp [ByteArray.data_append]
theorem below_bytes (w : World) (e : TypeId) (s : ByteArray) : Below w.heap.size w (Lib.bytesWorld w e s) :=
  ⟨by simp [Lib.bytesWorld, World.freeze, World.alloc, World.drew, -World.alloc_eq, -World.drew_eq], by simp [Lib.bytesWorld, World.freeze, World.alloc, World.drew, -World.alloc_eq, -World.drew_eq], by simp [Lib.bytesWorld, World.freeze, World.alloc, World.drew, -World.alloc_eq, -World.drew_eq], by rw [Lib.bytesWorld_size]; omega, fun k hk => Lib.bytesWorld_at_old w e s k hk⟩
theorem bytes_cells (w : World) (e : TypeId) (s : ByteArray) : ∀ j u, (bv (sb s))[j]? = some u → (Lib.bytesWorld w e s).cell? ((⟨w.heap.size, 0, none⟩ : Addr).add j) = some u := by
  intro j u h
  obtain ⟨hj, rfl⟩ := bv_get h
  have hadd : (⟨w.heap.size, 0, none⟩ : Addr).add j = ⟨w.heap.size, j, none⟩ := by unfold Addr.add; split <;> simp_all
  rw [sb_len] at hj
  rw [hadd, Lib.bytesWorld_cell w e s j hj]
  simp [sb, List.getD, hj]
theorem put_none_c (b : Addr) (xs : List Int) (c : Nat) (d : Addr) (m : Nat) (w : World) (hn : xs.length ≤ 140737488355328) (hc : xs.length ≤ c) :
    Calls Try.prog 16 #[.slice (some b) xs.length c, .slice (some d) 0 m] w fun e w' => e = .returned (.slice (some b) xs.length xs.length) ∧ w = w' := by
  obtain ⟨i0, hi, hz0, hz1, hz2⟩ := info_parts info8
  have hrun := fun W : World => run_append_nothing (P := Try.prog) W 23 23 23 5 i0 Try.underlying23 hi
  go_enter Try.func16, Try.ntmps16
  go_wp2
  go_ret
  exact ⟨rfl, rfl⟩
end Go.Proofs.Ytkabbipppocilaa
