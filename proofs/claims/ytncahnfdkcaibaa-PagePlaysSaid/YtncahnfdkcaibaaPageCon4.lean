/- Package page: the contract of Copy. -/
import Derived.Test.YtncahnfdkcaibaaPageCon3
import Derived.Deep.RegionHeld3
namespace Go.Proofs.Ytncahnfdkcaibaa
open Go Go.RowKit
set_option linter.unusedVariables false
theorem PageAt.alloc {w : World} {b : Nat} {bs : List Int} {pm wr : Int} (h : PageAt w b bs pm wr) (o : Obj) : PageAt (w.alloc o) b bs pm wr := by
  refine ⟨h.len, ?_⟩
  have := h.lt
  show (w.heap.push o)[b]? = _
  rw [Array.getElem?_push, if_neg (by omega)]
  exact h.blk
theorem PageAt.drew {w : World} {b : Nat} {bs : List Int} {pm wr : Int} (h : PageAt w b bs pm wr) : PageAt w.drew b bs pm wr := ⟨h.len, h.blk⟩
theorem PageAt.new (w : World) {bs : List Int} (h : bs.length = 256) (pm wr : Int) : PageAt (w.alloc (.cells (pcells bs pm wr) 51)) w.heap.size bs pm wr := ⟨h, heap_alloc_last w _⟩
theorem fold_set : ∀ (l : List Value) (k : Nat) (A : Array Value), k + l.length ≤ A.size →
    (List.foldl (fun (cs : Array Value) (x : Value × Nat) => cs.setIfInBounds x.snd x.fst) A (l.zipIdx k)).toList = A.toList.take k ++ (l ++ A.toList.drop (k + l.length))
  | [], k, A, h => by simp
  | v :: l, k, A, h => by
    have hk : k < A.toList.length := by simp at h ⊢; omega
    rw [List.zipIdx_cons, List.foldl_cons, fold_set l (k + 1) _ (by simp at h ⊢; omega)]
    simp only [Array.toList_setIfInBounds, List.length_cons]
    rw [List.drop_set_of_lt (by omega), List.take_succ_eq_append_getElem (by simpa using hk), List.take_set_of_le (Nat.le_refl _)]
    simp [Nat.add_assoc, Nat.add_comm 1]
theorem fold_page {bs : List Int} (h : bs.length = 256) : List.foldl (fun (cs : Array Value) (x : Value × Nat) => cs.setIfInBounds x.snd x.fst) (pcells noughts 0 0) (List.map (Value.int .u8) bs).zipIdx = pcells bs 0 0 := by
  apply Array.toList_inj.1
  rw [fold_set _ 0 _ (by rw [pcells_size noughts_len]; simp [h])]
  simp [pcells, h, noughts_len]
theorem pcells_writes {bs : List Int} (h : bs.length = 256) (x y z : Int) : (pcells bs x y).setIfInBounds 257 (.int .i64 z) = pcells bs x z := by simp [pcells, h]
theorem Copy_c (b : Nat) (bs : List Int) (pm wr : Int) (w : World) (h : PageAt w b bs pm wr) :
    Calls Try.prog 13 #[.pointer (some ⟨b, 0, none⟩)] w fun e w' => e = .returned (.pointer (some ⟨w.heap.size, 0, none⟩)) ∧ (w.alloc (.cells (pcells bs pm wr) 51)).drewN 2 = w' := by
  have hr := h.range
  have hp := h.perm
  have hi : (Try.prog.info? 26).map (·.size) = some (bs.map (Value.int .u8)).length := by rw [List.length_map, h.len]; exact info256
  have hu := Try.underlying26
  have hl := h.len
  have hz := zero_run
  have hf := fold_page hl
  have hs0 := pcells_size noughts_len 0 0
  have hs1 := pcells_size hl 0 0
  have hs2 := pcells_perm hl 0 0 pm
  generalize pcells noughts 0 0 = C0 at hz hf hs0
  generalize pcells bs 0 0 = C1 at hf hs1 hs2
  have hnew := Lib.hid (fun w : World => PageAt.new w hl pm 0)
  have hs3 := pcells_writes hl pm 0 wr
  generalize pcells bs pm 0 = C at hs2 hnew hs3
  generalize pcells bs pm wr = C2 at hs3
  have ha : ¬ C0.size < 256 := by omega
  have hb : ¬ C1.size < 257 := by omega
  go_enter Try.func13, Try.ntmps13
  have hcc : ∀ o, (w.alloc o).cell? ⟨b, 256, none⟩ = some (.int .i64 pm) := fun o => (h.alloc o).perm
  go_wp2_with fail
  go_region_held3 (fun w' => w'.rangeAt b 0 (bs.map (Value.int .u8)) ∧ w'.cell? ⟨b, 256, none⟩ = some (.int .i64 pm)) (first | exact ⟨hr, hp⟩ | exact ⟨World.rangeAt_alloc hr _, hcc _⟩ | go_keep_ranges) (fail)
  go_wp2_with fail
  go_region_held3 (fun w' => True) (trivial) (first | (go_at_call 21; refine (ALoad_c b 257 wr _ ((h.alloc (.cells C 51)).drew.drew).writes).mono ?_; rintro e w' ⟨rfl, rfl⟩) | (go_at_call 22; refine (AStore_c w.heap.size 257 0 wr _ ((hnew.out w).drew.drew).writes (((hnew.out w).drew.drew).free 257)).mono ?_; rintro e w' ⟨rfl, rfl⟩))
  all_goals go_wp2_with fail
  go_ret
  exact ⟨rfl, rfl⟩
end Go.Proofs.Ytncahnfdkcaibaa
