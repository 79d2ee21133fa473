/- Package page: the contracts of what reads and writes one page. -/
import Derived.Test.YtncahnfdkcaibaaProg
import Derived.Test.YtncahnfdkcaibaaKMem
import Derived.WalkKit
import Derived.Lib.Hide
import Derived.Lib.Walk
import Derived.Lib.Small
import Derived.Lib.Slices
import Derived.Deep.QuietTactic
import Derived.Deep.Heap
import Derived.BigQuiet
import Derived.KernelRfl
import Derived.Below
import Derived.Laws.LoneSync
import Derived.Laws.Rows
import Derived.Lib.Strings
namespace Go.Proofs.Ytncahnfdkcaibaa
open Go Go.RowKit
set_option linter.unusedVariables false
/-- The cells of a page. -/
def pcells (bs : List Int) (pm wr : Int) : Array Value := (bs.map (Value.int .u8) ++ [Value.int .i64 pm, Value.int .i64 wr]).toArray
/-- A page lies whole in block b. -/
structure PageAt (w : World) (b : Nat) (bs : List Int) (pm wr : Int) : Prop where
  len : bs.length = 256
  blk : w.heap[b]? = some (.cells (pcells bs pm wr) 51 (0, 0))
theorem But.cell {b o : Nat} {w : World} (v : Value) : But b w (w.setCell ⟨b, o, none⟩ v) := But.set v
theorem setCell_row (w : World) (b o : Nat) (v : Value) (c : Array Value) (t : TypeId) (fr : Nat × Nat) (h : w.heap[b]? = some (.cells c t fr)) : (w.setCell ⟨b, o, none⟩ v).heap[b]? = some (.cells (c.setIfInBounds o v) t fr) := by
  simp [World.setCell, Array.getElem?_modify, h]
theorem PageAt.lt {w : World} {b : Nat} {bs : List Int} {pm wr : Int} (h : PageAt w b bs pm wr) : b < w.heap.size := (Array.getElem?_eq_some_iff.1 h.blk).1
theorem PageAt.byte {w : World} {b : Nat} {bs : List Int} {pm wr : Int} (h : PageAt w b bs pm wr) (j : Nat) (hj : j < 256) : w.cell? ⟨b, j, none⟩ = some (.int .u8 (bs.getD j 0)) := by
  have hl := h.len
  rw [cell_of_row w b j _ _ _ h.blk]
  simp [pcells, List.getElem?_append_left, hl, hj]
theorem PageAt.perm {w : World} {b : Nat} {bs : List Int} {pm wr : Int} (h : PageAt w b bs pm wr) : w.cell? ⟨b, 256, none⟩ = some (.int .i64 pm) := by
  have hl := h.len
  rw [cell_of_row w b 256 _ _ _ h.blk]
  simp [pcells, hl]
theorem PageAt.writes {w : World} {b : Nat} {bs : List Int} {pm wr : Int} (h : PageAt w b bs pm wr) : w.cell? ⟨b, 257, none⟩ = some (.int .i64 wr) := by
  have hl := h.len
  rw [cell_of_row w b 257 _ _ _ h.blk]
  simp [pcells, hl]
theorem PageAt.free {w : World} {b : Nat} {bs : List Int} {pm wr : Int} (h : PageAt w b bs pm wr) (o : Nat) : w.frozen? ⟨b, o, none⟩ = false := by
  simp [World.frozen?, h.blk]
theorem PageAt.setByte {w : World} {b : Nat} {bs : List Int} {pm wr : Int} (h : PageAt w b bs pm wr) (j : Nat) (hj : j < 256) (v : Int) : PageAt (w.setCell ⟨b, j, none⟩ (.int .u8 v)) b (bs.set j v) pm wr := by
  have hl := h.len
  refine ⟨by simp [hl], ?_⟩
  rw [setCell_row w b j _ _ _ _ h.blk]
  simp [pcells, hl, hj, List.map_set]
theorem PageAt.setPerm {w : World} {b : Nat} {bs : List Int} {pm wr : Int} (h : PageAt w b bs pm wr) (v : Int) : PageAt (w.setCell ⟨b, 256, none⟩ (.int .i64 v)) b bs v wr := by
  have hl := h.len
  refine ⟨hl, ?_⟩
  rw [setCell_row w b 256 _ _ _ _ h.blk]
  simp [pcells, hl]
theorem PageAt.setWrites {w : World} {b : Nat} {bs : List Int} {pm wr : Int} (h : PageAt w b bs pm wr) (v : Int) : PageAt (w.setCell ⟨b, 257, none⟩ (.int .i64 v)) b bs pm v := by
  have hl := h.len
  refine ⟨hl, ?_⟩
  rw [setCell_row w b 257 _ _ _ _ h.blk]
  simp [pcells, hl]
theorem PageAt.but {w w' : World} {b c : Nat} {bs : List Int} {pm wr : Int} (h : PageAt w b bs pm wr) (k : But c w w') (hne : b ≠ c) : PageAt w' b bs pm wr := ⟨h.len, by rw [k.block b hne]; exact h.blk⟩
theorem Perm_c (b : Nat) (bs : List Int) (pm wr : Int) (w : World) (h : PageAt w b bs pm wr) :
    Calls Try.prog 15 #[.pointer (some ⟨b, 0, none⟩)] w fun e w' => e = .returned (.int .i64 pm) ∧ w = w' := by
  have h1 := h.perm
  go_enter Try.func15, Try.ntmps15
  go_wp2_with fail
  go_ret
  exact ⟨rfl, rfl⟩
theorem Byte_c (b : Nat) (bs : List Int) (pm wr : Int) (k : Int) (w : World) (h : PageAt w b bs pm wr) (h0 : -9223372036854775808 ≤ k) (h1 : k ≤ 9223372036854775807) :
    Calls Try.prog 10 #[.pointer (some ⟨b, 0, none⟩), .int .i64 k] w fun e w' => e = .returned (.int .u8 (if 0 ≤ k ∧ k < 256 then bs.getD k.toNat 0 else 0)) ∧ w = w' := by
  by_cases hk : 0 ≤ k ∧ k < 256
  · obtain ⟨n, rfl⟩ : ∃ n : Nat, k = n := ⟨k.toNat, by omega⟩
    have hc := h.byte n (by omega)
    have ha : ¬ (n : Int) < 0 := by omega
    have hb : ¬ 256 ≤ (n : Int) := by omega
    have hb2 : (n : Int) < 256 := by omega
    have hb3 : (0 : Int) ≤ n := by omega
    rw [if_pos hk]
    go_enter Try.func10, Try.ntmps10
    go_wp2_with fail
    go_ret
    exact ⟨by simp, rfl⟩
  · rw [if_neg hk]
    by_cases hn : k < 0
    · go_enter Try.func10, Try.ntmps10
      go_wp2_with fail
      go_ret
      exact ⟨rfl, rfl⟩
    · have hb : 256 ≤ k := by omega
      go_enter Try.func10, Try.ntmps10
      go_wp2_with fail
      go_ret
      exact ⟨rfl, rfl⟩
theorem and7 (p : Int) : bits .and .i64 p 7 = p % 8 := by
  have h7 : (BitVec.ofInt 64 7).toNat = 2 ^ 3 - 1 := by decide
  have key : (BitVec.ofInt 64 p &&& BitVec.ofInt 64 7).toNat = (p % ((2 ^ 64 : Nat) : Int)).toNat % 2 ^ 3 := by
    rw [BitVec.toNat_and, BitVec.toNat_ofInt, h7, Nat.and_two_pow_sub_one_eq_mod]
  show IntKind.i64.wrap ((BitVec.ofInt 64 p &&& BitVec.ofInt 64 7).toNat : Nat) = p % 8
  rw [key, IntKind.wrap_i64]
  omega
theorem SetPerm_c (b : Nat) (bs : List Int) (pm wr p : Int) (w : World) (h : PageAt w b bs pm wr) (h0 : -9223372036854775808 ≤ p) (h1 : p ≤ 9223372036854775807) :
    Calls Try.prog 14 #[.pointer (some ⟨b, 0, none⟩), .int .i64 p] w fun e w' => e = .returned (.tuple #[]) ∧ PageAt w' b bs (p % 8) wr ∧ But b w w' := by
  have hc := h.perm
  have hf := h.free 256
  have h7 := and7 p
  go_enter Try.func14, Try.ntmps14
  go_wp2_with fail
  first | go_ret | go_end0
  exact ⟨rfl, h.setPerm _, But.cell _⟩
theorem Load_r (a : Addr) (x : Int) (w : World) (hc : w.cell? a = some (.int .i64 x)) : (callFunc 25 #[.pointer (some a)]).run Try.prog w = .ok (.value (.int .i64 x)) w :=
  run_call_load Try.func25 (by kernel_rfl) (by kernel_rfl) (by kernel_rfl) .i64 (by rfl) hc
theorem ALoad_c (b o : Nat) (x : Int) (w : World) (hc : w.cell? ⟨b, o, none⟩ = some (.int .i64 x)) :
    Calls Try.prog 21 #[.pointer (some ⟨b, o, none⟩)] w fun e w' => e = .returned (.int .i64 x) ∧ w = w' := by
  have hl := Load_r ⟨b, o, none⟩ x w hc
  go_enter Try.func21, Try.ntmps21
  go_wp2_with fail
  go_ret
  exact ⟨rfl, rfl⟩
theorem Store_r (a : Addr) (x y : Int) (w : World) (hc : w.cell? a = some (.int .i64 x)) (hf : w.frozen? a = false) : (callFunc 26 #[.pointer (some a), .int .i64 y]).run Try.prog w = .ok (.value (.tuple #[])) (w.setCell a (.int .i64 y)) :=
  run_call_store Try.func26 (by kernel_rfl) (by kernel_rfl) (by kernel_rfl) (by rfl) hc hf
theorem AStore_c (b o : Nat) (x y : Int) (w : World) (hc : w.cell? ⟨b, o, none⟩ = some (.int .i64 x)) (hf : w.frozen? ⟨b, o, none⟩ = false) :
    Calls Try.prog 22 #[.pointer (some ⟨b, o, none⟩), .int .i64 y] w fun e w' => e = .returned (.tuple #[]) ∧ w.setCell ⟨b, o, none⟩ (.int .i64 y) = w' := by
  have hl := Store_r ⟨b, o, none⟩ x y w hc hf
  go_enter Try.func22, Try.ntmps22
  go_wp2_with fail
  first | go_ret | go_end0
  exact ⟨rfl, rfl⟩
theorem Add_r (a : Addr) (x y : Int) (w : World) (hc : w.cell? a = some (.int .i64 x)) (hf : w.frozen? a = false) : (callFunc 24 #[.pointer (some a), .int .i64 y]).run Try.prog w = .ok (.value (.int .i64 (IntKind.i64.wrap (x + y)))) (w.setCell a (.int .i64 (IntKind.i64.wrap (x + y)))) :=
  run_call_add Try.func24 (by kernel_rfl) (by kernel_rfl) (by kernel_rfl) .i64 (by rfl) hc hf (by rfl)
theorem AAdd_c (b o : Nat) (x y s : Int) (w : World) (hs : IntKind.i64.wrap (x + y) = s) (hc : w.cell? ⟨b, o, none⟩ = some (.int .i64 x)) (hf : w.frozen? ⟨b, o, none⟩ = false) :
    Calls Try.prog 20 #[.pointer (some ⟨b, o, none⟩), .int .i64 y] w fun e w' => e = .returned (.int .i64 s) ∧ w.setCell ⟨b, o, none⟩ (.int .i64 s) = w' := by
  have hl := Add_r ⟨b, o, none⟩ x y w hc hf
  rw [hs] at hl
  clear hs
  go_enter Try.func20, Try.ntmps20
  go_wp2_with fail
  go_ret
  exact ⟨rfl, rfl⟩
theorem Writes_c (b : Nat) (bs : List Int) (pm wr : Int) (w : World) (h : PageAt w b bs pm wr) :
    Calls Try.prog 11 #[.pointer (some ⟨b, 0, none⟩)] w fun e w' => e = .returned (.int .i64 wr) ∧ w = w' := by
  have hc := h.writes
  go_enter Try.func11, Try.ntmps11
  go_wp2_with (first | (go_at_call 21; refine (ALoad_c _ _ _ _ hc).mono ?_; rintro e w' ⟨rfl, rfl⟩))
  go_ret
  exact ⟨rfl, rfl⟩
theorem SetByte_c (b : Nat) (bs : List Int) (pm wr k v : Int) (w : World) (h : PageAt w b bs pm wr) (h0 : -9223372036854775808 ≤ k) (h1 : k ≤ 9223372036854775807) (hw : -9223372036854775808 ≤ wr) (hw1 : wr < 9223372036854775807) :
    Calls Try.prog 8 #[.pointer (some ⟨b, 0, none⟩), .int .i64 k, .int .u8 v] w fun e w' => e = .returned (.tuple #[]) ∧
      PageAt w' b (if 0 ≤ k ∧ k < 256 then bs.set k.toNat v else bs) pm (if 0 ≤ k ∧ k < 256 then wr + 1 else wr) ∧ But b w w' := by
  by_cases hk : 0 ≤ k ∧ k < 256
  · obtain ⟨n, rfl⟩ : ∃ n : Nat, k = n := ⟨k.toNat, by omega⟩
    have hc := h.byte n (by omega)
    have hf := h.free n
    have h2 := h.setByte n (by omega) v
    have hc2 := h2.writes
    have hf2 := h2.free 257
    have ha : ¬ (n : Int) < 0 := by omega
    have hb : ¬ 256 ≤ (n : Int) := by omega
    have hb2 : (n : Int) < 256 := by omega
    have hb3 : (0 : Int) ≤ n := by omega
    have HW : Hid (IntKind.i64.wrap (wr + 1) = wr + 1) := by unfold Hid; rw [IntKind.wrap_i64]; omega
    rw [if_pos hk, if_pos hk]
    go_enter Try.func8, Try.ntmps8
    go_wp2_with (first | (go_at_call 20; refine (AAdd_c _ _ _ _ _ _ HW.out hc2 hf2).mono ?_; rintro e w' ⟨rfl, rfl⟩))
    first | go_ret | go_end0
    exact ⟨rfl, by simpa using h2.setWrites (wr + 1), (But.cell _).trans (But.cell _)⟩
  · rw [if_neg hk, if_neg hk]
    by_cases hn : k < 0
    · go_enter Try.func8, Try.ntmps8
      go_wp2_with fail
      (try simp only [Exit.inBlock, Exit.then])
      refine bodyPost_ret (results_none rfl _ _ _) rfl ?_
      exact ⟨rfl, h, But.refl _ _⟩
    · have hb : 256 ≤ k := by omega
      go_enter Try.func8, Try.ntmps8
      go_wp2_with fail
      (try simp only [Exit.inBlock, Exit.then])
      refine bodyPost_ret (results_none rfl _ _ _) rfl ?_
      exact ⟨rfl, h, But.refl _ _⟩
end Go.Proofs.Ytncahnfdkcaibaa
