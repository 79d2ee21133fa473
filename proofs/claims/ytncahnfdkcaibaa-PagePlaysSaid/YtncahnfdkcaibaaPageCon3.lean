/- Package page: the contract of Bytes. -/
import Derived.Test.YtncahnfdkcaibaaPageCon2
import Derived.Deep.MidRow
import Derived.Deep.WholeRow
namespace Go.Proofs.Ytncahnfdkcaibaa
open Go Go.RowKit
set_option linter.unusedVariables false
theorem PageAt.range {w : World} {b : Nat} {bs : List Int} {pm wr : Int} (h : PageAt w b bs pm wr) : w.rangeAt b 0 (bs.map (Value.int .u8)) := by
  intro j v hv
  have hl := h.len
  have hj : j < bs.length := by
    have := (List.getElem?_eq_some_iff.1 hv).1
    simpa using this
  rw [Nat.zero_add, h.byte j (by omega)]
  simp [hj] at hv
  simp [hj, hv]
theorem info256 : (Try.prog.info? 26).map (·.size) = some 256 := by kernel_rfl
theorem zero_256 : Try.t26.zero = some (.agg (noughts.map (Value.int .u8)).toArray) := by kernel_rfl
theorem zero_256_run (w : World) : (zeroValue 26).run Try.prog w = .ok (.agg (noughts.map (Value.int .u8)).toArray) w := by
  have h := zero_256
  generalize Value.agg (noughts.map (Value.int .u8)).toArray = z at h
  simp [zeroValue, h, Result.andThen]
theorem u8_one (bs : List Int) : (bs.map (Value.int .u8)).toArray.all (·.oneCell') = true := by
  simp [Value.oneCell']
theorem slice256 (m x y : Nat) (w : World) (h : x + y ≤ 256) : (Instr.sliceAt 26 (.pointer (some ⟨m, 0, none⟩)) (some (.int .i64 x)) (some (.int .i64 ((x : Int) + y))) none).run Try.prog w =
    .ok (.slice (some (if 256 = x then ⟨m, 0, none⟩ else ⟨m, x, none⟩)) y (256 - x)) w := by
  have h1 : (0 : Int) ≤ x := by omega
  have h2 : (x : Int) ≤ (x + y : Int) := by omega
  have h3 : (x : Int) + y ≤ 256 := by omega
  have h4 : (0 : Int) ≤ (x : Int) + y := by omega
  have h5 : ((x : Int) + y).toNat = x + y := by omega
  simp [Instr.sliceAt, Instr.sureAddr, Instr.sliceBounds, run_sliceBound, h1, h2, h3, h4, h5, Result.andThen, Addr.add]
  split
  · rfl
  · split
    · rename_i hx; rw [hx]
    · rfl
theorem Bytes_c (b : Nat) (bs : List Int) (pm wr k n : Int) (w : World) (h : PageAt w b bs pm wr) (k0 : -9223372036854775808 ≤ k) (k1 : k ≤ 9223372036854775807) (n0 : -9223372036854775808 ≤ n) (n1 : n ≤ 9223372036854775807) (x y : Nat)
    (hx : max 0 (min k 256) = x) (hy : max 0 (min n (256 - x)) = y) :
    Calls Try.prog 9 #[.pointer (some ⟨b, 0, none⟩), .int .i64 k, .int .i64 n] w fun e w' => e = .returned (.slice (some (if 256 = x then ⟨w.heap.size, 0, none⟩ else ⟨w.heap.size, x, none⟩)) y (256 - x)) ∧ w.alloc (.cells (bs.map (Value.int .u8)).toArray 26) = w' := by
  have hxl : x ≤ 256 := by omega
  have hyl : x + y ≤ 256 := by omega
  have hr := h.range
  have hi : (Try.prog.info? 26).map (·.size) = some (bs.map (Value.int .u8)).length := by rw [List.length_map, h.len]; exact info256
  have hu := Try.underlying26
  have hz := zero_256_run w
  have hsl := slice256 w.heap.size x y (w.alloc (.cells (bs.map (Value.int .u8)).toArray 26)) hyl
  generalize (if 256 = x then (⟨w.heap.size, 0, none⟩ : Addr) else ⟨w.heap.size, x, none⟩) = R at hsl
  have hzl : (noughts.map (Value.int .u8)).toArray.size = (bs.map (Value.int .u8)).toArray.size := by simp [noughts_len, h.len]
  generalize (noughts.map (Value.int .u8)).toArray = Z at hz hzl
  have hi2 : (Try.prog.info? 26).map (·.size) = some (bs.map (Value.int .u8)).toArray.size := by rw [List.size_toArray]; exact hi
  have ho := u8_one bs
  have hset := World.setRow_alloc_new w Z (bs.map (Value.int .u8)).toArray 26
  go_enter Try.func9, Try.ntmps9
  go_wp2_with (first | (refine wpList_load_mid rfl 26 _ rfl b 0 rfl _ _ hr hu rfl hi ?_) | (refine wpList_store_row rfl 26 _ _ rfl w.heap.size _ rfl rfl 26 Z (heap_alloc_last w _) hi2 hzl ho ?_; rw [hset]))
  go_ret
  exact ⟨rfl, rfl⟩
end Go.Proofs.Ytncahnfdkcaibaa
