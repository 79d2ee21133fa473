/- The fields' places and the elements' sizes of this program's types, as tables. -/
import Derived.Test.YtncahnfdkcaibaaProg
import Derived.Test.YtncahnfdkcaibaaKSlice
namespace Go.Proofs.Ytncahnfdkcaibaa
open Go
def offTab : List (Nat × Nat × Nat) := ((7, 0, 0) :: (7, 1, 1) :: (7, 2, 2) :: (7, 3, 3) :: (8, 0, 0) :: (8, 1, 1) :: (8, 2, 2) :: (8, 3, 3) :: (13, 0, 0) :: (13, 1, 1) :: (14, 0, 0) :: (14, 1, 1) :: (18, 0, 0) :: (19, 0, 0) :: (40, 0, 0) :: (40, 1, 1) :: (40, 2, 2) :: (40, 3, 3) :: (41, 0, 0) :: (41, 1, 1) :: (41, 2, 2) :: (41, 3, 3) :: (42, 0, 0) :: (42, 1, 256) :: (42, 2, 257) :: (43, 0, 0) :: (43, 1, 256) :: (43, 2, 257) :: (48, 2, 0) :: (49, 2, 0) :: (50, 0, 0) :: (50, 1, 256) :: (50, 2, 257) :: (51, 0, 0) :: (51, 1, 256) :: (51, 2, 257) :: (62, 0, 0) :: (62, 1, 1) :: (62, 2, 2) :: (62, 3, 3) :: (63, 0, 0) :: (63, 1, 1) :: (63, 2, 2) :: (63, 3, 3) :: (74, 0, 0) :: (74, 1, 1) :: (74, 2, 2) :: (74, 3, 3) :: (74, 4, 4) :: (74, 5, 5) :: (74, 6, 6) :: (74, 7, 7) :: (74, 8, 8) :: (74, 9, 9) :: (74, 10, 10) :: (75, 0, 0) :: (75, 1, 1) :: (75, 2, 2) :: (75, 3, 3) :: (75, 4, 4) :: (75, 5, 5) :: (75, 6, 6) :: (75, 7, 7) :: (75, 8, 8) :: (75, 9, 9) :: (75, 10, 10) :: [])
def elemTab : List (Nat × Option Nat × Nat) := ((22, none, 1) :: (23, none, 1) :: (26, some 256, 1) :: (37, none, 4) :: (64, some 0, 1) :: [])
def offL : List (Nat × Nat × Nat) → Nat → Nat → Option Nat
  | [], _, _ => none
  | (s, f, k) :: r, t, g => cond (Nat.beq s t && Nat.beq f g) (some k) (offL r t g)
def elemL : List (Nat × Option Nat × Nat) → Nat → Option (Option Nat × Nat)
  | [], _ => none
  | (s, m, k) :: r, t => cond (Nat.beq s t) (some (m, k)) (elemL r t)
theorem offTab_ok : offTab.all (fun x => decide (offB Try.prog x.1 x.2.1 = some x.2.2)) = true := by kernel_rfl
theorem elemTab_ok : elemTab.all (fun x => decide (elemB Try.prog x.1 = some (x.2.1, x.2.2))) = true := by kernel_rfl
theorem offL_mem : ∀ (l : List (Nat × Nat × Nat)) (t g k : Nat), offL l t g = some k → (t, g, k) ∈ l
  | [], _, _, _, h => by simp [offL] at h
  | (s, f, k') :: r, t, g, k, h => by
    simp only [offL] at h
    cases hb : (Nat.beq s t && Nat.beq f g) with
    | true =>
      simp only [hb, cond_true] at h
      simp only [Bool.and_eq_true] at hb
      rw [← Nat.eq_of_beq_eq_true hb.1, ← Nat.eq_of_beq_eq_true hb.2, ← Option.some.inj h]
      exact List.mem_cons_self
    | false => simp only [hb, cond_false] at h; exact List.mem_cons_of_mem _ (offL_mem r t g k h)
theorem elemL_mem : ∀ (l : List (Nat × Option Nat × Nat)) (t : Nat) (x : Option Nat × Nat), elemL l t = some x → (t, x.1, x.2) ∈ l
  | [], _, _, h => by simp [elemL] at h
  | (s, m, k') :: r, t, x, h => by
    simp only [elemL] at h
    cases hb : Nat.beq s t with
    | true =>
      simp only [hb, cond_true] at h
      rw [← Nat.eq_of_beq_eq_true hb, ← Option.some.inj h]
      exact List.mem_cons_self
    | false => simp only [hb, cond_false] at h; exact List.mem_cons_of_mem _ (elemL_mem r t x h)
theorem off_is {t g k : Nat} (h : offL offTab t g = some k) : offB Try.prog t g = some k := by
  have := List.all_eq_true.1 offTab_ok _ (offL_mem _ _ _ _ h)
  simpa using this
theorem elem_is {t : Nat} {x : Option Nat × Nat} (h : elemL elemTab t = some x) : elemB Try.prog t = some x := by
  have := List.all_eq_true.1 elemTab_ok _ (elemL_mem _ _ _ h)
  simpa using this
end Go.Proofs.Ytncahnfdkcaibaa
