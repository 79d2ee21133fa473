/- The fields' places and the elements' sizes of this program's types, as tables. -/
import Derived.Test.YtpnkgmmaanpgiaaProg
import Derived.Test.YtpnkgmmaanpgiaaKSlice
namespace Go.Proofs.Ytpnkgmmaanpgiaa
open Go
def offTab : List (Nat × Nat × Nat) := ((7, 0, 0) :: (7, 1, 1) :: (7, 2, 2) :: (7, 3, 3) :: (8, 0, 0) :: (8, 1, 1) :: (8, 2, 2) :: (8, 3, 3) :: (13, 0, 0) :: (13, 1, 1) :: (14, 0, 0) :: (14, 1, 1) :: (18, 0, 0) :: (19, 0, 0) :: (25, 0, 0) :: (25, 1, 1) :: (25, 2, 2) :: (25, 3, 3) :: (25, 4, 4) :: (25, 5, 5) :: (26, 0, 0) :: (26, 1, 1) :: (26, 2, 2) :: (26, 3, 3) :: (26, 4, 4) :: (26, 5, 5) :: (45, 0, 0) :: (45, 1, 1) :: (45, 2, 2) :: (45, 3, 3) :: (45, 4, 4) :: (46, 0, 0) :: (46, 1, 1) :: (46, 2, 2) :: (46, 3, 3) :: (46, 4, 4) :: (57, 0, 0) :: (57, 1, 1) :: (57, 2, 2) :: (57, 3, 3) :: (58, 0, 0) :: (58, 1, 1) :: (58, 2, 2) :: (58, 3, 3) :: (69, 0, 0) :: (69, 1, 1) :: (69, 2, 2) :: (69, 3, 3) :: (69, 4, 4) :: (69, 5, 5) :: (69, 6, 6) :: (69, 7, 7) :: (69, 8, 8) :: (69, 9, 9) :: (69, 10, 10) :: (70, 0, 0) :: (70, 1, 1) :: (70, 2, 2) :: (70, 3, 3) :: (70, 4, 4) :: (70, 5, 5) :: (70, 6, 6) :: (70, 7, 7) :: (70, 8, 8) :: (70, 9, 9) :: (70, 10, 10) :: [])
def elemTab : List (Nat × Option Nat × Nat) := ((38, some 2, 1) :: (39, none, 2) :: (47, some 69, 5) :: (59, some 0, 1) :: [])
def oneTab : List Nat := (0 :: 1 :: 2 :: 3 :: 4 :: 5 :: 6 :: 9 :: 10 :: 11 :: 12 :: 15 :: 16 :: 17 :: 20 :: 21 :: 22 :: 23 :: 24 :: 27 :: 28 :: 29 :: 30 :: 31 :: 32 :: 33 :: 34 :: 35 :: 36 :: 37 :: 39 :: 40 :: 41 :: 42 :: 43 :: 44 :: 48 :: 49 :: 50 :: 51 :: 52 :: 53 :: 54 :: 55 :: 56 :: 62 :: 63 :: 64 :: 65 :: 66 :: 67 :: 68 :: 71 :: [])
def aggTab : List (Nat × Nat) := ((7, 4) :: (8, 4) :: (13, 2) :: (14, 2) :: (18, 1) :: (19, 1) :: (25, 6) :: (26, 6) :: (38, 2) :: (45, 5) :: (46, 5) :: (47, 345) :: (57, 4) :: (58, 4) :: (59, 0) :: (60, 0) :: (61, 0) :: (69, 11) :: (70, 11) :: [])
def oneL : List Nat → Nat → Bool
  | [], _ => false
  | s :: r, t => cond (Nat.beq s t) true (oneL r t)
def aggL : List (Nat × Nat) → Nat → Option Nat
  | [], _ => none
  | (s, k) :: r, t => cond (Nat.beq s t) (some k) (aggL r t)
theorem oneTab_ok : oneTab.all (fun x => oneB Try.prog x) = true := by kernel_rfl
theorem aggTab_ok : aggTab.all (fun x => aggB Try.prog x.1 x.2) = true := by kernel_rfl
theorem oneL_mem : ∀ (l : List Nat) (t : Nat), oneL l t = true → t ∈ l
  | [], _, h => by simp [oneL] at h
  | s :: r, t, h => by
    simp only [oneL] at h
    cases hb : Nat.beq s t with
    | true => rw [← Nat.eq_of_beq_eq_true hb]; exact List.mem_cons_self
    | false => simp only [hb, cond_false] at h; exact List.mem_cons_of_mem _ (oneL_mem r t h)
theorem aggL_mem : ∀ (l : List (Nat × Nat)) (t k : Nat), aggL l t = some k → (t, k) ∈ l
  | [], _, _, h => by simp [aggL] at h
  | (s, k') :: r, t, k, h => by
    simp only [aggL] at h
    cases hb : Nat.beq s t with
    | true => simp only [hb, cond_true] at h; rw [← Nat.eq_of_beq_eq_true hb, ← Option.some.inj h]; exact List.mem_cons_self
    | false => simp only [hb, cond_false] at h; exact List.mem_cons_of_mem _ (aggL_mem r t k h)
theorem one_is {t : Nat} (h : oneL oneTab t = true) : oneB Try.prog t = true := List.all_eq_true.1 oneTab_ok _ (oneL_mem _ _ h)
theorem agg_is {t k : Nat} (h : aggL aggTab t = some k) : aggB Try.prog t k = true := List.all_eq_true.1 aggTab_ok _ (aggL_mem _ _ _ h)
def offL : List (Nat × Nat × Nat) → Nat → Nat → Option Nat
  | [], _, _ => none
  | (s, f, k) :: r, t, g => cond (Nat.beq s t && Nat.beq f g) (some k) (offL r t g)
def elemL : List (Nat × Option Nat × Nat) → Nat → Option (Option Nat × Nat)
  | [], _ => none
  | (s, m, k) :: r, t => cond (Nat.beq s t) (some (m, k)) (elemL r t)
theorem offTab_ok : offTab.all (fun x => decide (offB Try.prog x.1 x.2.1 = some x.2.2)) = true := by kernel_rfl
theorem elemTab_ok : elemTab.all (fun x => decide (elemB Try.prog x.1 = some (x.2.1, x.2.2))) = true := by kernel_rfl
theorem offL_mem : ∀ (l : List (Nat × Nat × Nat)) (t g k : Nat), offL l t g = some k → (t, g, k) ∈ l
  | [], _, _, _, h => by simp [offL] at h
  | (s, f, k') :: r, t, g, k, h => by
    simp only [offL] at h
    cases hb : (Nat.beq s t && Nat.beq f g) with
    | true =>
      simp only [hb, cond_true] at h
      simp only [Bool.and_eq_true] at hb
      rw [← Nat.eq_of_beq_eq_true hb.1, ← Nat.eq_of_beq_eq_true hb.2, ← Option.some.inj h]
      exact List.mem_cons_self
    | false => simp only [hb, cond_false] at h; exact List.mem_cons_of_mem _ (offL_mem r t g k h)
theorem elemL_mem : ∀ (l : List (Nat × Option Nat × Nat)) (t : Nat) (x : Option Nat × Nat), elemL l t = some x → (t, x.1, x.2) ∈ l
  | [], _, _, h => by simp [elemL] at h
  | (s, m, k') :: r, t, x, h => by
    simp only [elemL] at h
    cases hb : Nat.beq s t with
    | true =>
      simp only [hb, cond_true] at h
      rw [← Nat.eq_of_beq_eq_true hb, ← Option.some.inj h]
      exact List.mem_cons_self
    | false => simp only [hb, cond_false] at h; exact List.mem_cons_of_mem _ (elemL_mem r t x h)
theorem off_is {t g k : Nat} (h : offL offTab t g = some k) : offB Try.prog t g = some k := by
  have := List.all_eq_true.1 offTab_ok _ (offL_mem _ _ _ _ h)
  simpa using this
theorem elem_is {t : Nat} {x : Option Nat × Nat} (h : elemL elemTab t = some x) : elemB Try.prog t = some x := by
  have := List.all_eq_true.1 elemTab_ok _ (elemL_mem _ _ _ h)
  simpa using this
end Go.Proofs.Ytpnkgmmaanpgiaa
