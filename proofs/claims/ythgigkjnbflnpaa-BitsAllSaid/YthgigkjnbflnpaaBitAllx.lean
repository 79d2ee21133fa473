/- The law of all functions of package bits against the reference: the walk. -/
import Derived.Test.YthgigkjnbflnpaaBitWord2
import Derived.Test.YthgigkjnbflnpaaChainWalk
import Derived.Laws.BytesArg
namespace Go.Proofs.Ythgigkjnbflnpaa
open Go.RowKit
set_option linter.unusedVariables false
theorem Bytes8.below {w w' : World} {a : Option Addr} {xs : List Int} (h : Bytes8 w a xs) (hb : Below w.heap.size w w') : Bytes8 w' a xs := by
  intro j hj
  obtain ⟨b, off, rfl, hbl, hc⟩ := h.at j hj
  exact ⟨b, off, rfl, by rw [hb.cell (p := ⟨b, off + j, none⟩) hbl]; exact hc⟩
/-- The bytes of a string, as numbers. -/
theorem conv4 (w : World) (b : Nat) (x0 x1 x2 x3 : Int) (h0 : w.cell? ⟨b, 0, none⟩ = some (.int .u8 x0)) (h1 : w.cell? ⟨b, 1, none⟩ = some (.int .u8 x1)) (h2 : w.cell? ⟨b, 2, none⟩ = some (.int .u8 x2)) (h3 : w.cell? ⟨b, 3, none⟩ = some (.int .u8 x3)) :
    (convert 36 9 (.slice (some ⟨b, 0, none⟩) 4 4)).run Try.prog w = .ok (.string (strOfNums [x0, x1, x2, x3])) w := by
  refine run_convert_bytes_arg w 36 5 Try.underlying36 Try.underlying5 b 0 4 4 [x0, x1, x2, x3] rfl ?_ 9 Try.underlying9
  intro i hi
  rcases (show i = 0 ∨ i = 1 ∨ i = 2 ∨ i = 3 by omega) with rfl | rfl | rfl | rfl
  · exact h0
  · exact h1
  · exact h2
  · exact h3
/-- What is held of a world behind another one: all that was there is as it was. -/
def Later (w w' : World) : Prop := Below w.heap.size w w'
theorem Later.refl (w : World) : Later w w := Below.refl _ _
theorem Later.drewN {w a : World} (h : Later w a) (n : Nat) : Later w (a.drewN n) := ⟨h.os, h.tape, h.output, h.size, h.block⟩
theorem Later.drew {w a : World} (h : Later w a) : Later w a.drew := ⟨h.os, h.tape, h.output, h.size, h.block⟩
theorem Later.alloc {w a : World} (h : Later w a) (o : Obj) : Later w (a.alloc o) := Below.alloc h h.size o
theorem Later.step {w a b : World} (h : Later w a) (k : Below a.heap.size a b) : Later w b := Below.trans h (k.mono h.size)
theorem Later.conv {w w' : World} (h : Later w w') (b : Nat) (x0 x1 x2 x3 : Int) (hb : b < w.heap.size) (h0 : w.cell? ⟨b, 0, none⟩ = some (.int .u8 x0)) (h1 : w.cell? ⟨b, 1, none⟩ = some (.int .u8 x1)) (h2 : w.cell? ⟨b, 2, none⟩ = some (.int .u8 x2)) (h3 : w.cell? ⟨b, 3, none⟩ = some (.int .u8 x3)) :
    (convert 36 9 (.slice (some ⟨b, 0, none⟩) 4 4)).run Try.prog w' = .ok (.string (strOfNums [x0, x1, x2, x3])) w' :=
  conv4 w' b x0 x1 x2 x3 (by rw [Below.cell h (p := ⟨b, 0, none⟩) hb]; exact h0) (by rw [Below.cell h (p := ⟨b, 1, none⟩) hb]; exact h1) (by rw [Below.cell h (p := ⟨b, 2, none⟩) hb]; exact h2) (by rw [Below.cell h (p := ⟨b, 3, none⟩) hb]; exact h3)
theorem Later.pair {w w' : World} {E : World → Prop} (H : Hid (∀ w', Later w w' → E w')) (h : Later w w') : Later w w' ∧ E w' := ⟨h, H.out _ h⟩
theorem shl_eq (v n : Int) : (sShl v n == IntKind.u32.wrap (v * 2 ^ (n % 32).toNat)) = true := by rw [beq_iff_eq, IntKind.wrap_u32]; rfl
theorem shr_eq (v n : Int) : (sShr v n == v / 2 ^ (n % 32).toNat) = true := by rw [beq_iff_eq]; rfl
theorem Bytes8.at_later {W w w' : World} {a : Option Addr} {xs : List Int} (h : Bytes8 W a xs) (hb : Below W.heap.size W w) (h' : Later w w') : Bytes8 w' a xs :=
  h.below (Below.trans hb (Below.mono h' hb.size))
set_option maxRecDepth 100000 in
set_option maxHeartbeats 8000000 in
theorem BitsAll_core (a0 a1 a2 a3 : Int) (a4 : Bool) (a : Option Addr) (xs : List Int) (c : Nat) (W : World) (w0 : (Lit.int .u32 a0).wf = true) (w1 : (Lit.int .u32 a1).wf = true) (w2 : (Lit.int .i64 a2).wf = true) (w3 : (Lit.int .i64 a3).wf = true)
    (hb : Bytes8 W a xs) (hx : ∀ x ∈ xs, 0 ≤ x ∧ x ≤ 255) (hn : xs.length ≤ 9223372036854775807) :
    Calls Try.prog 8 #[.int .u32 a0, .int .u32 a1, .int .i64 a2, .int .i64 a3, .bool a4, .slice a xs.length c] W fun e W' => e = .returned (.bool true) ∧ Below W.heap.size W W' := by
  obtain ⟨b0, b1⟩ := bounds_u32 w0
  obtain ⟨b2, b3⟩ := bounds_u32 w1
  obtain ⟨b4, b5⟩ := bounds_i64 w2
  obtain ⟨b6, b7⟩ := bounds_i64 w3
  clear w0 w1 w2 w3
  have HB := Lib.hid hb
  have HX := Lib.hid hx
  have k31 := and31 b2 b3
  clear hb hx
  go_enter Try.func8, Try.ntmps8
  go_wp2_with (first | (go_at_call 13; refine (AddOver_c _ _ _ (by omega) (by omega) (by omega) (by omega)).mono ?_; rintro e w' ⟨rfl, rfl⟩) | (go_at_call 22; refine (rAddOver_c _ _ _).mono ?_; rintro e w' ⟨rfl, rfl⟩) | (go_at_call 14; refine (SubOver_c _ _ _ (by omega) (by omega) (by omega) (by omega)).mono ?_; rintro e w' ⟨rfl, rfl⟩) | (go_at_call 23; refine (rSubOver_c _ _ _).mono ?_; rintro e w' ⟨rfl, rfl⟩) | (go_at_call 20; refine (Mul_c _ _ _ _ (by omega) (by omega) (by omega) (by omega)).mono ?_; rintro e w' ⟨rfl, rfl⟩) | (go_at_call 24; refine (rMul_c _ _ _ _ (by omega) (by omega) (by omega) (by omega)).mono ?_; rintro e w' ⟨rfl, rfl⟩) | (go_at_call 21; refine (Div_c _ _ _ _ (by omega) (by omega) (by omega) (by omega)).mono ?_; rintro e w' ⟨rfl, nd, rfl⟩) | (go_at_call 25; refine (rDiv_c _ _ _ _ (by omega) (by omega) (by omega) (by omega)).mono ?_; rintro e w' ⟨rfl, nd, rfl⟩))
  refine (Put_c _ _ b0 b1).mono ?_
  rintro e w1 ⟨rfl, hb1⟩
  go_wp2_with fail
  simp only [List.append_eq, List.cons_append, List.nil_append]
  obtain ⟨w2, hw2⟩ : ∃ w2, w1.alloc (.cells #[.int .u8 (a0 / 16777216), .int .u8 (a0 / 65536 % 256), .int .u8 (a0 / 256 % 256), .int .u8 (a0 % 256)] 37) = w2 := ⟨_, rfl⟩
  rw [hw2]
  have HW : Hid (Below W.heap.size W w2) := by
    rw [← hw2]
    have h0 : Below W.heap.size W w1 := ⟨hb1.os, hb1.tape, hb1.output, hb1.size, hb1.block⟩
    exact h0.alloc h0.size _
  have C0 : w2.cell? ⟨w1.heap.size, 0, none⟩ = some (.int .u8 (a0 / 16777216)) := by rw [← hw2]; simp
  have C1 : w2.cell? ⟨w1.heap.size, 1, none⟩ = some (.int .u8 (a0 / 65536 % 256)) := by rw [← hw2]; simp
  have C2 : w2.cell? ⟨w1.heap.size, 2, none⟩ = some (.int .u8 (a0 / 256 % 256)) := by rw [← hw2]; simp
  have C3 : w2.cell? ⟨w1.heap.size, 3, none⟩ = some (.int .u8 (a0 % 256)) := by rw [← hw2]; simp
  have CB : w1.heap.size < w2.heap.size := by rw [← hw2]; simp
  have CV : ∀ w', Later w2 w' → (convert 36 9 (.slice (some ⟨w1.heap.size, 0, none⟩) 4 4)).run Try.prog w' = .ok (.string (strOfNums [a0 / 16777216, a0 / 65536 % 256, a0 / 256 % 256, a0 % 256])) w' := fun w' h => h.conv _ _ _ _ _ CB C0 C1 C2 C3
  have CN : ∀ n : Nat, (convert 36 9 (.slice (some ⟨w2.heap.size, 0, none⟩) 4 4)).run Try.prog ((w2.drewN n).alloc (.cells #[.int .u8 (a0 / 16777216), .int .u8 (a0 / 65536 % 256), .int .u8 (a0 / 256 % 256), .int .u8 (a0 % 256)] 5)) = .ok (.string (strOfNums [a0 / 16777216, a0 / 65536 % 256, a0 / 256 % 256, a0 % 256])) ((w2.drewN n).alloc (.cells #[.int .u8 (a0 / 16777216), .int .u8 (a0 / 65536 % 256), .int .u8 (a0 / 256 % 256), .int .u8 (a0 % 256)] 5)) := fun n => conv4 _ _ _ _ _ _ (World.cell?_alloc_new (w := w2.drewN n) _ _ _) (World.cell?_alloc_new (w := w2.drewN n) _ _ _) (World.cell?_alloc_new (w := w2.drewN n) _ _ _) (World.cell?_alloc_new (w := w2.drewN n) _ _ _)
  have CV' := Lib.hid CV
  have L0 := Later.refl w2
  have t3 := shl_eq a0 a1
  have t4 := shr_eq a0 a1
  clear CV C0 C1 C2 C3 CB hw2 hb1
  refine wp_region_env 205 (Later w2) ((0, true) :: (1, true) :: (2, true) :: (4, true) :: (5, true) :: (6, true) :: (3, false) :: (7, false) :: (8, true) :: (9, true) :: (10, true) :: (11, true) :: (13, true) :: (14, true) :: (12, false) :: (15, false) :: (16, true) :: (17, true) :: (18, true) :: (19, true) :: (20, true) :: (22, true) :: (23, true) :: (24, true) :: (25, true) :: (21, false) :: (26, true) :: (27, true) :: (28, true) :: (29, true) :: (30, true) :: (32, true) :: (33, true) :: (34, true) :: (35, true) :: (31, false) :: (36, true) :: (37, true) :: (38, true) :: (39, true) :: (40, true) :: (42, true) :: (43, true) :: (41, false) :: (44, false) :: (45, true) :: (46, true) :: (47, true) :: (48, true) :: (49, true) :: (50, true) :: (51, true) :: (52, true) :: (53, true) :: (54, true) :: (55, true) :: (56, true) :: (57, true) :: (58, true) :: (59, true) :: (60, true) :: (61, true) :: (62, true) :: (63, true) :: (64, true) :: (65, true) :: (66, true) :: (67, true) :: (68, true) :: (69, true) :: (70, true) :: (71, true) :: (72, true) :: (73, true) :: (74, true) :: (75, true) :: (76, true) :: (77, true) :: (78, true) :: (79, true) :: (80, true) :: (81, true) :: (82, true) :: (83, true) :: (84, true) :: (85, true) :: (86, true) :: (87, true) :: (88, true) :: (90, true) :: (89, false) :: (91, false) :: (92, true) :: (93, true) :: (94, true) :: (95, true) :: (97, true) :: (96, false) :: (98, false) :: (99, true) :: (100, true) :: (101, true) :: (102, true) :: (103, true) :: (104, true) :: (105, false) :: (106, false) :: (107, true) :: (108, true) :: (109, true) :: (110, true) :: (111, true) :: (113, true) :: (114, true) :: (112, false) :: (115, false) :: (116, true) :: (117, true) :: (118, true) :: (119, false) :: (120, true) :: (121, true) :: []) (by kernel_rfl) (by kernel_rfl) (by kernel_rfl) (by kernel_rfl) (fun _ _ d _ _ h => by cases d <;> exact h) (Later.refl w2).drew ?_
  intro hn0
  have L1 := (Later.refl w2).drew
  repeat (first
    | refine e_move hn0 rfl rfl rfl ?_
    | refine e_pick hn0 rfl rfl rfl rfl ?_
    | refine e_eq_int hn0 rfl rfl rfl rfl (by first | exact beq_self_eq_true _ | exact t3 | exact t4) ?_
    | refine e_eq_string hn0 rfl rfl rfl rfl rfl ?_
    | refine e_assign hn0 rfl rfl rfl ?_
    | (refine e_bin hn0 rfl rfl rfl rfl (v := ?_) ?_ ?_; rotate_left; focus (intro w _; go_simp; first | done | with_reducible rfl))
    | (refine e_slice hn0 rfl rfl rfl (v := ?_) ?_ ?_; rotate_left; focus (intro w _; go_simp; first | done | with_reducible rfl))
    | refine e_convert hn0 rfl rfl rfl (fun w hw => CV'.out w hw) ?_
    | refine e_act_convert hn0 rfl rfl rfl (conv4 _ _ _ _ _ _ (World.cell?_alloc_new _ _ _ _) (World.cell?_alloc_new _ _ _ _) (World.cell?_alloc_new _ _ _ _) (World.cell?_alloc_new _ _ _ _)) (by assumption) ?_
    | (refine e_call3 (f := 17) hn0 rfl rfl rfl rfl rfl (enter_of Try.func17 (by kernel_rfl) (by kernel_rfl)) ?_; refine (Field_c _ _ _ _ (by omega) (by omega)).mono ?_; rintro e w' ⟨rfl, nd, rfl⟩; refine call_next (by apply Later.drewN; assumption) ?_; intro hL)
    | (refine e_call3 (f := 27) hn0 rfl rfl rfl rfl rfl (enter_of Try.func27 (by kernel_rfl) (by kernel_rfl)) ?_; refine (rField_c _ _ _ _ (by omega) (by omega)).mono ?_; rintro e w' ⟨rfl, rfl⟩; refine call_next (by assumption) ?_; intro hL)
    | (refine e_call2 (f := 15) hn0 rfl rfl rfl rfl (enter_of Try.func15 (by kernel_rfl) (by kernel_rfl)) ?_; refine (Sext_c _ _ _).mono ?_; rintro e w' ⟨rfl, rfl⟩; refine call_next (by assumption) ?_; intro hL)
    | (refine e_call2 (f := 28) hn0 rfl rfl rfl rfl (enter_of Try.func28 (by kernel_rfl) (by kernel_rfl)) ?_; refine (rSext_c _ _ _).mono ?_; rintro e w' ⟨rfl, rfl⟩; refine call_next (by assumption) ?_; intro hL)
    | (refine e_call2 (f := 10) hn0 rfl rfl rfl rfl (enter_of Try.func10 (by kernel_rfl) (by kernel_rfl)) ?_; refine (Shl_c _ _ _ (by omega) (by omega)).mono ?_; rintro e w' ⟨rfl, rfl⟩; refine call_next (by assumption) ?_; intro hL)
    | (refine e_call2 (f := 9) hn0 rfl rfl rfl rfl (enter_of Try.func9 (by kernel_rfl) (by kernel_rfl)) ?_; refine (Shr_c _ _ _ (by omega) (by omega)).mono ?_; rintro e w' ⟨rfl, rfl⟩; refine call_next (by assumption) ?_; intro hL)
    | (refine e_call2 (f := 11) hn0 rfl rfl rfl rfl (enter_of Try.func11 (by kernel_rfl) (by kernel_rfl)) ?_; refine (Sar_c _ _ _ (by omega) (by omega)).mono ?_; rintro e w' ⟨rfl, rfl⟩; refine call_next (by assumption) ?_; intro hL)
    | (refine e_call2 (f := 29) hn0 rfl rfl rfl rfl (enter_of Try.func29 (by kernel_rfl) (by kernel_rfl)) ?_; refine (rSar_c _ _ _ (by omega) (by omega)).mono ?_; rintro e w' ⟨rfl, rfl⟩; refine call_next (by assumption) ?_; intro hL)
    | (refine e_call1 (f := 18) hn0 rfl rfl rfl (enter_of Try.func18 (by kernel_rfl) (by kernel_rfl)) ?_; refine (Zeros_c _ _ (by omega) (by omega)).mono ?_; rintro e w' ⟨rfl, rfl⟩; refine call_next (by assumption) ?_; intro hL)
    | (refine e_call1 (f := 30) hn0 rfl rfl rfl (enter_of Try.func30 (by kernel_rfl) (by kernel_rfl)) ?_; refine (rZeros_c _ _ (by omega) (by omega)).mono ?_; rintro e w' ⟨rfl, rfl⟩; refine call_next (by assumption) ?_; intro hL)
    | (refine e_call1 (f := 19) hn0 rfl rfl rfl (enter_of Try.func19 (by kernel_rfl) (by kernel_rfl)) ?_; refine (Ones_c _ _ (by omega) (by omega)).mono ?_; rintro e w' ⟨rfl, rfl⟩; refine call_next (by assumption) ?_; intro hL)
    | (refine e_call1 (f := 31) hn0 rfl rfl rfl (enter_of Try.func31 (by kernel_rfl) (by kernel_rfl)) ?_; refine (rOnes_c _ _ (by omega) (by omega)).mono ?_; rintro e w' ⟨rfl, rfl⟩; refine call_next (by assumption) ?_; intro hL)
    | (refine e_call1 (f := 32) hn0 rfl rfl rfl (enter_of Try.func32 (by kernel_rfl) (by kernel_rfl)) ?_; refine (rPut_c _ _ (by omega) (by omega)).mono ?_; rintro e w' ⟨rfl, rfl⟩; refine call_next (by apply Later.alloc; assumption) ?_; intro hL)
    | (refine e_call2 (f := 33) hn0 rfl rfl rfl rfl (enter_of Try.func33 (by kernel_rfl) (by kernel_rfl)) ?_; refine (Word_c _ _ _ _ _ (Bytes8.at_later HB.out HW.out ‹Later w2 _›) HX.out hn (by omega) (by omega)).mono ?_; rintro e w' ⟨rfl, hbw⟩; refine call_next (Later.step ‹Later w2 _› ‹Below _ _ _›) ?_; intro hL)
    | (refine e_call2 (f := 34) hn0 rfl rfl rfl rfl (enter_of Try.func34 (by kernel_rfl) (by kernel_rfl)) ?_; refine (rWord_c _ _ _ _ _ (Bytes8.at_later HB.out HW.out ‹Later w2 _›) HX.out hn (by omega) (by omega)).mono ?_; rintro e w' ⟨rfl, rfl⟩; refine call_next (by assumption) ?_; intro hL)
    | (refine e_call0 (f := 12) hn0 rfl rfl  (enter_of Try.func12 (by kernel_rfl) (by kernel_rfl)) ?_; refine (awake_c _).mono ?_; rintro e w' ⟨rfl, hbw⟩; refine call_next (Later.step ‹Later w2 _› ‹Below _ _ _›) ?_; intro hL))
  refine e_done ?_
  go_wp2_with fail
  refine env_ret hn0 rfl rfl rfl ⟨rfl, ?_⟩
  have h := HW.out
  exact h.trans (Below.mono ‹Later w2 _› h.size)
end Go.Proofs.Ythgigkjnbflnpaa
