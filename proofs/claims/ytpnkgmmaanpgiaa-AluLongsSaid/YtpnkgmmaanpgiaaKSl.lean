/- Slices: what the call owns and appends to; bytes that are read as a string. -/
import Derived.Test.YtpnkgmmaanpgiaaKMem
import Derived.Deep.AppendSrc
import Derived.OwnWalk
import Derived.Laws.BytesArg
import Derived.Lib.ConvBytes
namespace Go.Proofs.Ytpnkgmmaanpgiaa
open Go Go.RowKit
set_option linter.unusedVariables false
set_option linter.unusedSimpArgs false
theorem putAt_toList : ∀ (vs : List Value) (c : Array Value) (o : Nat), o + vs.length ≤ c.size → (putAt c o vs).toList = c.toList.take o ++ (vs ++ c.toList.drop (o + vs.length))
  | [], c, o, h => by simp [putAt]
  | v :: r, c, o, h => by
    have ho : o < c.toList.length := by simp at h ⊢; omega
    rw [putAt, putAt_toList r _ (o + 1) (by simp at h ⊢; omega)]
    simp only [Array.toList_setIfInBounds, List.length_cons]
    rw [List.drop_set_of_lt (by omega), List.take_succ_eq_append_getElem (by simpa using ho), List.take_set_of_le (Nat.le_refl _)]
    simp [Nat.add_assoc, Nat.add_comm 1]
theorem setCells_but (g : Nat) : ∀ (vs : List Value) (o : Nat) (w : World), But g w (w.setCells g o vs)
  | [], o, w => But.refl g w
  | v :: r, o, w => (But.set v).trans (setCells_but g r (o + 1) _)
theorem setCells_blk (g : Nat) {T : TypeId} : ∀ (vs : List Value) (o : Nat) (w : World) (c : Array Value), Blk w g c T → Blk (w.setCells g o vs) g (putAt c o vs) T
  | [], o, w, c, h => h
  | v :: r, o, w, c, h => setCells_blk g r (o + 1) _ _ (row_set h v)
theorem grown_below {w w' : World} {row : Option Nat} {B : Nat} (h : w.grownBy w' row) (hB : B ≤ w.heap.size) (hr : ∀ k, row = some k → B ≤ k) : Below B w w' :=
  ⟨h.os, h.tape, h.output, h.size, fun k hk => h.block k (by omega) (fun e => by have := hr k e.symm; omega)⟩
theorem own_from {w : World} {B : Nat} {e : TypeId} {s : Nat} {v : Value} {n : Nat} {xs : List Value} (h : w.ownsRow B e s v n xs) : ∀ k, v.ownBlock = some k → B ≤ k ∧ k < w.heap.size := h.lt
theorem own_nil (w : World) (B : Nat) (e : TypeId) (s : Nat) : w.ownsRow B e s (.slice none 0 0) 0 [] := World.ownsRow_nil w B e s
/-- Owned stays owned where its block is not touched. -/
theorem own_kept {w w' : World} {B B' : Nat} {e : TypeId} {s : Nat} {v : Value} {n : Nat} {xs : List Value} (h : w.ownsRow B e s v n xs) (hk : ∀ k, v.ownBlock = some k → w'.heap[k]? = w.heap[k]?) : w'.ownsRow B e s v n xs := by
  refine ⟨h.1, ?_⟩
  rcases h.2 with hn | ⟨g, cap, cur, rfl, hb, hg, r⟩
  · exact .inl hn
  · exact .inr ⟨g, cap, cur, rfl, hb, by rw [hk g rfl]; exact hg, r⟩
/-- Own from a block on, from an earlier one on. -/
theorem own_low {w : World} {B B' : Nat} {e : TypeId} {s : Nat} {v : Value} {n : Nat} {xs : List Value} (h : w.ownsRow B e s v n xs) (hb : B' ≤ B) : w.ownsRow B' e s v n xs := by
  obtain ⟨hl, ⟨rfl, h0⟩ | ⟨g, cap, cur, rfl, hg, r⟩⟩ := h
  · exact ⟨hl, .inl ⟨rfl, h0⟩⟩
  · exact ⟨hl, .inr ⟨g, cap, cur, rfl, Nat.le_trans hb hg, r⟩⟩
theorem own_shape {w : World} {B : Nat} {e : TypeId} {s : Nat} {v : Value} {n : Nat} {xs : List Value} (h : w.ownsRow B e s v n xs) :
    ∃ a cap, v = .slice a n cap ∧ n ≤ cap ∧ (a = none → n = 0 ∧ cap = 0) ∧ ∀ ad, a = some ad → ∃ g, ad = ⟨g, 0, none⟩ ∧ B ≤ g ∧ g < w.heap.size ∧ ∀ j u, xs[j]? = some u → w.cell? ⟨g, j, none⟩ = some u := by
  obtain ⟨hl, ⟨rfl, rfl⟩ | ⟨g, cap, cur, rfl, hg, hb, hnc, hcm, hcs, ht⟩⟩ := h
  · exact ⟨none, 0, rfl, Nat.le_refl _, fun _ => ⟨rfl, rfl⟩, fun ad h => by cases h⟩
  · refine ⟨_, cap, rfl, hnc, (fun h => by cases h), fun ad had => ?_⟩
    injection had with had
    refine ⟨g, had.symm, hg, (Array.getElem?_eq_some_iff.1 hb).1, fun j u hj => ?_⟩
    have hB : Blk w g cur e := hb
    refine hB.cell ?_
    rw [← ht] at hj
    have hjl := (List.getElem?_eq_some_iff.1 hj).1
    rw [List.length_take] at hjl
    rw [List.getElem?_take_of_lt (by omega)] at hj
    simpa using hj
section
variable {P : Program}
theorem run_append_src {w : World} {base t tx ty e : TypeId} {i : TypeInfo} {z : Value} {size bytes : Nat} (ht : P.underlying t = some (.slice e)) (hi : P.info? e = some i) (hz : i.zero = some z)
    (hsize : i.size = size) (hby : i.bytes = bytes) (hzs : z.cells.size = size) {v : Value} {n : Nat} {xs : List Value} (hown : w.ownsRow base e size v n xs) {x : Value} {m : Nat} {news : List Value} (hs : Src P size tx x m news w)
    (h63 : n + m ≤ 9223372036854775807) (hbytes : (n + m) * bytes ≤ 140737488355328) (hbase : base ≤ w.heap.size) :
    ∃ v' w', (Builtin.append_ #[t, tx] ty #[v, x]).run P w = .ok v' w' ∧ w'.ownsRow base e size v' (n + m) (xs ++ news) ∧ w.grownBy w' v.ownBlock ∧ (v' = .slice none 0 0 ↔ v = .slice none 0 0 ∧ m = 0) := by
  subst hsize
  subst hby
  have hlen : (xs ++ news).length = (n + m) * i.size := by rw [List.length_append, hown.1, hs.newsLen, Nat.add_mul]
  have grown : ∀ (old : Nat), old < n + m → ∀ (row : Option Nat),
      (w.drew.alloc (.cells ((xs ++ news).toArray ++ Builtin.zeroCells z.cells (grownCap w (n + m) old e - (n + m))) e)).ownsRow base e i.size
        (.slice (some ⟨w.heap.size, 0, none⟩) (n + m) (grownCap w (n + m) old e)) (n + m) (xs ++ news) ∧
      w.grownBy (w.drew.alloc (.cells ((xs ++ news).toArray ++ Builtin.zeroCells z.cells (grownCap w (n + m) old e - (n + m))) e)) row := by
    intro old ho row
    have hge := grownCap_ge w (n + m) old e
    have hcm : grownCap w (n + m) old e ≤ maxLen := grownCap_le_maxLen w (n + m) old e (by unfold maxLen; omega)
    refine ⟨⟨hlen, .inr ⟨w.heap.size, _, _, rfl, hbase, heap_alloc_new w.drew _, hge, hcm, ?_, ?_⟩⟩, ⟨rfl, rfl, rfl, by simp, fun k hk _ => Below.heap_alloc w.drew _ k hk⟩⟩
    · simp only [Array.size_append, List.size_toArray, size_zeroCells, hzs, hlen, ← Nat.add_mul]
      congr 1
      omega
    · simp only [Array.toList_append]
      rw [← hlen]
      exact List.take_left
  rcases hown.2 with ⟨rfl, rfl⟩ | ⟨g, cap, cur, rfl, hbg, hg, hnc, hcm, hcs, htake⟩
  · have hx : xs = [] := List.eq_nil_of_length_eq_zero (by simpa using hown.1)
    subst hx
    by_cases hm : m = 0
    · subst hm
      have hn : news = [] := List.eq_nil_of_length_eq_zero (by simpa using hs.newsLen)
      subst hn
      refine ⟨.slice none 0 0, w, ?_, World.ownsRow_nil w base e i.size, ⟨rfl, rfl, rfl, Nat.le_refl _, fun _ _ _ => rfl⟩, by simp⟩
      rcases hs.kind with ⟨e', hk⟩ | hk <;> simp [Builtin.append_, run_underlying ht, run_underlying hk, sizeOf, typeInfo, hi, hs.len, hs.cells]
    · have hr := run_append_grow_src (P := P) w t tx ty e i z ht hi hz none 0 0 [] (by simp [Builtin.firstCells]) x m news hs (by omega) (by omega) (by rw [Nat.zero_add]; exact growslice_fits (by omega) (by simpa using hbytes))
      have hgr := grown 0 (by omega) (Value.ownBlock (.slice none 0 0))
      exact ⟨_, _, hr, hgr.1, hgr.2, by simp [hm]⟩
  · by_cases hroom : n + m ≤ cap
    · have hfit : n * i.size + news.length ≤ cur.size := by rw [hs.newsLen, hcs, ← Nat.add_mul]; exact Nat.mul_le_mul_right _ hroom
      have hB : Blk w g cur e := hg
      have hr := run_append_room_src (P := P) w t tx ty e i ht hi g 0 n cap x m news hs hroom (fun j hj => by rw [hB.cell (v := cur[0 + n * i.size + j]'(by omega)) (by simp)]; rfl) (fun j hj => hB.free _)
      rw [Nat.zero_add] at hr
      refine ⟨_, _, hr, ⟨hlen, .inr ⟨g, cap, _, rfl, hbg, setCells_blk g news (n * i.size) w cur hB, hroom, hcm, by rw [putAt_size, hcs], ?_⟩⟩, ?_, by simp⟩
      · rw [putAt_toList _ _ _ hfit, htake, ← hlen, ← List.append_assoc]
        exact List.take_left
      · have hb := setCells_but g news (n * i.size) w
        exact ⟨hb.os, hb.tape, hb.output, by rw [hb.size]; exact Nat.le_refl _, fun k _ hk => hb.block k (fun e => hk (by simp [Value.ownBlock, e]))⟩
    · have holds : ∀ j u, xs[j]? = some u → w.drew.cell? ((⟨g, 0, none⟩ : Addr).add j) = some u := fun j u hj => by
        have := hown.cells (g := g) rfl j u hj
        simpa using this
      have hr := run_append_grow_src (P := P) w t tx ty e i z ht hi hz (some ⟨g, 0, none⟩) n cap xs (run_firstCells_some w.drew i.size n ⟨g, 0, none⟩ n cap xs hown.1 holds) x m news hs (by omega) (by omega) (growslice_fits (by omega) hbytes)
      have hgr := grown cap (by omega) (Value.ownBlock (.slice (some ⟨g, 0, none⟩) n cap))
      exact ⟨_, _, hr, hgr.1, hgr.2, by simp⟩
end
/-! Bytes. -/
/-- A slice of bytes reads as these numbers. -/
def BytesAt (w : World) (v : Value) (xs : List Int) : Prop :=
  ∃ a cap, v = .slice a xs.length cap ∧ xs.length ≤ cap ∧ (0 < xs.length → ∃ b off, a = some ⟨b, off, none⟩ ∧ b < w.heap.size ∧ ∀ j, j < xs.length → w.cell? ⟨b, off + j, none⟩ = some (.int .u8 (xs.getD j 0)))
theorem BytesAt.ext {w u : World} {v : Value} {xs : List Int} {X : Nat → Prop} (h : BytesAt w v xs) (he : Ext X w u) (hX : ∀ k, X k) : BytesAt u v xs := by
  obtain ⟨a, c, rfl, hc, hb⟩ := h
  refine ⟨a, c, rfl, hc, fun h0 => ?_⟩
  obtain ⟨b, off, ha, hl, hcell⟩ := hb h0
  refine ⟨b, off, ha, Nat.lt_of_lt_of_le hl he.1, fun j hj => ?_⟩
  rw [← hcell j hj]
  simp only [World.cell?]
  rw [he.2 b (hX b) hl]
theorem BytesAt.below {w u : World} {v : Value} {xs : List Int} (h : BytesAt w v xs) (he : Below w.heap.size w u) : BytesAt u v xs := h.ext (below_ext he (fun _ => True)) (fun _ => trivial)
theorem BytesAt.nil (w : World) (a : Option Addr) (c : Nat) : BytesAt w (.slice a 0 c) [] := ⟨a, c, rfl, Nat.zero_le _, fun h => by simp at h⟩
theorem BytesAt.own {w : World} {B : Nat} {e : TypeId} {v : Value} {n : Nat} {xs : List Int} (h : w.ownsRow B e 1 v n (xs.map (.int .u8))) : BytesAt w v xs := by
  have hl := h.1
  simp at hl
  obtain ⟨a, cap, rfl, hc, hn, hs⟩ := own_shape h
  subst hl
  refine ⟨a, cap, rfl, hc, fun h0 => ?_⟩
  cases a with
  | none => have := (hn rfl).1; omega
  | some ad =>
    obtain ⟨g, rfl, _, hg, hcell⟩ := hs ad rfl
    exact ⟨g, 0, rfl, hg, fun j hj => by rw [Nat.zero_add]; exact hcell j _ (by simp [hj])⟩
section
variable {P : Program} {L : List Oper} {Q : Exit → Act → World → Prop} {dr : Bool} {X : Nat → Prop} {n : Nat} {r : List (Nat × Bool)} {l l' : List (Nat × Value)} {w w' : World} {i d : Nat} {fl : Bool} {ty : TypeId} {pos : String} {af : Array Edge} {g : Option (Nat × Bool)}
theorem run_bytesAt {s t e : TypeId} {v : Value} {xs : List Int} {u : World} (hs : P.underlying s = some (.slice e)) (he : P.underlying e = some (.int .u8)) (ht : P.underlying t = some .string) (h : BytesAt u v xs) : (convert s t v).run P u = .ok (.string (strOfNums xs)) u := by
  obtain ⟨a, c, rfl, hc, hb⟩ := h
  by_cases h0 : xs.length = 0
  · have hx := List.eq_nil_of_length_eq_zero h0
    subst hx
    cases a with
    | none => exact run_convert_bytes_nil u s e hs he _ _ t ht
    | some ad =>
      simp [convert, run_underlying hs, run_underlying ht, run_underlying he, Conv.bytesToString, strOfNums, loadCells, loadCellsFrom]
      rfl
  · obtain ⟨b, off, rfl, _, hcell⟩ := hb (by omega)
    exact run_convert_bytes_arg u s e hs he b off xs.length c xs rfl hcell t ht
theorem r_cstr {s t e : TypeId} {x : Operand} {v : Value} {xs : List Int} (ho : nth L i = some ⟨some d, .convert s t x, ty, pos, af, g⟩) (hg : guardOk L n l g = true) (hx : opv n l x = some v) (hs : P.underlying s = some (.slice e)) (he : P.underlying e = some (.int .u8)) (ht : P.underlying t = some .string)
    (hX : dr = true → ∀ k, X k) (hb : BytesAt w v xs) (h : WR P L Q dr X n r ((d, .string (strOfNums xs)) :: l) w) : WR P L Q dr X n ((i, fl) :: r) l w := by
  refine r_convert ho hg hx (fun u hu => run_bytesAt hs he ht ?_) h
  cases dr with
  | false => rw [show u = w from hu]; exact hb
  | true => exact hb.ext hu (hX rfl)
theorem a_appendO {B t tx e : TypeId} {z : Value} {size bytes : Nat} {x y : Operand} {v u : Value} {k m : Nat} {xs news : List Value} (ho : nth L i = some ⟨some d, .call { callee := .builtin .append, args := [x, y].toArray, argTypes := [t, tx].toArray }, ty, pos, af, g⟩) (hg : guardOk L n l g = true) (hx : opv n l x = some v) (hy : opv n l y = some u)
    (ht : P.underlying t = some (.slice e)) (hi : (P.info? e).map (fun i => (i.zero, i.size, i.bytes)) = some (some z, size, bytes)) (hzs : z.cells.size = size) (hown : w.ownsRow B e size v k xs) (hs : Src P size tx u m news w)
    (h63 : k + m ≤ 9223372036854775807) (hbytes : (k + m) * bytes ≤ 140737488355328) (hB : B ≤ w.heap.size) (hX : dr = true → ∀ j, X j → some j ≠ v.ownBlock)
    (h : ∀ v' w', w'.ownsRow B e size v' (k + m) (xs ++ news) → w.grownBy w' v.ownBlock → WR P L Q dr X n r ((d, v') :: l) w') : WR P L Q dr X n ((i, false) :: r) l w := by
  obtain ⟨i0, hi0, h1, h2, h3⟩ := info_parts hi
  obtain ⟨v', w', hr, ho', hgr, _⟩ := run_append_src (ty := ty) ht hi0 h1 h2 h3 hzs hown hs h63 hbytes hB
  refine a_builtin ho hg (us := [v, u]) (by simp [valsOf, hx, hy]) (run_v hr) (fun e => ⟨hgr.size, fun j hj hl => hgr.block j hl (hX e j hj)⟩) (h v' w' ho' hgr)
end
end Go.Proofs.Ytpnkgmmaanpgiaa
