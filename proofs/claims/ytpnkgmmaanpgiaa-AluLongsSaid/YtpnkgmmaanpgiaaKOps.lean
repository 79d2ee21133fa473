/- The steps of a region, an operation's form each: values (r_..) and acts (a_..), calls. -/
import Derived.Test.YtpnkgmmaanpgiaaKEng
import Derived.WalkKit
import Derived.Lib.Walk
import Derived.IntWalk
namespace Go.Proofs.Ytpnkgmmaanpgiaa
open Go
set_option linter.unusedVariables false
set_option linter.unusedSimpArgs false
section
variable {P : Program} {L : List Oper} {Q : Exit → Act → World → Prop} {dr : Bool} {X : Nat → Prop} {n : Nat} {r : List (Nat × Bool)} {l l' : List (Nat × Value)} {w w' : World} {i d : Nat} {fl : Bool} {ty : TypeId} {pos : String} {af : Array Edge} {g : Option (Nat × Bool)}
theorem r_move {x : Operand} {v : Value} (ho : nth L i = some ⟨some d, .move x, ty, pos, af, g⟩) (hg : guardOk L n l g = true) (hx : opv n l x = some v)
    (h : WR P L Q dr X n r ((d, v) :: l) w) : WR P L Q dr X n ((i, fl) :: r) l w :=
  r_val ho rfl hg (fun a ha u _ => by simp only [execOp, opv_spec ha hx]; rfl) h
theorem r_assign {x : Operand} {v : Value} (ho : nth L i = some ⟨some d, .assign x, ty, pos, af, g⟩) (hg : guardOk L n l g = true) (hx : opv n l x = some v)
    (h : WR P L Q dr X n r ((d, v) :: l) w) : WR P L Q dr X n ((i, fl) :: r) l w :=
  r_val ho rfl hg (fun a ha u _ => by simp only [execOp, opv_spec ha hx]; rfl) h
theorem r_pick {c x y : Operand} {v : Value} (ho : nth L i = some ⟨some d, .pick c x y, ty, pos, af, g⟩) (hg : guardOk L n l g = true) (hc : opv n l c = some (.bool true)) (hx : opv n l x = some v)
    (h : WR P L Q dr X n r ((d, v) :: l) w) : WR P L Q dr X n ((i, fl) :: r) l w :=
  r_val ho rfl hg (fun a ha u _ => by simp only [execOp, opv_spec ha hc, opv_spec ha hx]; rfl) h
theorem r_pick_not {c x y : Operand} {v : Value} (ho : nth L i = some ⟨some d, .pick c x y, ty, pos, af, g⟩) (hg : guardOk L n l g = true) (hc : opv n l c = some (.bool false)) (hy : opv n l y = some v)
    (h : WR P L Q dr X n r ((d, v) :: l) w) : WR P L Q dr X n ((i, fl) :: r) l w :=
  r_val ho rfl hg (fun a ha u _ => by simp only [execOp, opv_spec ha hc, opv_spec ha hy]; rfl) h
theorem r_extract {x : Operand} {k : Nat} {vs : List Value} {v : Value} (ho : nth L i = some ⟨some d, .extract x k, ty, pos, af, g⟩) (hg : guardOk L n l g = true) (hx : opv n l x = some (.tuple vs.toArray)) (hk : nth vs k = some v)
    (h : WR P L Q dr X n r ((d, v) :: l) w) : WR P L Q dr X n ((i, fl) :: r) l w :=
  r_val ho rfl hg (fun a ha u _ => by rw [nth_eq] at hk; simp only [execOp, opv_spec ha hx, Instr.extract]; simp [hk]) h
theorem run_v {s : Sem Value} {u u' : World} {v : Value} (h : s.run P u = .ok v u') : (do pure (.value (← s)) : Sem Next).run P u = .ok (.value v) u' := by
  simp only [Sem.run_bind, h]; rfl
theorem run_u {s : Sem Unit} {u u' : World} (h : s.run P u = .ok () u') : (do s; pure .skip : Sem Next).run P u = .ok .skip u' := by
  simp only [Sem.run_bind, h]; rfl
/-- The parts of a struct's or an array's value. -/
def partsOf (n : Nat) (l : List (Nat × Value)) : List (Nat × Operand) → Option (List (Nat × Value))
  | [] => some []
  | (k, x) :: r => match opv n l x, partsOf n l r with
    | some v, some vs => some ((k, v) :: vs)
    | _, _ => none
theorem partsOf_spec {a : Act} (ha : Kn n l a) : ∀ {ps : List (Nat × Operand)} {vs : List (Nat × Value)}, partsOf n l ps = some vs → ps.toArray.map (fun (i, x) => (i, a.eval x)) = vs.toArray
  | [], vs, h => by simp [partsOf] at h; subst h; simp
  | (k, x) :: r, vs, h => by
    simp only [partsOf] at h
    split at h
    · rename_i v vs' hv hvs
      injection h with h; subst h
      have := partsOf_spec ha hvs
      have h2 : r.map (fun (i, x) => (i, a.eval x)) = vs' := by simpa using this
      simp [opv_spec ha hv, h2]
    · cases h

theorem r_alloc {t : TypeId}  {v : Value} (ho : nth L i = some ⟨some d, .alloc t, ty, pos, af, g⟩) (hg : guardOk L n l g = true) 
    (hv : ∀ u, St dr X w u → (Instr.alloc t true (.tuple #[])).run P u = .ok v u) (h : WR P L Q dr X n r ((d, v) :: l) w) : WR P L Q dr X n ((i, fl) :: r) l w :=
  r_val ho rfl hg (fun a ha u hu => by simp only [execOp, Option.map]; exact run_v (hv u hu)) h
theorem a_alloc {t : TypeId}  {v : Value} (ho : nth L i = some ⟨some d, .alloc t, ty, pos, af, g⟩) (hg : guardOk L n l g = true) 
    (hv : (Instr.alloc t true (.tuple #[])).run P w = .ok v w') (hX : dr = true → Ext X w w') (h : WR P L Q dr X n r ((d, v) :: l) w') : WR P L Q dr X n ((i, false) :: r) l w :=
  r_act ho rfl hg (fun a ha => by simp only [execOp, Option.map]; exact run_v hv) hX h
theorem r_box {t : TypeId} {x : Operand} {x' : Value} {v : Value} (ho : nth L i = some ⟨some d, .box t x, ty, pos, af, g⟩) (hg : guardOk L n l g = true) (hx : opv n l x = some x')
    (hv : ∀ u, St dr X w u → (Instr.box t x').run P u = .ok v u) (h : WR P L Q dr X n r ((d, v) :: l) w) : WR P L Q dr X n ((i, fl) :: r) l w :=
  r_val ho rfl hg (fun a ha u hu => by simp only [execOp, opv_spec ha hx, Option.map]; exact run_v (hv u hu)) h
theorem a_box {t : TypeId} {x : Operand} {x' : Value} {v : Value} (ho : nth L i = some ⟨some d, .box t x, ty, pos, af, g⟩) (hg : guardOk L n l g = true) (hx : opv n l x = some x')
    (hv : (Instr.box t x').run P w = .ok v w') (hX : dr = true → Ext X w w') (h : WR P L Q dr X n r ((d, v) :: l) w') : WR P L Q dr X n ((i, false) :: r) l w :=
  r_act ho rfl hg (fun a ha => by simp only [execOp, opv_spec ha hx, Option.map]; exact run_v hv) hX h
theorem r_load {t : TypeId} {x : Operand} {x' : Value} {v : Value} (ho : nth L i = some ⟨some d, .load t x, ty, pos, af, g⟩) (hg : guardOk L n l g = true) (hx : opv n l x = some x')
    (hv : ∀ u, St dr X w u → (Instr.loadAt t x').run P u = .ok v u) (h : WR P L Q dr X n r ((d, v) :: l) w) : WR P L Q dr X n ((i, fl) :: r) l w :=
  r_val ho rfl hg (fun a ha u hu => by simp only [execOp, opv_spec ha hx, Option.map]; exact run_v (hv u hu)) h
theorem a_load {t : TypeId} {x : Operand} {x' : Value} {v : Value} (ho : nth L i = some ⟨some d, .load t x, ty, pos, af, g⟩) (hg : guardOk L n l g = true) (hx : opv n l x = some x')
    (hv : (Instr.loadAt t x').run P w = .ok v w') (hX : dr = true → Ext X w w') (h : WR P L Q dr X n r ((d, v) :: l) w') : WR P L Q dr X n ((i, false) :: r) l w :=
  r_act ho rfl hg (fun a ha => by simp only [execOp, opv_spec ha hx, Option.map]; exact run_v hv) hX h
theorem a_store {t : TypeId} {x : Operand} {x' : Value} {y : Operand} {y' : Value} (ho : nth L i = some ⟨none, .store t x y, ty, pos, af, g⟩) (hg : guardOk L n l g = true) (hx : opv n l x = some x') (hy : opv n l y = some y')
    (hv : (Instr.storeAt t x' y').run P w = .ok () w') (hX : dr = true → Ext X w w') (h : WR P L Q dr X n r l w') : WR P L Q dr X n ((i, false) :: r) l w :=
  r_act0 ho rfl hg (fun a ha => by simp only [execOp, opv_spec ha hx, opv_spec ha hy]; exact run_u hv) hX h
theorem a_store_d {t : TypeId} {x : Operand} {x' : Value} {y : Operand} {y' : Value} (ho : nth L i = some ⟨some d, .store t x y, ty, pos, af, g⟩) (hg : guardOk L n l g = true) (hx : opv n l x = some x') (hy : opv n l y = some y')
    (hv : (Instr.storeAt t x' y').run P w = .ok () w') (hX : dr = true → Ext X w w') (h : WR P L Q dr X n r ((d, undef) :: l) w') : WR P L Q dr X n ((i, false) :: r) l w :=
  r_act0d ho rfl hg (fun a ha => by simp only [execOp, opv_spec ha hx, opv_spec ha hy]; exact run_u hv) hX h
theorem r_bin {op : BinOp} {xt : TypeId} {yt : TypeId} {x : Operand} {x' : Value} {y : Operand} {y' : Value} {v : Value} (ho : nth L i = some ⟨some d, .binOp op xt x y yt, ty, pos, af, g⟩) (hg : guardOk L n l g = true) (hx : opv n l x = some x') (hy : opv n l y = some y')
    (hv : ∀ u, St dr X w u → (do eqGuard op xt x y x' y'; binOp op xt x' y' : Sem Value).run P u = .ok v u) (h : WR P L Q dr X n r ((d, v) :: l) w) : WR P L Q dr X n ((i, fl) :: r) l w :=
  r_val ho rfl hg (fun a ha u hu => by simp only [execOp, opv_spec ha hx, opv_spec ha hy, Option.map]; exact run_v (hv u hu)) h
theorem a_bin {op : BinOp} {xt : TypeId} {yt : TypeId} {x : Operand} {x' : Value} {y : Operand} {y' : Value} {v : Value} (ho : nth L i = some ⟨some d, .binOp op xt x y yt, ty, pos, af, g⟩) (hg : guardOk L n l g = true) (hx : opv n l x = some x') (hy : opv n l y = some y')
    (hv : (do eqGuard op xt x y x' y'; binOp op xt x' y' : Sem Value).run P w = .ok v w') (hX : dr = true → Ext X w w') (h : WR P L Q dr X n r ((d, v) :: l) w') : WR P L Q dr X n ((i, false) :: r) l w :=
  r_act ho rfl hg (fun a ha => by simp only [execOp, opv_spec ha hx, opv_spec ha hy, Option.map]; exact run_v hv) hX h
theorem r_un {op : UnOp} {xt : TypeId} {x : Operand} {x' : Value} {v : Value} (ho : nth L i = some ⟨some d, .unOp op xt x, ty, pos, af, g⟩) (hg : guardOk L n l g = true) (hx : opv n l x = some x')
    (hv : ∀ u, St dr X w u → (Op.unary op x').run P u = .ok v u) (h : WR P L Q dr X n r ((d, v) :: l) w) : WR P L Q dr X n ((i, fl) :: r) l w :=
  r_val ho rfl hg (fun a ha u hu => by simp only [execOp, opv_spec ha hx, Option.map]; exact run_v (hv u hu)) h
theorem a_un {op : UnOp} {xt : TypeId} {x : Operand} {x' : Value} {v : Value} (ho : nth L i = some ⟨some d, .unOp op xt x, ty, pos, af, g⟩) (hg : guardOk L n l g = true) (hx : opv n l x = some x')
    (hv : (Op.unary op x').run P w = .ok v w') (hX : dr = true → Ext X w w') (h : WR P L Q dr X n r ((d, v) :: l) w') : WR P L Q dr X n ((i, false) :: r) l w :=
  r_act ho rfl hg (fun a ha => by simp only [execOp, opv_spec ha hx, Option.map]; exact run_v hv) hX h
theorem r_convert {s : TypeId} {t : TypeId} {x : Operand} {x' : Value} {v : Value} (ho : nth L i = some ⟨some d, .convert s t x, ty, pos, af, g⟩) (hg : guardOk L n l g = true) (hx : opv n l x = some x')
    (hv : ∀ u, St dr X w u → (convert s t x').run P u = .ok v u) (h : WR P L Q dr X n r ((d, v) :: l) w) : WR P L Q dr X n ((i, fl) :: r) l w :=
  r_val ho rfl hg (fun a ha u hu => by simp only [execOp, opv_spec ha hx, Option.map]; exact run_v (hv u hu)) h
theorem a_convert {s : TypeId} {t : TypeId} {x : Operand} {x' : Value} {v : Value} (ho : nth L i = some ⟨some d, .convert s t x, ty, pos, af, g⟩) (hg : guardOk L n l g = true) (hx : opv n l x = some x')
    (hv : (convert s t x').run P w = .ok v w') (hX : dr = true → Ext X w w') (h : WR P L Q dr X n r ((d, v) :: l) w') : WR P L Q dr X n ((i, false) :: r) l w :=
  r_act ho rfl hg (fun a ha => by simp only [execOp, opv_spec ha hx, Option.map]; exact run_v hv) hX h
theorem r_makeIface {t : TypeId} {x : Operand} {x' : Value} {v : Value} (ho : nth L i = some ⟨some d, .makeInterface t x, ty, pos, af, g⟩) (hg : guardOk L n l g = true) (hx : opv n l x = some x')
    (hv : ∀ u, St dr X w u → (Instr.makeInterface t x').run P u = .ok v u) (h : WR P L Q dr X n r ((d, v) :: l) w) : WR P L Q dr X n ((i, fl) :: r) l w :=
  r_val ho rfl hg (fun a ha u hu => by simp only [execOp, opv_spec ha hx, Option.map]; exact run_v (hv u hu)) h
theorem a_makeIface {t : TypeId} {x : Operand} {x' : Value} {v : Value} (ho : nth L i = some ⟨some d, .makeInterface t x, ty, pos, af, g⟩) (hg : guardOk L n l g = true) (hx : opv n l x = some x')
    (hv : (Instr.makeInterface t x').run P w = .ok v w') (hX : dr = true → Ext X w w') (h : WR P L Q dr X n r ((d, v) :: l) w') : WR P L Q dr X n ((i, false) :: r) l w :=
  r_act ho rfl hg (fun a ha => by simp only [execOp, opv_spec ha hx, Option.map]; exact run_v hv) hX h
theorem r_makeMap {t : TypeId}  {v : Value} (ho : nth L i = some ⟨some d, .makeMap t none, ty, pos, af, g⟩) (hg : guardOk L n l g = true) 
    (hv : ∀ u, St dr X w u → (Instr.makeMap t none).run P u = .ok v u) (h : WR P L Q dr X n r ((d, v) :: l) w) : WR P L Q dr X n ((i, fl) :: r) l w :=
  r_val ho rfl hg (fun a ha u hu => by simp only [execOp, Option.map]; exact run_v (hv u hu)) h
theorem a_makeMap {t : TypeId}  {v : Value} (ho : nth L i = some ⟨some d, .makeMap t none, ty, pos, af, g⟩) (hg : guardOk L n l g = true) 
    (hv : (Instr.makeMap t none).run P w = .ok v w') (hX : dr = true → Ext X w w') (h : WR P L Q dr X n r ((d, v) :: l) w') : WR P L Q dr X n ((i, false) :: r) l w :=
  r_act ho rfl hg (fun a ha => by simp only [execOp, Option.map]; exact run_v hv) hX h
theorem r_makeSlice {t : TypeId} {x : Operand} {x' : Value} {y : Operand} {y' : Value} {v : Value} (ho : nth L i = some ⟨some d, .makeSlice t x y, ty, pos, af, g⟩) (hg : guardOk L n l g = true) (hx : opv n l x = some x') (hy : opv n l y = some y')
    (hv : ∀ u, St dr X w u → (Instr.makeSlice t x' y').run P u = .ok v u) (h : WR P L Q dr X n r ((d, v) :: l) w) : WR P L Q dr X n ((i, fl) :: r) l w :=
  r_val ho rfl hg (fun a ha u hu => by simp only [execOp, opv_spec ha hx, opv_spec ha hy, Option.map]; exact run_v (hv u hu)) h
theorem a_makeSlice {t : TypeId} {x : Operand} {x' : Value} {y : Operand} {y' : Value} {v : Value} (ho : nth L i = some ⟨some d, .makeSlice t x y, ty, pos, af, g⟩) (hg : guardOk L n l g = true) (hx : opv n l x = some x') (hy : opv n l y = some y')
    (hv : (Instr.makeSlice t x' y').run P w = .ok v w') (hX : dr = true → Ext X w w') (h : WR P L Q dr X n r ((d, v) :: l) w') : WR P L Q dr X n ((i, false) :: r) l w :=
  r_act ho rfl hg (fun a ha => by simp only [execOp, opv_spec ha hx, opv_spec ha hy, Option.map]; exact run_v hv) hX h
theorem r_slice0 {t : TypeId} {x : Operand} {x' : Value} {v : Value} (ho : nth L i = some ⟨some d, .slice t x none none none, ty, pos, af, g⟩) (hg : guardOk L n l g = true) (hx : opv n l x = some x')
    (hv : ∀ u, St dr X w u → (Instr.sliceAt t x' none none none).run P u = .ok v u) (h : WR P L Q dr X n r ((d, v) :: l) w) : WR P L Q dr X n ((i, fl) :: r) l w :=
  r_val ho rfl hg (fun a ha u hu => by simp only [execOp, opv_spec ha hx, Option.map]; exact run_v (hv u hu)) h
theorem a_slice0 {t : TypeId} {x : Operand} {x' : Value} {v : Value} (ho : nth L i = some ⟨some d, .slice t x none none none, ty, pos, af, g⟩) (hg : guardOk L n l g = true) (hx : opv n l x = some x')
    (hv : (Instr.sliceAt t x' none none none).run P w = .ok v w') (hX : dr = true → Ext X w w') (h : WR P L Q dr X n r ((d, v) :: l) w') : WR P L Q dr X n ((i, false) :: r) l w :=
  r_act ho rfl hg (fun a ha => by simp only [execOp, opv_spec ha hx, Option.map]; exact run_v hv) hX h
theorem r_sliceL {t : TypeId} {x : Operand} {x' : Value} {y : Operand} {y' : Value} {v : Value} (ho : nth L i = some ⟨some d, .slice t x (some y) none none, ty, pos, af, g⟩) (hg : guardOk L n l g = true) (hx : opv n l x = some x') (hy : opv n l y = some y')
    (hv : ∀ u, St dr X w u → (Instr.sliceAt t x' (some y') none none).run P u = .ok v u) (h : WR P L Q dr X n r ((d, v) :: l) w) : WR P L Q dr X n ((i, fl) :: r) l w :=
  r_val ho rfl hg (fun a ha u hu => by simp only [execOp, opv_spec ha hx, opv_spec ha hy, Option.map]; exact run_v (hv u hu)) h
theorem a_sliceL {t : TypeId} {x : Operand} {x' : Value} {y : Operand} {y' : Value} {v : Value} (ho : nth L i = some ⟨some d, .slice t x (some y) none none, ty, pos, af, g⟩) (hg : guardOk L n l g = true) (hx : opv n l x = some x') (hy : opv n l y = some y')
    (hv : (Instr.sliceAt t x' (some y') none none).run P w = .ok v w') (hX : dr = true → Ext X w w') (h : WR P L Q dr X n r ((d, v) :: l) w') : WR P L Q dr X n ((i, false) :: r) l w :=
  r_act ho rfl hg (fun a ha => by simp only [execOp, opv_spec ha hx, opv_spec ha hy, Option.map]; exact run_v hv) hX h
theorem r_sliceH {t : TypeId} {x : Operand} {x' : Value} {y : Operand} {y' : Value} {v : Value} (ho : nth L i = some ⟨some d, .slice t x none (some y) none, ty, pos, af, g⟩) (hg : guardOk L n l g = true) (hx : opv n l x = some x') (hy : opv n l y = some y')
    (hv : ∀ u, St dr X w u → (Instr.sliceAt t x' none (some y') none).run P u = .ok v u) (h : WR P L Q dr X n r ((d, v) :: l) w) : WR P L Q dr X n ((i, fl) :: r) l w :=
  r_val ho rfl hg (fun a ha u hu => by simp only [execOp, opv_spec ha hx, opv_spec ha hy, Option.map]; exact run_v (hv u hu)) h
theorem a_sliceH {t : TypeId} {x : Operand} {x' : Value} {y : Operand} {y' : Value} {v : Value} (ho : nth L i = some ⟨some d, .slice t x none (some y) none, ty, pos, af, g⟩) (hg : guardOk L n l g = true) (hx : opv n l x = some x') (hy : opv n l y = some y')
    (hv : (Instr.sliceAt t x' none (some y') none).run P w = .ok v w') (hX : dr = true → Ext X w w') (h : WR P L Q dr X n r ((d, v) :: l) w') : WR P L Q dr X n ((i, false) :: r) l w :=
  r_act ho rfl hg (fun a ha => by simp only [execOp, opv_spec ha hx, opv_spec ha hy, Option.map]; exact run_v hv) hX h
theorem r_sliceLH {t : TypeId} {x : Operand} {x' : Value} {y : Operand} {y' : Value} {z : Operand} {z' : Value} {v : Value} (ho : nth L i = some ⟨some d, .slice t x (some y) (some z) none, ty, pos, af, g⟩) (hg : guardOk L n l g = true) (hx : opv n l x = some x') (hy : opv n l y = some y') (hz : opv n l z = some z')
    (hv : ∀ u, St dr X w u → (Instr.sliceAt t x' (some y') (some z') none).run P u = .ok v u) (h : WR P L Q dr X n r ((d, v) :: l) w) : WR P L Q dr X n ((i, fl) :: r) l w :=
  r_val ho rfl hg (fun a ha u hu => by simp only [execOp, opv_spec ha hx, opv_spec ha hy, opv_spec ha hz, Option.map]; exact run_v (hv u hu)) h
theorem a_sliceLH {t : TypeId} {x : Operand} {x' : Value} {y : Operand} {y' : Value} {z : Operand} {z' : Value} {v : Value} (ho : nth L i = some ⟨some d, .slice t x (some y) (some z) none, ty, pos, af, g⟩) (hg : guardOk L n l g = true) (hx : opv n l x = some x') (hy : opv n l y = some y') (hz : opv n l z = some z')
    (hv : (Instr.sliceAt t x' (some y') (some z') none).run P w = .ok v w') (hX : dr = true → Ext X w w') (h : WR P L Q dr X n r ((d, v) :: l) w') : WR P L Q dr X n ((i, false) :: r) l w :=
  r_act ho rfl hg (fun a ha => by simp only [execOp, opv_spec ha hx, opv_spec ha hy, opv_spec ha hz, Option.map]; exact run_v hv) hX h
theorem r_sliceHM {t : TypeId} {x : Operand} {x' : Value} {y : Operand} {y' : Value} {z : Operand} {z' : Value} {v : Value} (ho : nth L i = some ⟨some d, .slice t x none (some y) (some z), ty, pos, af, g⟩) (hg : guardOk L n l g = true) (hx : opv n l x = some x') (hy : opv n l y = some y') (hz : opv n l z = some z')
    (hv : ∀ u, St dr X w u → (Instr.sliceAt t x' none (some y') (some z')).run P u = .ok v u) (h : WR P L Q dr X n r ((d, v) :: l) w) : WR P L Q dr X n ((i, fl) :: r) l w :=
  r_val ho rfl hg (fun a ha u hu => by simp only [execOp, opv_spec ha hx, opv_spec ha hy, opv_spec ha hz, Option.map]; exact run_v (hv u hu)) h
theorem a_sliceHM {t : TypeId} {x : Operand} {x' : Value} {y : Operand} {y' : Value} {z : Operand} {z' : Value} {v : Value} (ho : nth L i = some ⟨some d, .slice t x none (some y) (some z), ty, pos, af, g⟩) (hg : guardOk L n l g = true) (hx : opv n l x = some x') (hy : opv n l y = some y') (hz : opv n l z = some z')
    (hv : (Instr.sliceAt t x' none (some y') (some z')).run P w = .ok v w') (hX : dr = true → Ext X w w') (h : WR P L Q dr X n r ((d, v) :: l) w') : WR P L Q dr X n ((i, false) :: r) l w :=
  r_act ho rfl hg (fun a ha => by simp only [execOp, opv_spec ha hx, opv_spec ha hy, opv_spec ha hz, Option.map]; exact run_v hv) hX h
theorem r_sliceLHM {t : TypeId} {x : Operand} {x' : Value} {y : Operand} {y' : Value} {z : Operand} {z' : Value} {m : Operand} {m' : Value} {v : Value} (ho : nth L i = some ⟨some d, .slice t x (some y) (some z) (some m), ty, pos, af, g⟩) (hg : guardOk L n l g = true) (hx : opv n l x = some x') (hy : opv n l y = some y') (hz : opv n l z = some z') (hm : opv n l m = some m')
    (hv : ∀ u, St dr X w u → (Instr.sliceAt t x' (some y') (some z') (some m')).run P u = .ok v u) (h : WR P L Q dr X n r ((d, v) :: l) w) : WR P L Q dr X n ((i, fl) :: r) l w :=
  r_val ho rfl hg (fun a ha u hu => by simp only [execOp, opv_spec ha hx, opv_spec ha hy, opv_spec ha hz, opv_spec ha hm, Option.map]; exact run_v (hv u hu)) h
theorem a_sliceLHM {t : TypeId} {x : Operand} {x' : Value} {y : Operand} {y' : Value} {z : Operand} {z' : Value} {m : Operand} {m' : Value} {v : Value} (ho : nth L i = some ⟨some d, .slice t x (some y) (some z) (some m), ty, pos, af, g⟩) (hg : guardOk L n l g = true) (hx : opv n l x = some x') (hy : opv n l y = some y') (hz : opv n l z = some z') (hm : opv n l m = some m')
    (hv : (Instr.sliceAt t x' (some y') (some z') (some m')).run P w = .ok v w') (hX : dr = true → Ext X w w') (h : WR P L Q dr X n r ((d, v) :: l) w') : WR P L Q dr X n ((i, false) :: r) l w :=
  r_act ho rfl hg (fun a ha => by simp only [execOp, opv_spec ha hx, opv_spec ha hy, opv_spec ha hz, opv_spec ha hm, Option.map]; exact run_v hv) hX h
theorem r_fieldAddr {t : TypeId} {f : Nat} {x : Operand} {x' : Value} {v : Value} (ho : nth L i = some ⟨some d, .fieldAddr t x f, ty, pos, af, g⟩) (hg : guardOk L n l g = true) (hx : opv n l x = some x')
    (hv : ∀ u, St dr X w u → (Instr.fieldAt t x' f).run P u = .ok v u) (h : WR P L Q dr X n r ((d, v) :: l) w) : WR P L Q dr X n ((i, fl) :: r) l w :=
  r_val ho rfl hg (fun a ha u hu => by simp only [execOp, opv_spec ha hx, Option.map]; exact run_v (hv u hu)) h
theorem a_fieldAddr {t : TypeId} {f : Nat} {x : Operand} {x' : Value} {v : Value} (ho : nth L i = some ⟨some d, .fieldAddr t x f, ty, pos, af, g⟩) (hg : guardOk L n l g = true) (hx : opv n l x = some x')
    (hv : (Instr.fieldAt t x' f).run P w = .ok v w') (hX : dr = true → Ext X w w') (h : WR P L Q dr X n r ((d, v) :: l) w') : WR P L Q dr X n ((i, false) :: r) l w :=
  r_act ho rfl hg (fun a ha => by simp only [execOp, opv_spec ha hx, Option.map]; exact run_v hv) hX h
theorem r_field {t : TypeId} {f : Nat} {x : Operand} {x' : Value} {v : Value} (ho : nth L i = some ⟨some d, .field t x f, ty, pos, af, g⟩) (hg : guardOk L n l g = true) (hx : opv n l x = some x')
    (hv : ∀ u, St dr X w u → (Instr.field t x' f).run P u = .ok v u) (h : WR P L Q dr X n r ((d, v) :: l) w) : WR P L Q dr X n ((i, fl) :: r) l w :=
  r_val ho rfl hg (fun a ha u hu => by simp only [execOp, opv_spec ha hx, Option.map]; exact run_v (hv u hu)) h
theorem a_field {t : TypeId} {f : Nat} {x : Operand} {x' : Value} {v : Value} (ho : nth L i = some ⟨some d, .field t x f, ty, pos, af, g⟩) (hg : guardOk L n l g = true) (hx : opv n l x = some x')
    (hv : (Instr.field t x' f).run P w = .ok v w') (hX : dr = true → Ext X w w') (h : WR P L Q dr X n r ((d, v) :: l) w') : WR P L Q dr X n ((i, false) :: r) l w :=
  r_act ho rfl hg (fun a ha => by simp only [execOp, opv_spec ha hx, Option.map]; exact run_v hv) hX h
theorem r_indexAddr {t : TypeId} {x : Operand} {x' : Value} {y : Operand} {y' : Value} {v : Value} (ho : nth L i = some ⟨some d, .indexAddr t x y, ty, pos, af, g⟩) (hg : guardOk L n l g = true) (hx : opv n l x = some x') (hy : opv n l y = some y')
    (hv : ∀ u, St dr X w u → (Instr.indexAt t x' y').run P u = .ok v u) (h : WR P L Q dr X n r ((d, v) :: l) w) : WR P L Q dr X n ((i, fl) :: r) l w :=
  r_val ho rfl hg (fun a ha u hu => by simp only [execOp, opv_spec ha hx, opv_spec ha hy, Option.map]; exact run_v (hv u hu)) h
theorem a_indexAddr {t : TypeId} {x : Operand} {x' : Value} {y : Operand} {y' : Value} {v : Value} (ho : nth L i = some ⟨some d, .indexAddr t x y, ty, pos, af, g⟩) (hg : guardOk L n l g = true) (hx : opv n l x = some x') (hy : opv n l y = some y')
    (hv : (Instr.indexAt t x' y').run P w = .ok v w') (hX : dr = true → Ext X w w') (h : WR P L Q dr X n r ((d, v) :: l) w') : WR P L Q dr X n ((i, false) :: r) l w :=
  r_act ho rfl hg (fun a ha => by simp only [execOp, opv_spec ha hx, opv_spec ha hy, Option.map]; exact run_v hv) hX h
theorem r_index {t : TypeId} {x : Operand} {x' : Value} {y : Operand} {y' : Value} {v : Value} (ho : nth L i = some ⟨some d, .index t x y, ty, pos, af, g⟩) (hg : guardOk L n l g = true) (hx : opv n l x = some x') (hy : opv n l y = some y')
    (hv : ∀ u, St dr X w u → (Instr.index t x' y').run P u = .ok v u) (h : WR P L Q dr X n r ((d, v) :: l) w) : WR P L Q dr X n ((i, fl) :: r) l w :=
  r_val ho rfl hg (fun a ha u hu => by simp only [execOp, opv_spec ha hx, opv_spec ha hy, Option.map]; exact run_v (hv u hu)) h
theorem a_index {t : TypeId} {x : Operand} {x' : Value} {y : Operand} {y' : Value} {v : Value} (ho : nth L i = some ⟨some d, .index t x y, ty, pos, af, g⟩) (hg : guardOk L n l g = true) (hx : opv n l x = some x') (hy : opv n l y = some y')
    (hv : (Instr.index t x' y').run P w = .ok v w') (hX : dr = true → Ext X w w') (h : WR P L Q dr X n r ((d, v) :: l) w') : WR P L Q dr X n ((i, false) :: r) l w :=
  r_act ho rfl hg (fun a ha => by simp only [execOp, opv_spec ha hx, opv_spec ha hy, Option.map]; exact run_v hv) hX h
theorem r_lookup {t : TypeId} {ok : Bool} {x : Operand} {x' : Value} {y : Operand} {y' : Value} {v : Value} (ho : nth L i = some ⟨some d, .lookup t x y ok, ty, pos, af, g⟩) (hg : guardOk L n l g = true) (hx : opv n l x = some x') (hy : opv n l y = some y')
    (hv : ∀ u, St dr X w u → (Instr.lookup t x' y' ok).run P u = .ok v u) (h : WR P L Q dr X n r ((d, v) :: l) w) : WR P L Q dr X n ((i, fl) :: r) l w :=
  r_val ho rfl hg (fun a ha u hu => by simp only [execOp, opv_spec ha hx, opv_spec ha hy, Option.map]; exact run_v (hv u hu)) h
theorem a_lookup {t : TypeId} {ok : Bool} {x : Operand} {x' : Value} {y : Operand} {y' : Value} {v : Value} (ho : nth L i = some ⟨some d, .lookup t x y ok, ty, pos, af, g⟩) (hg : guardOk L n l g = true) (hx : opv n l x = some x') (hy : opv n l y = some y')
    (hv : (Instr.lookup t x' y' ok).run P w = .ok v w') (hX : dr = true → Ext X w w') (h : WR P L Q dr X n r ((d, v) :: l) w') : WR P L Q dr X n ((i, false) :: r) l w :=
  r_act ho rfl hg (fun a ha => by simp only [execOp, opv_spec ha hx, opv_spec ha hy, Option.map]; exact run_v hv) hX h
theorem a_mapUpdate {t : TypeId} {x : Operand} {x' : Value} {y : Operand} {y' : Value} {z : Operand} {z' : Value} (ho : nth L i = some ⟨none, .mapUpdate t x y z, ty, pos, af, g⟩) (hg : guardOk L n l g = true) (hx : opv n l x = some x') (hy : opv n l y = some y') (hz : opv n l z = some z')
    (hv : (Instr.mapUpdate t x' y' z').run P w = .ok () w') (hX : dr = true → Ext X w w') (h : WR P L Q dr X n r l w') : WR P L Q dr X n ((i, false) :: r) l w :=
  r_act0 ho rfl hg (fun a ha => by simp only [execOp, opv_spec ha hx, opv_spec ha hy, opv_spec ha hz]; exact run_u hv) hX h
theorem a_mapUpdate_d {t : TypeId} {x : Operand} {x' : Value} {y : Operand} {y' : Value} {z : Operand} {z' : Value} (ho : nth L i = some ⟨some d, .mapUpdate t x y z, ty, pos, af, g⟩) (hg : guardOk L n l g = true) (hx : opv n l x = some x') (hy : opv n l y = some y') (hz : opv n l z = some z')
    (hv : (Instr.mapUpdate t x' y' z').run P w = .ok () w') (hX : dr = true → Ext X w w') (h : WR P L Q dr X n r ((d, undef) :: l) w') : WR P L Q dr X n ((i, false) :: r) l w :=
  r_act0d ho rfl hg (fun a ha => by simp only [execOp, opv_spec ha hx, opv_spec ha hy, opv_spec ha hz]; exact run_u hv) hX h
theorem a_insert {t : TypeId} {x : Operand} {x' : Value} {y : Operand} {y' : Value} {z : Operand} {z' : Value} (ho : nth L i = some ⟨none, .insert t x y z, ty, pos, af, g⟩) (hg : guardOk L n l g = true) (hx : opv n l x = some x') (hy : opv n l y = some y') (hz : opv n l z = some z')
    (hv : (Instr.mapUpdate t x' y' z').run P w = .ok () w') (hX : dr = true → Ext X w w') (h : WR P L Q dr X n r l w') : WR P L Q dr X n ((i, false) :: r) l w :=
  r_act0 ho rfl hg (fun a ha => by simp only [execOp, opv_spec ha hx, opv_spec ha hy, opv_spec ha hz]; exact run_u hv) hX h
theorem a_insert_d {t : TypeId} {x : Operand} {x' : Value} {y : Operand} {y' : Value} {z : Operand} {z' : Value} (ho : nth L i = some ⟨some d, .insert t x y z, ty, pos, af, g⟩) (hg : guardOk L n l g = true) (hx : opv n l x = some x') (hy : opv n l y = some y') (hz : opv n l z = some z')
    (hv : (Instr.mapUpdate t x' y' z').run P w = .ok () w') (hX : dr = true → Ext X w w') (h : WR P L Q dr X n r ((d, undef) :: l) w') : WR P L Q dr X n ((i, false) :: r) l w :=
  r_act0d ho rfl hg (fun a ha => by simp only [execOp, opv_spec ha hx, opv_spec ha hy, opv_spec ha hz]; exact run_u hv) hX h
theorem r_range {t : TypeId} {x : Operand} {x' : Value} {v : Value} (ho : nth L i = some ⟨some d, .range t x, ty, pos, af, g⟩) (hg : guardOk L n l g = true) (hx : opv n l x = some x')
    (hv : ∀ u, St dr X w u → (Instr.range t x').run P u = .ok v u) (h : WR P L Q dr X n r ((d, v) :: l) w) : WR P L Q dr X n ((i, fl) :: r) l w :=
  r_val ho rfl hg (fun a ha u hu => by simp only [execOp, opv_spec ha hx, Option.map]; exact run_v (hv u hu)) h
theorem a_range {t : TypeId} {x : Operand} {x' : Value} {v : Value} (ho : nth L i = some ⟨some d, .range t x, ty, pos, af, g⟩) (hg : guardOk L n l g = true) (hx : opv n l x = some x')
    (hv : (Instr.range t x').run P w = .ok v w') (hX : dr = true → Ext X w w') (h : WR P L Q dr X n r ((d, v) :: l) w') : WR P L Q dr X n ((i, false) :: r) l w :=
  r_act ho rfl hg (fun a ha => by simp only [execOp, opv_spec ha hx, Option.map]; exact run_v hv) hX h
theorem r_next {b : Bool} {x : Operand} {x' : Value} {v : Value} (ho : nth L i = some ⟨some d, .next x b, ty, pos, af, g⟩) (hg : guardOk L n l g = true) (hx : opv n l x = some x')
    (hv : ∀ u, St dr X w u → (Instr.next x' b ty).run P u = .ok v u) (h : WR P L Q dr X n r ((d, v) :: l) w) : WR P L Q dr X n ((i, fl) :: r) l w :=
  r_val ho rfl hg (fun a ha u hu => by simp only [execOp, opv_spec ha hx, Option.map]; exact run_v (hv u hu)) h
theorem a_next {b : Bool} {x : Operand} {x' : Value} {v : Value} (ho : nth L i = some ⟨some d, .next x b, ty, pos, af, g⟩) (hg : guardOk L n l g = true) (hx : opv n l x = some x')
    (hv : (Instr.next x' b ty).run P w = .ok v w') (hX : dr = true → Ext X w w') (h : WR P L Q dr X n r ((d, v) :: l) w') : WR P L Q dr X n ((i, false) :: r) l w :=
  r_act ho rfl hg (fun a ha => by simp only [execOp, opv_spec ha hx, Option.map]; exact run_v hv) hX h
theorem r_entry  {x : Operand} {x' : Value} {v : Value} (ho : nth L i = some ⟨some d, .entry x, ty, pos, af, g⟩) (hg : guardOk L n l g = true) (hx : opv n l x = some x')
    (hv : ∀ u, St dr X w u → (Instr.entry x').run P u = .ok v u) (h : WR P L Q dr X n r ((d, v) :: l) w) : WR P L Q dr X n ((i, fl) :: r) l w :=
  r_val ho rfl hg (fun a ha u hu => by simp only [execOp, opv_spec ha hx, Option.map]; exact run_v (hv u hu)) h
theorem a_entry  {x : Operand} {x' : Value} {v : Value} (ho : nth L i = some ⟨some d, .entry x, ty, pos, af, g⟩) (hg : guardOk L n l g = true) (hx : opv n l x = some x')
    (hv : (Instr.entry x').run P w = .ok v w') (hX : dr = true → Ext X w w') (h : WR P L Q dr X n r ((d, v) :: l) w') : WR P L Q dr X n ((i, false) :: r) l w :=
  r_act ho rfl hg (fun a ha => by simp only [execOp, opv_spec ha hx, Option.map]; exact run_v hv) hX h
theorem r_recvx {t : TypeId} {x : Operand} {x' : Value} {v : Value} (ho : nth L i = some ⟨some d, .sliceToArrayPointer t x, ty, pos, af, g⟩) (hg : guardOk L n l g = true) (hx : opv n l x = some x')
    (hv : ∀ u, St dr X w u → (Instr.arrayAt t x').run P u = .ok v u) (h : WR P L Q dr X n r ((d, v) :: l) w) : WR P L Q dr X n ((i, fl) :: r) l w :=
  r_val ho rfl hg (fun a ha u hu => by simp only [execOp, opv_spec ha hx, Option.map]; exact run_v (hv u hu)) h
theorem a_recvx {t : TypeId} {x : Operand} {x' : Value} {v : Value} (ho : nth L i = some ⟨some d, .sliceToArrayPointer t x, ty, pos, af, g⟩) (hg : guardOk L n l g = true) (hx : opv n l x = some x')
    (hv : (Instr.arrayAt t x').run P w = .ok v w') (hX : dr = true → Ext X w w') (h : WR P L Q dr X n r ((d, v) :: l) w') : WR P L Q dr X n ((i, false) :: r) l w :=
  r_act ho rfl hg (fun a ha => by simp only [execOp, opv_spec ha hx, Option.map]; exact run_v hv) hX h
theorem r_build {t : TypeId} {ps : List (Nat × Operand)} {vs : List (Nat × Value)} {v : Value} (ho : nth L i = some ⟨some d, .build t ps.toArray, ty, pos, af, g⟩) (hg : guardOk L n l g = true) (hp : partsOf n l ps = some vs)
    (hv : ∀ u, St dr X w u → (Instr.build t vs.toArray).run P u = .ok v u) (h : WR P L Q dr X n r ((d, v) :: l) w) : WR P L Q dr X n ((i, fl) :: r) l w :=
  r_val ho rfl hg (fun a ha u hu => by simp only [execOp, partsOf_spec ha hp]; exact run_v (hv u hu)) h
theorem a_build {t : TypeId} {ps : List (Nat × Operand)} {vs : List (Nat × Value)} {v : Value} (ho : nth L i = some ⟨some d, .build t ps.toArray, ty, pos, af, g⟩) (hg : guardOk L n l g = true) (hp : partsOf n l ps = some vs)
    (hv : (Instr.build t vs.toArray).run P w = .ok v w') (hX : dr = true → Ext X w w') (h : WR P L Q dr X n r ((d, v) :: l) w') : WR P L Q dr X n ((i, false) :: r) l w :=
  r_act ho rfl hg (fun a ha => by simp only [execOp, partsOf_spec ha hp]; exact run_v hv) hX h
theorem r_buildSlice {t : TypeId} {k : Nat} {ps : List (Nat × Operand)} {vs : List (Nat × Value)} {v : Value} (ho : nth L i = some ⟨some d, .buildSlice t k ps.toArray, ty, pos, af, g⟩) (hg : guardOk L n l g = true) (hp : partsOf n l ps = some vs)
    (hv : ∀ u, St dr X w u → (Instr.buildSlice t k vs.toArray).run P u = .ok v u) (h : WR P L Q dr X n r ((d, v) :: l) w) : WR P L Q dr X n ((i, fl) :: r) l w :=
  r_val ho rfl hg (fun a ha u hu => by simp only [execOp, partsOf_spec ha hp]; exact run_v (hv u hu)) h
theorem a_buildSlice {t : TypeId} {k : Nat} {ps : List (Nat × Operand)} {vs : List (Nat × Value)} {v : Value} (ho : nth L i = some ⟨some d, .buildSlice t k ps.toArray, ty, pos, af, g⟩) (hg : guardOk L n l g = true) (hp : partsOf n l ps = some vs)
    (hv : (Instr.buildSlice t k vs.toArray).run P w = .ok v w') (hX : dr = true → Ext X w w') (h : WR P L Q dr X n r ((d, v) :: l) w') : WR P L Q dr X n ((i, false) :: r) l w :=
  r_act ho rfl hg (fun a ha => by simp only [execOp, partsOf_spec ha hp]; exact run_v hv) hX h
def valsOf (n : Nat) (l : List (Nat × Value)) : List Operand → Option (List Value)
  | [] => some []
  | x :: r => match opv n l x, valsOf n l r with
    | some v, some vs => some (v :: vs)
    | _, _ => none
theorem valsOf_spec {a : Act} (ha : Kn n l a) : ∀ {xs : List Operand} {vs : List Value}, valsOf n l xs = some vs → xs.map a.eval = vs
  | [], vs, h => by simp [valsOf] at h; subst h; simp
  | x :: r, vs, h => by
    simp only [valsOf] at h
    split at h
    · rename_i v vs' hv hvs
      injection h with h; subst h
      simp [opv_spec ha hv, valsOf_spec ha hvs]
    · cases h
theorem r_makeFunc {fn : Fn} {xs ys : List Operand} {us vs : List Value} {v : Value} (ho : nth L i = some ⟨some d, .makeFunc fn xs.toArray ys.toArray, ty, pos, af, g⟩) (hg : guardOk L n l g = true) (hx : valsOf n l xs = some us) (hy : valsOf n l ys = some vs)
    (hv : ∀ u, St dr X w u → (Instr.makeFunc fn us.toArray vs.toArray).run P u = .ok v u) (h : WR P L Q dr X n r ((d, v) :: l) w) : WR P L Q dr X n ((i, fl) :: r) l w :=
  r_val ho rfl hg (fun a ha u hu => by simp only [execOp, List.map_toArray, valsOf_spec ha hx, valsOf_spec ha hy]; exact run_v (hv u hu)) h
theorem run_call {f : FuncId} {us : List Value} {u : World} (hf : ∀ args w, (callFunc f args).run P w = .ok (.enter f args) w) {ats : Array TypeId} {xs : List Operand} {a : Act} (ha : Kn n l a) (hx : valsOf n l xs = some us) {dst : Option Nat} :
    (execOp a.eval ⟨dst, .call { callee := .value (.func f), args := xs.toArray, argTypes := ats }, ty, pos, af, g⟩).run P u = .ok (.enter f us.toArray) u := by
  simp only [execOp, resolve, Deferred.ofValue, Act.eval, List.map_toArray, valsOf_spec ha hx, Sem.run_bind]
  have := hf (us.toArray ++ #[]) u
  simpa [invoke] using this
theorem r_callf {f : FuncId} {ats : Array TypeId} {xs : List Operand} {us : List Value} {dst : Option Nat} (ho : nth L i = some ⟨dst, .call { callee := .value (.func f), args := xs.toArray, argTypes := ats }, ty, pos, af, g⟩) (hg : guardOk L n l g = true) (hx : valsOf n l xs = some us)
    (hf : ∀ args w, (callFunc f args).run P w = .ok (.enter f args) w) (hc : Calls P f us.toArray w (Back P L Q dr X n r dst l w)) : WR P L Q dr X n ((i, false) :: r) l w :=
  r_call ho hg (fun a ha => run_call hf ha hx) hc
/-- A call of a function's value that was made. -/
theorem r_callv {f : FuncId} {cap : Array Value} {fo : Operand} {ats : Array TypeId} {xs : List Operand} {us : List Value} {dst : Option Nat} (ho : nth L i = some ⟨dst, .call { callee := .value fo, args := xs.toArray, argTypes := ats }, ty, pos, af, g⟩) (hg : guardOk L n l g = true) (hfo : opv n l fo = some (.func (.func f) #[] cap)) (hx : valsOf n l xs = some us)
    (hf : ∀ args w, (callFunc f args).run P w = .ok (.enter f args) w) (hc : Calls P f (us.toArray ++ cap) w (Back P L Q dr X n r dst l w)) : WR P L Q dr X n ((i, false) :: r) l w := by
  refine r_call ho hg (fun a ha => ?_) hc
  simp only [execOp, resolve, Deferred.ofValue, opv_spec ha hfo, List.map_toArray, valsOf_spec ha hx, Sem.run_bind]
  have := hf (us.toArray ++ cap) w
  simpa [invoke] using this
/-- A builtin: a value, or an act. -/
def isConst : Operand → Bool
  | .const _ => true
  | _ => false
theorem run_builtin {b : Builtin} {ats : Array TypeId} {xs : List Operand} {us : List Value} {u u' : World} {v : Value} {dst : Option Nat} {a : Act} (ha : Kn n l a) (hx : valsOf n l xs = some us)
    (hv : (builtin b ats ty (xs.map isConst).toArray us.toArray).run P u = .ok (.value v) u') :
    (execOp a.eval ⟨dst, .call { callee := .builtin b, args := xs.toArray, argTypes := ats }, ty, pos, af, g⟩).run P u = .ok (.value v) u' := by
  simp only [execOp, resolve, List.map_toArray, valsOf_spec ha hx, Sem.run_bind]
  exact hv
theorem r_builtin {b : Builtin} {ats : Array TypeId} {xs : List Operand} {us : List Value} {v : Value} (ho : nth L i = some ⟨some d, .call { callee := .builtin b, args := xs.toArray, argTypes := ats }, ty, pos, af, g⟩) (hg : guardOk L n l g = true) (hx : valsOf n l xs = some us)
    (hv : ∀ u, St dr X w u → (builtin b ats ty (xs.map isConst).toArray us.toArray).run P u = .ok (.value v) u) (h : WR P L Q dr X n r ((d, v) :: l) w) : WR P L Q dr X n ((i, fl) :: r) l w :=
  r_val ho rfl hg (fun a ha u hu => run_builtin ha hx (hv u hu)) h
theorem a_builtin {b : Builtin} {ats : Array TypeId} {xs : List Operand} {us : List Value} {v : Value} (ho : nth L i = some ⟨some d, .call { callee := .builtin b, args := xs.toArray, argTypes := ats }, ty, pos, af, g⟩) (hg : guardOk L n l g = true) (hx : valsOf n l xs = some us)
    (hv : (builtin b ats ty (xs.map isConst).toArray us.toArray).run P w = .ok (.value v) w') (hX : dr = true → Ext X w w') (h : WR P L Q dr X n r ((d, v) :: l) w') : WR P L Q dr X n ((i, false) :: r) l w :=
  r_act ho rfl hg (fun a ha => run_builtin ha hx hv) hX h
/-! Whole numbers. -/
theorem lit_ne {n m : Nat} (h : Nat.beq n m = false) : ¬ ((@OfNat.ofNat Int n instOfNat) = @OfNat.ofNat Int m instOfNat) := by
  intro e
  have e2 : Int.ofNat n = Int.ofNat m := e
  injection e2 with e3
  subst e3
  rw [Nat.beq_refl] at h; cases h
theorem w_i64 {x : Int} (h0 : -9223372036854775808 ≤ x) (h1 : x ≤ 9223372036854775807) : IntKind.i64.wrap x = x := by rw [IntKind.wrap_i64]; omega
theorem w_u32 {x : Int} (h0 : 0 ≤ x) (h1 : x ≤ 4294967295) : IntKind.u32.wrap x = x := by rw [IntKind.wrap_u32]; omega
theorem w_u64 {x : Int} (h0 : 0 ≤ x) (h1 : x ≤ 18446744073709551615) : IntKind.u64.wrap x = x := by rw [IntKind.wrap_u64]; omega
theorem w_u8 {x : Int} (h0 : 0 ≤ x) (h1 : x ≤ 255) : IntKind.u8.wrap x = x := by rw [IntKind.wrap_u8]; omega
theorem m_u32 (x : Int) : IntKind.u32.wrap x = x % 4294967296 := IntKind.wrap_u32 x
theorem m_u64 (x : Int) : IntKind.u64.wrap x = x % 18446744073709551616 := IntKind.wrap_u64 x
theorem m_u8 (x : Int) : IntKind.u8.wrap x = x % 256 := IntKind.wrap_u8 x
theorem m_i32 (x : Int) : IntKind.i32.wrap x = Go.RowKit.wrap32 x := Go.IntWalk.i32_left x
theorem m_i64 (x : Int) : IntKind.i64.wrap x = Go.RowKit.wrap64 x := Go.IntWalk.i64_left x

theorem r_add {k : IntKind} {xt yt : TypeId} {x y : Operand} {a b c : Int} (ho : nth L i = some ⟨some d, .binOp .add xt x y yt, ty, pos, af, g⟩) (hg : guardOk L n l g = true) (hx : opv n l x = some (.int k a)) (hy : opv n l y = some (.int k b))
    (hc : k.wrap (a + b) = c) (h : WR P L Q dr X n r ((d, .int k c) :: l) w) : WR P L Q dr X n ((i, fl) :: r) l w :=
  r_bin ho hg hx hy (fun u _ => by subst hc; cases k <;> rfl) h
theorem r_sub {k : IntKind} {xt yt : TypeId} {x y : Operand} {a b c : Int} (ho : nth L i = some ⟨some d, .binOp .sub xt x y yt, ty, pos, af, g⟩) (hg : guardOk L n l g = true) (hx : opv n l x = some (.int k a)) (hy : opv n l y = some (.int k b))
    (hc : k.wrap (a - b) = c) (h : WR P L Q dr X n r ((d, .int k c) :: l) w) : WR P L Q dr X n ((i, fl) :: r) l w :=
  r_bin ho hg hx hy (fun u _ => by subst hc; cases k <;> rfl) h
theorem r_mul {k : IntKind} {xt yt : TypeId} {x y : Operand} {a b c : Int} (ho : nth L i = some ⟨some d, .binOp .mul xt x y yt, ty, pos, af, g⟩) (hg : guardOk L n l g = true) (hx : opv n l x = some (.int k a)) (hy : opv n l y = some (.int k b))
    (hc : k.wrap (a * b) = c) (h : WR P L Q dr X n r ((d, .int k c) :: l) w) : WR P L Q dr X n ((i, fl) :: r) l w :=
  r_bin ho hg hx hy (fun u _ => by subst hc; cases k <;> rfl) h
theorem r_and {k : IntKind} {xt yt : TypeId} {x y : Operand} {a b c : Int} (ho : nth L i = some ⟨some d, .binOp .and xt x y yt, ty, pos, af, g⟩) (hg : guardOk L n l g = true) (hx : opv n l x = some (.int k a)) (hy : opv n l y = some (.int k b))
    (hc : bits .and k a b = c) (h : WR P L Q dr X n r ((d, .int k c) :: l) w) : WR P L Q dr X n ((i, fl) :: r) l w :=
  r_bin ho hg hx hy (fun u _ => by subst hc; cases k <;> rfl) h
theorem r_or {k : IntKind} {xt yt : TypeId} {x y : Operand} {a b c : Int} (ho : nth L i = some ⟨some d, .binOp .or xt x y yt, ty, pos, af, g⟩) (hg : guardOk L n l g = true) (hx : opv n l x = some (.int k a)) (hy : opv n l y = some (.int k b))
    (hc : bits .or k a b = c) (h : WR P L Q dr X n r ((d, .int k c) :: l) w) : WR P L Q dr X n ((i, fl) :: r) l w :=
  r_bin ho hg hx hy (fun u _ => by subst hc; cases k <;> rfl) h
theorem r_xor {k : IntKind} {xt yt : TypeId} {x y : Operand} {a b c : Int} (ho : nth L i = some ⟨some d, .binOp .xor xt x y yt, ty, pos, af, g⟩) (hg : guardOk L n l g = true) (hx : opv n l x = some (.int k a)) (hy : opv n l y = some (.int k b))
    (hc : bits .xor k a b = c) (h : WR P L Q dr X n r ((d, .int k c) :: l) w) : WR P L Q dr X n ((i, fl) :: r) l w :=
  r_bin ho hg hx hy (fun u _ => by subst hc; cases k <;> rfl) h
theorem r_andNot {k : IntKind} {xt yt : TypeId} {x y : Operand} {a b c : Int} (ho : nth L i = some ⟨some d, .binOp .andNot xt x y yt, ty, pos, af, g⟩) (hg : guardOk L n l g = true) (hx : opv n l x = some (.int k a)) (hy : opv n l y = some (.int k b))
    (hc : bits .andNot k a b = c) (h : WR P L Q dr X n r ((d, .int k c) :: l) w) : WR P L Q dr X n ((i, fl) :: r) l w :=
  r_bin ho hg hx hy (fun u _ => by subst hc; cases k <;> rfl) h
theorem r_lt {k : IntKind} {xt yt : TypeId} {x y : Operand} {a b : Int} (ho : nth L i = some ⟨some d, .binOp .lss xt x y yt, ty, pos, af, g⟩) (hg : guardOk L n l g = true) (hx : opv n l x = some (.int k a)) (hy : opv n l y = some (.int k b))
    (h : WR P L Q dr X n r ((d, .bool (decide (a < b))) :: l) w) : WR P L Q dr X n ((i, fl) :: r) l w :=
  r_bin ho hg hx hy (fun u _ => by cases k <;> rfl) h
theorem r_lt_t {k : IntKind} {xt yt : TypeId} {x y : Operand} {a b : Int} (ho : nth L i = some ⟨some d, .binOp .lss xt x y yt, ty, pos, af, g⟩) (hg : guardOk L n l g = true) (hx : opv n l x = some (.int k a)) (hy : opv n l y = some (.int k b))
    (ht : (a < b)) (h : WR P L Q dr X n r ((d, .bool true) :: l) w) : WR P L Q dr X n ((i, fl) :: r) l w :=
  r_lt ho hg hx hy (by rw [show decide (a < b) = true by simpa using ht]; exact h)
theorem r_lt_f {k : IntKind} {xt yt : TypeId} {x y : Operand} {a b : Int} (ho : nth L i = some ⟨some d, .binOp .lss xt x y yt, ty, pos, af, g⟩) (hg : guardOk L n l g = true) (hx : opv n l x = some (.int k a)) (hy : opv n l y = some (.int k b))
    (ht : ¬ (a < b)) (h : WR P L Q dr X n r ((d, .bool false) :: l) w) : WR P L Q dr X n ((i, fl) :: r) l w :=
  r_lt ho hg hx hy (by rw [show decide (a < b) = false by simpa using ht]; exact h)
theorem r_lt_s {k : IntKind} {xt yt : TypeId} {x y : Operand} {a b : Int} (ho : nth L i = some ⟨some d, .binOp .lss xt x y yt, ty, pos, af, g⟩) (hg : guardOk L n l g = true) (hx : opv n l x = some (.int k a)) (hy : opv n l y = some (.int k b))
    (h1 : (a < b) → WR P L Q dr X n r ((d, .bool true) :: l) w) (h2 : ¬ (a < b) → WR P L Q dr X n r ((d, .bool false) :: l) w) : WR P L Q dr X n ((i, fl) :: r) l w := by
  by_cases ht : a < b
  · exact r_lt_t ho hg hx hy ht (h1 ht)
  · exact r_lt_f ho hg hx hy ht (h2 ht)
theorem r_le {k : IntKind} {xt yt : TypeId} {x y : Operand} {a b : Int} (ho : nth L i = some ⟨some d, .binOp .leq xt x y yt, ty, pos, af, g⟩) (hg : guardOk L n l g = true) (hx : opv n l x = some (.int k a)) (hy : opv n l y = some (.int k b))
    (h : WR P L Q dr X n r ((d, .bool (decide (a ≤ b))) :: l) w) : WR P L Q dr X n ((i, fl) :: r) l w :=
  r_bin ho hg hx hy (fun u _ => by cases k <;> rfl) h
theorem r_le_t {k : IntKind} {xt yt : TypeId} {x y : Operand} {a b : Int} (ho : nth L i = some ⟨some d, .binOp .leq xt x y yt, ty, pos, af, g⟩) (hg : guardOk L n l g = true) (hx : opv n l x = some (.int k a)) (hy : opv n l y = some (.int k b))
    (ht : (a ≤ b)) (h : WR P L Q dr X n r ((d, .bool true) :: l) w) : WR P L Q dr X n ((i, fl) :: r) l w :=
  r_le ho hg hx hy (by rw [show decide (a ≤ b) = true by simpa using ht]; exact h)
theorem r_le_f {k : IntKind} {xt yt : TypeId} {x y : Operand} {a b : Int} (ho : nth L i = some ⟨some d, .binOp .leq xt x y yt, ty, pos, af, g⟩) (hg : guardOk L n l g = true) (hx : opv n l x = some (.int k a)) (hy : opv n l y = some (.int k b))
    (ht : ¬ (a ≤ b)) (h : WR P L Q dr X n r ((d, .bool false) :: l) w) : WR P L Q dr X n ((i, fl) :: r) l w :=
  r_le ho hg hx hy (by rw [show decide (a ≤ b) = false by simpa using ht]; exact h)
theorem r_le_s {k : IntKind} {xt yt : TypeId} {x y : Operand} {a b : Int} (ho : nth L i = some ⟨some d, .binOp .leq xt x y yt, ty, pos, af, g⟩) (hg : guardOk L n l g = true) (hx : opv n l x = some (.int k a)) (hy : opv n l y = some (.int k b))
    (h1 : (a ≤ b) → WR P L Q dr X n r ((d, .bool true) :: l) w) (h2 : ¬ (a ≤ b) → WR P L Q dr X n r ((d, .bool false) :: l) w) : WR P L Q dr X n ((i, fl) :: r) l w := by
  by_cases ht : a ≤ b
  · exact r_le_t ho hg hx hy ht (h1 ht)
  · exact r_le_f ho hg hx hy ht (h2 ht)
theorem r_gt {k : IntKind} {xt yt : TypeId} {x y : Operand} {a b : Int} (ho : nth L i = some ⟨some d, .binOp .gtr xt x y yt, ty, pos, af, g⟩) (hg : guardOk L n l g = true) (hx : opv n l x = some (.int k a)) (hy : opv n l y = some (.int k b))
    (h : WR P L Q dr X n r ((d, .bool (decide (a > b))) :: l) w) : WR P L Q dr X n ((i, fl) :: r) l w :=
  r_bin ho hg hx hy (fun u _ => by cases k <;> rfl) h
theorem r_gt_t {k : IntKind} {xt yt : TypeId} {x y : Operand} {a b : Int} (ho : nth L i = some ⟨some d, .binOp .gtr xt x y yt, ty, pos, af, g⟩) (hg : guardOk L n l g = true) (hx : opv n l x = some (.int k a)) (hy : opv n l y = some (.int k b))
    (ht : (b < a)) (h : WR P L Q dr X n r ((d, .bool true) :: l) w) : WR P L Q dr X n ((i, fl) :: r) l w :=
  r_gt ho hg hx hy (by rw [show decide (a > b) = true by simpa using ht]; exact h)
theorem r_gt_f {k : IntKind} {xt yt : TypeId} {x y : Operand} {a b : Int} (ho : nth L i = some ⟨some d, .binOp .gtr xt x y yt, ty, pos, af, g⟩) (hg : guardOk L n l g = true) (hx : opv n l x = some (.int k a)) (hy : opv n l y = some (.int k b))
    (ht : ¬ (b < a)) (h : WR P L Q dr X n r ((d, .bool false) :: l) w) : WR P L Q dr X n ((i, fl) :: r) l w :=
  r_gt ho hg hx hy (by rw [show decide (a > b) = false by simpa using ht]; exact h)
theorem r_gt_s {k : IntKind} {xt yt : TypeId} {x y : Operand} {a b : Int} (ho : nth L i = some ⟨some d, .binOp .gtr xt x y yt, ty, pos, af, g⟩) (hg : guardOk L n l g = true) (hx : opv n l x = some (.int k a)) (hy : opv n l y = some (.int k b))
    (h1 : (b < a) → WR P L Q dr X n r ((d, .bool true) :: l) w) (h2 : ¬ (b < a) → WR P L Q dr X n r ((d, .bool false) :: l) w) : WR P L Q dr X n ((i, fl) :: r) l w := by
  by_cases ht : b < a
  · exact r_gt_t ho hg hx hy ht (h1 ht)
  · exact r_gt_f ho hg hx hy ht (h2 ht)
theorem r_ge {k : IntKind} {xt yt : TypeId} {x y : Operand} {a b : Int} (ho : nth L i = some ⟨some d, .binOp .geq xt x y yt, ty, pos, af, g⟩) (hg : guardOk L n l g = true) (hx : opv n l x = some (.int k a)) (hy : opv n l y = some (.int k b))
    (h : WR P L Q dr X n r ((d, .bool (decide (a ≥ b))) :: l) w) : WR P L Q dr X n ((i, fl) :: r) l w :=
  r_bin ho hg hx hy (fun u _ => by cases k <;> rfl) h
theorem r_ge_t {k : IntKind} {xt yt : TypeId} {x y : Operand} {a b : Int} (ho : nth L i = some ⟨some d, .binOp .geq xt x y yt, ty, pos, af, g⟩) (hg : guardOk L n l g = true) (hx : opv n l x = some (.int k a)) (hy : opv n l y = some (.int k b))
    (ht : (b ≤ a)) (h : WR P L Q dr X n r ((d, .bool true) :: l) w) : WR P L Q dr X n ((i, fl) :: r) l w :=
  r_ge ho hg hx hy (by rw [show decide (a ≥ b) = true by simpa using ht]; exact h)
theorem r_ge_f {k : IntKind} {xt yt : TypeId} {x y : Operand} {a b : Int} (ho : nth L i = some ⟨some d, .binOp .geq xt x y yt, ty, pos, af, g⟩) (hg : guardOk L n l g = true) (hx : opv n l x = some (.int k a)) (hy : opv n l y = some (.int k b))
    (ht : ¬ (b ≤ a)) (h : WR P L Q dr X n r ((d, .bool false) :: l) w) : WR P L Q dr X n ((i, fl) :: r) l w :=
  r_ge ho hg hx hy (by rw [show decide (a ≥ b) = false by simpa using ht]; exact h)
theorem r_ge_s {k : IntKind} {xt yt : TypeId} {x y : Operand} {a b : Int} (ho : nth L i = some ⟨some d, .binOp .geq xt x y yt, ty, pos, af, g⟩) (hg : guardOk L n l g = true) (hx : opv n l x = some (.int k a)) (hy : opv n l y = some (.int k b))
    (h1 : (b ≤ a) → WR P L Q dr X n r ((d, .bool true) :: l) w) (h2 : ¬ (b ≤ a) → WR P L Q dr X n r ((d, .bool false) :: l) w) : WR P L Q dr X n ((i, fl) :: r) l w := by
  by_cases ht : b ≤ a
  · exact r_ge_t ho hg hx hy ht (h1 ht)
  · exact r_ge_f ho hg hx hy ht (h2 ht)
theorem r_eq {k : IntKind} {xt yt : TypeId} {x y : Operand} {a b : Int} (ho : nth L i = some ⟨some d, .binOp .eql xt x y yt, ty, pos, af, g⟩) (hg : guardOk L n l g = true) (hx : opv n l x = some (.int k a)) (hy : opv n l y = some (.int k b))
    (h : WR P L Q dr X n r ((d, .bool ((a == b))) :: l) w) : WR P L Q dr X n ((i, fl) :: r) l w :=
  r_bin ho hg hx hy (fun u _ => by cases k <;> rfl) h
theorem r_eq_t {k : IntKind} {xt yt : TypeId} {x y : Operand} {a b : Int} (ho : nth L i = some ⟨some d, .binOp .eql xt x y yt, ty, pos, af, g⟩) (hg : guardOk L n l g = true) (hx : opv n l x = some (.int k a)) (hy : opv n l y = some (.int k b))
    (ht : (a = b)) (h : WR P L Q dr X n r ((d, .bool true) :: l) w) : WR P L Q dr X n ((i, fl) :: r) l w :=
  r_eq ho hg hx hy (by rw [show (a == b) = true by simpa using ht]; exact h)
theorem r_eq_f {k : IntKind} {xt yt : TypeId} {x y : Operand} {a b : Int} (ho : nth L i = some ⟨some d, .binOp .eql xt x y yt, ty, pos, af, g⟩) (hg : guardOk L n l g = true) (hx : opv n l x = some (.int k a)) (hy : opv n l y = some (.int k b))
    (ht : ¬ (a = b)) (h : WR P L Q dr X n r ((d, .bool false) :: l) w) : WR P L Q dr X n ((i, fl) :: r) l w :=
  r_eq ho hg hx hy (by rw [show (a == b) = false by simpa using ht]; exact h)
theorem r_eq_s {k : IntKind} {xt yt : TypeId} {x y : Operand} {a b : Int} (ho : nth L i = some ⟨some d, .binOp .eql xt x y yt, ty, pos, af, g⟩) (hg : guardOk L n l g = true) (hx : opv n l x = some (.int k a)) (hy : opv n l y = some (.int k b))
    (h1 : (a = b) → WR P L Q dr X n r ((d, .bool true) :: l) w) (h2 : ¬ (a = b) → WR P L Q dr X n r ((d, .bool false) :: l) w) : WR P L Q dr X n ((i, fl) :: r) l w := by
  by_cases ht : a = b
  · exact r_eq_t ho hg hx hy ht (h1 ht)
  · exact r_eq_f ho hg hx hy ht (h2 ht)
theorem r_ne {k : IntKind} {xt yt : TypeId} {x y : Operand} {a b : Int} (ho : nth L i = some ⟨some d, .binOp .neq xt x y yt, ty, pos, af, g⟩) (hg : guardOk L n l g = true) (hx : opv n l x = some (.int k a)) (hy : opv n l y = some (.int k b))
    (h : WR P L Q dr X n r ((d, .bool ((a != b))) :: l) w) : WR P L Q dr X n ((i, fl) :: r) l w :=
  r_bin ho hg hx hy (fun u _ => by cases k <;> rfl) h
theorem r_ne_t {k : IntKind} {xt yt : TypeId} {x y : Operand} {a b : Int} (ho : nth L i = some ⟨some d, .binOp .neq xt x y yt, ty, pos, af, g⟩) (hg : guardOk L n l g = true) (hx : opv n l x = some (.int k a)) (hy : opv n l y = some (.int k b))
    (ht : (a ≠ b)) (h : WR P L Q dr X n r ((d, .bool true) :: l) w) : WR P L Q dr X n ((i, fl) :: r) l w :=
  r_ne ho hg hx hy (by rw [show (a != b) = true by simpa using ht]; exact h)
theorem r_ne_f {k : IntKind} {xt yt : TypeId} {x y : Operand} {a b : Int} (ho : nth L i = some ⟨some d, .binOp .neq xt x y yt, ty, pos, af, g⟩) (hg : guardOk L n l g = true) (hx : opv n l x = some (.int k a)) (hy : opv n l y = some (.int k b))
    (ht : ¬ (a ≠ b)) (h : WR P L Q dr X n r ((d, .bool false) :: l) w) : WR P L Q dr X n ((i, fl) :: r) l w :=
  r_ne ho hg hx hy (by rw [show (a != b) = false by simpa using ht]; exact h)
theorem r_ne_s {k : IntKind} {xt yt : TypeId} {x y : Operand} {a b : Int} (ho : nth L i = some ⟨some d, .binOp .neq xt x y yt, ty, pos, af, g⟩) (hg : guardOk L n l g = true) (hx : opv n l x = some (.int k a)) (hy : opv n l y = some (.int k b))
    (h1 : (a ≠ b) → WR P L Q dr X n r ((d, .bool true) :: l) w) (h2 : ¬ (a ≠ b) → WR P L Q dr X n r ((d, .bool false) :: l) w) : WR P L Q dr X n ((i, fl) :: r) l w := by
  by_cases ht : a ≠ b
  · exact r_ne_t ho hg hx hy ht (h1 ht)
  · exact r_ne_f ho hg hx hy ht (h2 ht)
theorem r_quo {k : IntKind} {xt yt : TypeId} {x y : Operand} {a b c : Int} (ho : nth L i = some ⟨some d, .binOp .quo xt x y yt, ty, pos, af, g⟩) (hg : guardOk L n l g = true) (hx : opv n l x = some (.int k a)) (hy : opv n l y = some (.int k b))
    (hb : b ≠ 0) (hc : k.wrap (a.tdiv b) = c) (h : WR P L Q dr X n r ((d, .int k c) :: l) w) : WR P L Q dr X n ((i, fl) :: r) l w :=
  r_bin ho hg hx hy (fun u _ => by subst hc; cases k <;> simp [eqGuard, binOp, Op.intDiv, hb, pure, Sem.run]) h
theorem r_rem {k : IntKind} {xt yt : TypeId} {x y : Operand} {a b c : Int} (ho : nth L i = some ⟨some d, .binOp .rem xt x y yt, ty, pos, af, g⟩) (hg : guardOk L n l g = true) (hx : opv n l x = some (.int k a)) (hy : opv n l y = some (.int k b))
    (hb : b ≠ 0) (hc : a.tmod b = c) (h : WR P L Q dr X n r ((d, .int k c) :: l) w) : WR P L Q dr X n ((i, fl) :: r) l w :=
  r_bin ho hg hx hy (fun u _ => by subst hc; cases k <;> simp [eqGuard, binOp, Op.intDiv, hb, pure, Sem.run]) h
theorem r_shl {k k' : IntKind} {xt yt : TypeId} {x y : Operand} {a b c : Int} (ho : nth L i = some ⟨some d, .binOp .shl xt x y yt, ty, pos, af, g⟩) (hg : guardOk L n l g = true) (hx : opv n l x = some (.int k a)) (hy : opv n l y = some (.int k' b))
    (hb : 0 ≤ b) (hc : k.wrap (a * 2 ^ (min b.toNat k.bits)) = c) (h : WR P L Q dr X n r ((d, .int k c) :: l) w) : WR P L Q dr X n ((i, fl) :: r) l w :=
  r_bin ho hg hx hy (fun u _ => by subst hc; simp [eqGuard, binOp, Op.shift, Int.not_lt.mpr hb, pure, Sem.run]) h
theorem r_shr {k k' : IntKind} {xt yt : TypeId} {x y : Operand} {a b c : Int} (ho : nth L i = some ⟨some d, .binOp .shr xt x y yt, ty, pos, af, g⟩) (hg : guardOk L n l g = true) (hx : opv n l x = some (.int k a)) (hy : opv n l y = some (.int k' b))
    (hb : 0 ≤ b) (hc : a.fdiv (2 ^ (min b.toNat k.bits)) = c) (h : WR P L Q dr X n r ((d, .int k c) :: l) w) : WR P L Q dr X n ((i, fl) :: r) l w :=
  r_bin ho hg hx hy (fun u _ => by subst hc; simp [eqGuard, binOp, Op.shift, Int.not_lt.mpr hb, pure, Sem.run]) h
theorem r_not {xt : TypeId} {x : Operand} {b : Bool} (ho : nth L i = some ⟨some d, .unOp .not xt x, ty, pos, af, g⟩) (hg : guardOk L n l g = true) (hx : opv n l x = some (.bool b))
    (h : WR P L Q dr X n r ((d, .bool (!b)) :: l) w) : WR P L Q dr X n ((i, fl) :: r) l w :=
  r_un ho hg hx (fun u _ => rfl) h
theorem r_cpl {k : IntKind} {xt : TypeId} {x : Operand} {a : Int} (ho : nth L i = some ⟨some d, .unOp .xor xt x, ty, pos, af, g⟩) (hg : guardOk L n l g = true) (hx : opv n l x = some (.int k a)) (hs : k.signed = false)
    (h : WR P L Q dr X n r ((d, .int k (bits .xor k k.max a)) :: l) w) : WR P L Q dr X n ((i, fl) :: r) l w :=
  r_un ho hg hx (fun u _ => by cases k <;> first | rfl | cases hs) h
theorem r_neg {k : IntKind} {xt : TypeId} {x : Operand} {a c : Int} (ho : nth L i = some ⟨some d, .unOp .neg xt x, ty, pos, af, g⟩) (hg : guardOk L n l g = true) (hx : opv n l x = some (.int k a)) (hc : k.wrap (0 - a) = c)
    (h : WR P L Q dr X n r ((d, .int k c) :: l) w) : WR P L Q dr X n ((i, fl) :: r) l w :=
  r_un ho hg hx (fun u _ => by subst hc; cases k <;> rfl) h
theorem str_beq (a b : ByteArray) : (a.toList == b.toList) = decide (a = b) := by
  rw [ByteArray.toList_eq, ByteArray.toList_eq, Bool.eq_iff_iff]
  simp only [beq_iff_eq, decide_eq_true_eq]
  constructor
  · intro h; cases a; cases b; simp at h; simp [h]
  · intro h; rw [h]
theorem r_seq {xt yt : TypeId} {x y : Operand} {a b : ByteArray} (ho : nth L i = some ⟨some d, .binOp .eql xt x y yt, ty, pos, af, g⟩) (hg : guardOk L n l g = true) (hx : opv n l x = some (.string a)) (hy : opv n l y = some (.string b))
    (h : WR P L Q dr X n r ((d, .bool (decide (a = b))) :: l) w) : WR P L Q dr X n ((i, fl) :: r) l w :=
  r_bin ho hg hx hy (fun u _ => by rw [← str_beq]; rfl) h
theorem r_sne {xt yt : TypeId} {x y : Operand} {a b : ByteArray} (ho : nth L i = some ⟨some d, .binOp .neq xt x y yt, ty, pos, af, g⟩) (hg : guardOk L n l g = true) (hx : opv n l x = some (.string a)) (hy : opv n l y = some (.string b))
    (h : WR P L Q dr X n r ((d, .bool (!decide (a = b))) :: l) w) : WR P L Q dr X n ((i, fl) :: r) l w :=
  r_bin ho hg hx hy (fun u _ => by rw [← str_beq]; rfl) h
theorem r_seq_t {xt yt : TypeId} {x y : Operand} {a b : ByteArray} (ho : nth L i = some ⟨some d, .binOp .eql xt x y yt, ty, pos, af, g⟩) (hg : guardOk L n l g = true) (hx : opv n l x = some (.string a)) (hy : opv n l y = some (.string b)) (he : a = b)
    (h : WR P L Q dr X n r ((d, .bool true) :: l) w) : WR P L Q dr X n ((i, fl) :: r) l w :=
  r_seq ho hg hx hy (by rw [decide_eq_true he]; exact h)
theorem r_sne_f {xt yt : TypeId} {x y : Operand} {a b : ByteArray} (ho : nth L i = some ⟨some d, .binOp .neq xt x y yt, ty, pos, af, g⟩) (hg : guardOk L n l g = true) (hx : opv n l x = some (.string a)) (hy : opv n l y = some (.string b)) (he : a = b)
    (h : WR P L Q dr X n r ((d, .bool false) :: l) w) : WR P L Q dr X n ((i, fl) :: r) l w :=
  r_sne ho hg hx hy (by rw [decide_eq_true he]; exact h)
theorem r_scat {xt yt : TypeId} {x y : Operand} {a b : ByteArray} (ho : nth L i = some ⟨some d, .binOp .add xt x y yt, ty, pos, af, g⟩) (hg : guardOk L n l g = true) (hx : opv n l x = some (.string a)) (hy : opv n l y = some (.string b)) (hs : a.size + b.size ≤ 9223372036854775807)
    (h : WR P L Q dr X n r ((d, .string (a ++ b)) :: l) w) : WR P L Q dr X n ((i, fl) :: r) l w := by
  refine r_bin ho hg hx hy (fun u _ => ?_) h
  have hm : ¬ ((a.size + b.size : Nat) : Int) > IntKind.i64.max := by show ¬ _ > (9223372036854775807 : Int); omega
  simp only [binOp, Op.stringOp]
  rw [if_neg hm]
  rfl
theorem run_equalIn_bool (u : World) (d : Nat) (t : TypeId) (a b : Bool) (h : P.underlying t = some .bool) : (Op.equalIn (d + 1) t (.bool a) (.bool b)).run P u = .ok (a == b) u := by
  simp [Op.equalIn, run_underlying h]
theorem run_equalIn_ptr_nil (u : World) (d : Nat) (t e : TypeId) (a : Option Addr) (h : P.underlying t = some (.pointer e)) : (Op.equalIn (d + 1) t (.pointer a) (.pointer none)).run P u = .ok a.isNone u := by
  cases a <;> simp [Op.equalIn, run_underlying h]
theorem run_equalIn_sl_nil (u : World) (d : Nat) (t e : TypeId) (a : Option Addr) (n c n' c' : Nat) (h : P.underlying t = some (.slice e)) : (Op.equalIn (d + 1) t (.slice a n c) (.slice none n' c')).run P u = .ok a.isNone u := by
  cases a <;> simp [Op.equalIn, run_underlying h]
theorem r_beq {xt yt : TypeId} {x y : Operand} {a b : Bool} (ho : nth L i = some ⟨some d, .binOp .eql xt x y yt, ty, pos, af, g⟩) (hg : guardOk L n l g = true) (hx : opv n l x = some (.bool a)) (hy : opv n l y = some (.bool b)) (ht : P.underlying xt = some .bool)
    (h : WR P L Q dr X n r ((d, .bool (a == b)) :: l) w) : WR P L Q dr X n ((i, fl) :: r) l w :=
  r_bin ho hg hx hy (fun u _ => by simp only [binOp]; simp [eqGuard, Op.equal, Op.maxDepth, run_equalIn_bool u 9999 xt a b ht]) h
theorem r_bne {xt yt : TypeId} {x y : Operand} {a b : Bool} (ho : nth L i = some ⟨some d, .binOp .neq xt x y yt, ty, pos, af, g⟩) (hg : guardOk L n l g = true) (hx : opv n l x = some (.bool a)) (hy : opv n l y = some (.bool b)) (ht : P.underlying xt = some .bool)
    (h : WR P L Q dr X n r ((d, .bool (!(a == b))) :: l) w) : WR P L Q dr X n ((i, fl) :: r) l w :=
  r_bin ho hg hx hy (fun u _ => by simp only [binOp]; simp [eqGuard, Op.equal, Op.maxDepth, run_equalIn_bool u 9999 xt a b ht]) h
theorem r_peq {xt yt e : TypeId} {x y : Operand} {a : Option Addr} (ho : nth L i = some ⟨some d, .binOp .eql xt x y yt, ty, pos, af, g⟩) (hg : guardOk L n l g = true) (hx : opv n l x = some (.pointer a)) (hy : opv n l y = some (.pointer none)) (ht : P.underlying xt = some (.pointer e))
    (h : WR P L Q dr X n r ((d, .bool a.isNone) :: l) w) : WR P L Q dr X n ((i, fl) :: r) l w :=
  r_bin ho hg hx hy (fun u _ => by simp only [binOp]; simp [eqGuard, Op.equal, Op.maxDepth, run_equalIn_ptr_nil u 9999 xt e a ht]) h
theorem r_pne {xt yt e : TypeId} {x y : Operand} {a : Option Addr} (ho : nth L i = some ⟨some d, .binOp .neq xt x y yt, ty, pos, af, g⟩) (hg : guardOk L n l g = true) (hx : opv n l x = some (.pointer a)) (hy : opv n l y = some (.pointer none)) (ht : P.underlying xt = some (.pointer e))
    (h : WR P L Q dr X n r ((d, .bool (!a.isNone)) :: l) w) : WR P L Q dr X n ((i, fl) :: r) l w :=
  r_bin ho hg hx hy (fun u _ => by simp only [binOp]; simp [eqGuard, Op.equal, Op.maxDepth, run_equalIn_ptr_nil u 9999 xt e a ht]) h
theorem r_conv {s t : TypeId} {k k' k'' : IntKind} {x : Operand} {a c : Int} (ho : nth L i = some ⟨some d, .convert s t x, ty, pos, af, g⟩) (hg : guardOk L n l g = true) (hx : opv n l x = some (.int k a)) (hs : P.underlying s = some (.int k')) (ht : P.underlying t = some (.int k''))
    (hc : k''.wrap a = c) (h : WR P L Q dr X n r ((d, .int k'' c) :: l) w) : WR P L Q dr X n ((i, fl) :: r) l w :=
  r_convert ho hg hx (fun u _ => by subst hc; simp [convert, underlying, program, Sem.run_bind, Sem.run, hs, ht, Conv.intToInt, pure]) h

/-- An operation of two values, its operands known. -/
structure BG (P : Program) (L : List Oper) (Q : Exit → Act → World → Prop) (dr : Bool) (X : Nat → Prop) (n : Nat) (r : List (Nat × Bool)) (d : Nat) (op : BinOp) (xt : TypeId) (x y : Operand) (u1 u2 : Value) (l : List (Nat × Value)) (w : World) : Prop where
  out : ∃ v, (∀ u, St dr X w u → (do eqGuard op xt x y u1 u2; binOp op xt u1 u2 : Sem Value).run P u = .ok v u) ∧ WR P L Q dr X n r ((d, v) :: l) w
theorem g_bin {op : BinOp} {xt yt : TypeId} {x y : Operand} {u1 u2 : Value} (ho : nth L i = some ⟨some d, .binOp op xt x y yt, ty, pos, af, g⟩) (hg : guardOk L n l g = true) (hx : opv n l x = some u1) (hy : opv n l y = some u2)
    (h : BG P L Q dr X n r d op xt x y u1 u2 l w) : WR P L Q dr X n ((i, fl) :: r) l w := by
  obtain ⟨v, hv, h⟩ := h
  exact r_bin ho hg hx hy hv h
structure BL (P : Program) (L : List Oper) (Q : Exit → Act → World → Prop) (dr : Bool) (X : Nat → Prop) (n : Nat) (r : List (Nat × Bool)) (d : Nat) (b : Builtin) (ats : Array TypeId) (ty : TypeId) (cs : Array Bool) (us : List Value) (l : List (Nat × Value)) (w : World) : Prop where
  out : ∃ v, (∀ u, St dr X w u → (builtin b ats ty cs us.toArray).run P u = .ok (.value v) u) ∧ WR P L Q dr X n r ((d, v) :: l) w
theorem g_blt {b : Builtin} {ats : Array TypeId} {xs : List Operand} {us : List Value} (ho : nth L i = some ⟨some d, .call { callee := .builtin b, args := xs.toArray, argTypes := ats }, ty, pos, af, g⟩) (hg : guardOk L n l g = true) (hx : valsOf n l xs = some us)
    (h : BL P L Q dr X n r d b ats ty (xs.map isConst).toArray us l w) : WR P L Q dr X n ((i, fl) :: r) l w := by
  obtain ⟨v, hv, h⟩ := h
  exact r_builtin ho hg hx hv h
variable {xt : TypeId} {x y : Operand}
theorem b_add {k : IntKind} {a b c : Int} (hc : k.wrap (a + b) = c) (h : WR P L Q dr X n r ((d, .int k c) :: l) w) : BG P L Q dr X n r d .add xt x y (.int k a) (.int k b) l w :=
  ⟨_, fun u _ => by subst hc; cases k <;> rfl, h⟩
theorem b_sub {k : IntKind} {a b c : Int} (hc : k.wrap (a - b) = c) (h : WR P L Q dr X n r ((d, .int k c) :: l) w) : BG P L Q dr X n r d .sub xt x y (.int k a) (.int k b) l w :=
  ⟨_, fun u _ => by subst hc; cases k <;> rfl, h⟩
theorem b_mul {k : IntKind} {a b c : Int} (hc : k.wrap (a * b) = c) (h : WR P L Q dr X n r ((d, .int k c) :: l) w) : BG P L Q dr X n r d .mul xt x y (.int k a) (.int k b) l w :=
  ⟨_, fun u _ => by subst hc; cases k <;> rfl, h⟩
theorem b_and {k : IntKind} {a b c : Int} (hc : bits .and k a b = c) (h : WR P L Q dr X n r ((d, .int k c) :: l) w) : BG P L Q dr X n r d .and xt x y (.int k a) (.int k b) l w :=
  ⟨_, fun u _ => by subst hc; cases k <;> rfl, h⟩
theorem b_or {k : IntKind} {a b c : Int} (hc : bits .or k a b = c) (h : WR P L Q dr X n r ((d, .int k c) :: l) w) : BG P L Q dr X n r d .or xt x y (.int k a) (.int k b) l w :=
  ⟨_, fun u _ => by subst hc; cases k <;> rfl, h⟩
theorem b_xor {k : IntKind} {a b c : Int} (hc : bits .xor k a b = c) (h : WR P L Q dr X n r ((d, .int k c) :: l) w) : BG P L Q dr X n r d .xor xt x y (.int k a) (.int k b) l w :=
  ⟨_, fun u _ => by subst hc; cases k <;> rfl, h⟩
theorem b_andNot {k : IntKind} {a b c : Int} (hc : bits .andNot k a b = c) (h : WR P L Q dr X n r ((d, .int k c) :: l) w) : BG P L Q dr X n r d .andNot xt x y (.int k a) (.int k b) l w :=
  ⟨_, fun u _ => by subst hc; cases k <;> rfl, h⟩
theorem b_lt {k : IntKind} {a b : Int} (h : WR P L Q dr X n r ((d, .bool (decide (a < b))) :: l) w) : BG P L Q dr X n r d .lss xt x y (.int k a) (.int k b) l w :=
  ⟨_, fun u _ => by cases k <;> rfl, h⟩
theorem b_lt_t {k : IntKind} {a b : Int} (ht : (a < b)) (h : WR P L Q dr X n r ((d, .bool true) :: l) w) : BG P L Q dr X n r d .lss xt x y (.int k a) (.int k b) l w :=
  b_lt (by rw [show decide (a < b) = true by simpa using ht]; exact h)
theorem b_lt_f {k : IntKind} {a b : Int} (ht : ¬ (a < b)) (h : WR P L Q dr X n r ((d, .bool false) :: l) w) : BG P L Q dr X n r d .lss xt x y (.int k a) (.int k b) l w :=
  b_lt (by rw [show decide (a < b) = false by simpa using ht]; exact h)
theorem b_lt_s {k : IntKind} {a b : Int} (h1 : (a < b) → WR P L Q dr X n r ((d, .bool true) :: l) w) (h2 : ¬ (a < b) → WR P L Q dr X n r ((d, .bool false) :: l) w) : BG P L Q dr X n r d .lss xt x y (.int k a) (.int k b) l w := by
  by_cases ht : a < b
  · exact b_lt_t ht (h1 ht)
  · exact b_lt_f ht (h2 ht)
theorem b_le {k : IntKind} {a b : Int} (h : WR P L Q dr X n r ((d, .bool (decide (a ≤ b))) :: l) w) : BG P L Q dr X n r d .leq xt x y (.int k a) (.int k b) l w :=
  ⟨_, fun u _ => by cases k <;> rfl, h⟩
theorem b_le_t {k : IntKind} {a b : Int} (ht : (a ≤ b)) (h : WR P L Q dr X n r ((d, .bool true) :: l) w) : BG P L Q dr X n r d .leq xt x y (.int k a) (.int k b) l w :=
  b_le (by rw [show decide (a ≤ b) = true by simpa using ht]; exact h)
theorem b_le_f {k : IntKind} {a b : Int} (ht : ¬ (a ≤ b)) (h : WR P L Q dr X n r ((d, .bool false) :: l) w) : BG P L Q dr X n r d .leq xt x y (.int k a) (.int k b) l w :=
  b_le (by rw [show decide (a ≤ b) = false by simpa using ht]; exact h)
theorem b_le_s {k : IntKind} {a b : Int} (h1 : (a ≤ b) → WR P L Q dr X n r ((d, .bool true) :: l) w) (h2 : ¬ (a ≤ b) → WR P L Q dr X n r ((d, .bool false) :: l) w) : BG P L Q dr X n r d .leq xt x y (.int k a) (.int k b) l w := by
  by_cases ht : a ≤ b
  · exact b_le_t ht (h1 ht)
  · exact b_le_f ht (h2 ht)
theorem b_gt {k : IntKind} {a b : Int} (h : WR P L Q dr X n r ((d, .bool (decide (a > b))) :: l) w) : BG P L Q dr X n r d .gtr xt x y (.int k a) (.int k b) l w :=
  ⟨_, fun u _ => by cases k <;> rfl, h⟩
theorem b_gt_t {k : IntKind} {a b : Int} (ht : (b < a)) (h : WR P L Q dr X n r ((d, .bool true) :: l) w) : BG P L Q dr X n r d .gtr xt x y (.int k a) (.int k b) l w :=
  b_gt (by rw [show decide (a > b) = true by simpa using ht]; exact h)
theorem b_gt_f {k : IntKind} {a b : Int} (ht : ¬ (b < a)) (h : WR P L Q dr X n r ((d, .bool false) :: l) w) : BG P L Q dr X n r d .gtr xt x y (.int k a) (.int k b) l w :=
  b_gt (by rw [show decide (a > b) = false by simpa using ht]; exact h)
theorem b_gt_s {k : IntKind} {a b : Int} (h1 : (b < a) → WR P L Q dr X n r ((d, .bool true) :: l) w) (h2 : ¬ (b < a) → WR P L Q dr X n r ((d, .bool false) :: l) w) : BG P L Q dr X n r d .gtr xt x y (.int k a) (.int k b) l w := by
  by_cases ht : b < a
  · exact b_gt_t ht (h1 ht)
  · exact b_gt_f ht (h2 ht)
theorem b_ge {k : IntKind} {a b : Int} (h : WR P L Q dr X n r ((d, .bool (decide (a ≥ b))) :: l) w) : BG P L Q dr X n r d .geq xt x y (.int k a) (.int k b) l w :=
  ⟨_, fun u _ => by cases k <;> rfl, h⟩
theorem b_ge_t {k : IntKind} {a b : Int} (ht : (b ≤ a)) (h : WR P L Q dr X n r ((d, .bool true) :: l) w) : BG P L Q dr X n r d .geq xt x y (.int k a) (.int k b) l w :=
  b_ge (by rw [show decide (a ≥ b) = true by simpa using ht]; exact h)
theorem b_ge_f {k : IntKind} {a b : Int} (ht : ¬ (b ≤ a)) (h : WR P L Q dr X n r ((d, .bool false) :: l) w) : BG P L Q dr X n r d .geq xt x y (.int k a) (.int k b) l w :=
  b_ge (by rw [show decide (a ≥ b) = false by simpa using ht]; exact h)
theorem b_ge_s {k : IntKind} {a b : Int} (h1 : (b ≤ a) → WR P L Q dr X n r ((d, .bool true) :: l) w) (h2 : ¬ (b ≤ a) → WR P L Q dr X n r ((d, .bool false) :: l) w) : BG P L Q dr X n r d .geq xt x y (.int k a) (.int k b) l w := by
  by_cases ht : b ≤ a
  · exact b_ge_t ht (h1 ht)
  · exact b_ge_f ht (h2 ht)
theorem b_eq {k : IntKind} {a b : Int} (h : WR P L Q dr X n r ((d, .bool ((a == b))) :: l) w) : BG P L Q dr X n r d .eql xt x y (.int k a) (.int k b) l w :=
  ⟨_, fun u _ => by cases k <;> rfl, h⟩
theorem b_eq_t {k : IntKind} {a b : Int} (ht : (a = b)) (h : WR P L Q dr X n r ((d, .bool true) :: l) w) : BG P L Q dr X n r d .eql xt x y (.int k a) (.int k b) l w :=
  b_eq (by rw [show (a == b) = true by simpa using ht]; exact h)
theorem b_eq_f {k : IntKind} {a b : Int} (ht : ¬ (a = b)) (h : WR P L Q dr X n r ((d, .bool false) :: l) w) : BG P L Q dr X n r d .eql xt x y (.int k a) (.int k b) l w :=
  b_eq (by rw [show (a == b) = false by simpa using ht]; exact h)
theorem b_eq_s {k : IntKind} {a b : Int} (h1 : (a = b) → WR P L Q dr X n r ((d, .bool true) :: l) w) (h2 : ¬ (a = b) → WR P L Q dr X n r ((d, .bool false) :: l) w) : BG P L Q dr X n r d .eql xt x y (.int k a) (.int k b) l w := by
  by_cases ht : a = b
  · exact b_eq_t ht (h1 ht)
  · exact b_eq_f ht (h2 ht)
theorem b_ne {k : IntKind} {a b : Int} (h : WR P L Q dr X n r ((d, .bool ((a != b))) :: l) w) : BG P L Q dr X n r d .neq xt x y (.int k a) (.int k b) l w :=
  ⟨_, fun u _ => by cases k <;> rfl, h⟩
theorem b_ne_t {k : IntKind} {a b : Int} (ht : (a ≠ b)) (h : WR P L Q dr X n r ((d, .bool true) :: l) w) : BG P L Q dr X n r d .neq xt x y (.int k a) (.int k b) l w :=
  b_ne (by rw [show (a != b) = true by simpa using ht]; exact h)
theorem b_ne_f {k : IntKind} {a b : Int} (ht : ¬ (a ≠ b)) (h : WR P L Q dr X n r ((d, .bool false) :: l) w) : BG P L Q dr X n r d .neq xt x y (.int k a) (.int k b) l w :=
  b_ne (by rw [show (a != b) = false by simpa using ht]; exact h)
theorem b_ne_s {k : IntKind} {a b : Int} (h1 : (a ≠ b) → WR P L Q dr X n r ((d, .bool true) :: l) w) (h2 : ¬ (a ≠ b) → WR P L Q dr X n r ((d, .bool false) :: l) w) : BG P L Q dr X n r d .neq xt x y (.int k a) (.int k b) l w := by
  by_cases ht : a ≠ b
  · exact b_ne_t ht (h1 ht)
  · exact b_ne_f ht (h2 ht)
theorem b_quo {k : IntKind} {a b c : Int} (hb : b ≠ 0) (hc : k.wrap (a.tdiv b) = c) (h : WR P L Q dr X n r ((d, .int k c) :: l) w) : BG P L Q dr X n r d .quo xt x y (.int k a) (.int k b) l w :=
  ⟨_, fun u _ => by subst hc; cases k <;> simp [eqGuard, binOp, Op.intDiv, hb, pure, Sem.run], h⟩
theorem b_rem {k : IntKind} {a b c : Int} (hb : b ≠ 0) (hc : a.tmod b = c) (h : WR P L Q dr X n r ((d, .int k c) :: l) w) : BG P L Q dr X n r d .rem xt x y (.int k a) (.int k b) l w :=
  ⟨_, fun u _ => by subst hc; cases k <;> simp [eqGuard, binOp, Op.intDiv, hb, pure, Sem.run], h⟩
theorem b_shl {k k' : IntKind} {a b c : Int} (hb : 0 ≤ b) (hc : k.wrap (a * 2 ^ (min b.toNat k.bits)) = c) (h : WR P L Q dr X n r ((d, .int k c) :: l) w) : BG P L Q dr X n r d .shl xt x y (.int k a) (.int k' b) l w :=
  ⟨_, fun u _ => by subst hc; simp [eqGuard, binOp, Op.shift, Int.not_lt.mpr hb, pure, Sem.run], h⟩
theorem b_shr {k k' : IntKind} {a b c : Int} (hb : 0 ≤ b) (hc : a.fdiv (2 ^ (min b.toNat k.bits)) = c) (h : WR P L Q dr X n r ((d, .int k c) :: l) w) : BG P L Q dr X n r d .shr xt x y (.int k a) (.int k' b) l w :=
  ⟨_, fun u _ => by subst hc; simp [eqGuard, binOp, Op.shift, Int.not_lt.mpr hb, pure, Sem.run], h⟩
theorem b_seq {a b : ByteArray} (h : WR P L Q dr X n r ((d, .bool (decide (a = b))) :: l) w) : BG P L Q dr X n r d .eql xt x y (.string a) (.string b) l w :=
  ⟨_, fun u _ => by rw [← str_beq]; rfl, h⟩
theorem b_sne {a b : ByteArray} (h : WR P L Q dr X n r ((d, .bool (!decide (a = b))) :: l) w) : BG P L Q dr X n r d .neq xt x y (.string a) (.string b) l w :=
  ⟨_, fun u _ => by rw [← str_beq]; rfl, h⟩
theorem b_seq_t {a b : ByteArray} (he : a = b) (h : WR P L Q dr X n r ((d, .bool true) :: l) w) : BG P L Q dr X n r d .eql xt x y (.string a) (.string b) l w :=
  b_seq (by rw [decide_eq_true he]; exact h)
theorem b_sne_f {a b : ByteArray} (he : a = b) (h : WR P L Q dr X n r ((d, .bool false) :: l) w) : BG P L Q dr X n r d .neq xt x y (.string a) (.string b) l w :=
  b_sne (by rw [decide_eq_true he]; exact h)
theorem b_scat {a b : ByteArray} (hs : a.size + b.size ≤ 9223372036854775807) (h : WR P L Q dr X n r ((d, .string (a ++ b)) :: l) w) : BG P L Q dr X n r d .add xt x y (.string a) (.string b) l w := by
  refine ⟨_, fun u _ => ?_, h⟩
  have hm : ¬ ((a.size + b.size : Nat) : Int) > IntKind.i64.max := by show ¬ _ > (9223372036854775807 : Int); omega
  simp only [binOp, Op.stringOp]
  rw [if_neg hm]
  rfl
theorem b_beq {a b : Bool} (ht : P.underlying xt = some .bool) (h : WR P L Q dr X n r ((d, .bool (a == b)) :: l) w) : BG P L Q dr X n r d .eql xt x y (.bool a) (.bool b) l w :=
  ⟨_, fun u _ => by simp only [binOp]; simp [eqGuard, Op.equal, Op.maxDepth, run_equalIn_bool u 9999 xt a b ht], h⟩
theorem b_bne {a b : Bool} (ht : P.underlying xt = some .bool) (h : WR P L Q dr X n r ((d, .bool (!(a == b))) :: l) w) : BG P L Q dr X n r d .neq xt x y (.bool a) (.bool b) l w :=
  ⟨_, fun u _ => by simp only [binOp]; simp [eqGuard, Op.equal, Op.maxDepth, run_equalIn_bool u 9999 xt a b ht], h⟩
theorem b_beq_t {a b : Bool} (ht : P.underlying xt = some .bool) (he : a = b) (h : WR P L Q dr X n r ((d, .bool true) :: l) w) : BG P L Q dr X n r d .eql xt x y (.bool a) (.bool b) l w :=
  b_beq ht (by subst he; simpa using h)
theorem b_bne_f {a b : Bool} (ht : P.underlying xt = some .bool) (he : a = b) (h : WR P L Q dr X n r ((d, .bool false) :: l) w) : BG P L Q dr X n r d .neq xt x y (.bool a) (.bool b) l w :=
  b_bne ht (by subst he; simpa using h)
theorem b_peq {e : TypeId} {a : Option Addr} (ht : P.underlying xt = some (.pointer e)) (h : WR P L Q dr X n r ((d, .bool a.isNone) :: l) w) : BG P L Q dr X n r d .eql xt x y (.pointer a) (.pointer none) l w :=
  ⟨_, fun u _ => by simp only [binOp]; simp [eqGuard, Op.equal, Op.maxDepth, run_equalIn_ptr_nil u 9999 xt e a ht], h⟩
theorem b_pne {e : TypeId} {a : Option Addr} (ht : P.underlying xt = some (.pointer e)) (h : WR P L Q dr X n r ((d, .bool (!a.isNone)) :: l) w) : BG P L Q dr X n r d .neq xt x y (.pointer a) (.pointer none) l w :=
  ⟨_, fun u _ => by simp only [binOp]; simp [eqGuard, Op.equal, Op.maxDepth, run_equalIn_ptr_nil u 9999 xt e a ht], h⟩
theorem b_sleq {e : TypeId} {a : Option Addr} {n1 c1 n2 c2 : Nat} (ht : P.underlying xt = some (.slice e)) (h : WR P L Q dr X n r ((d, .bool a.isNone) :: l) w) : BG P L Q dr X n r d .eql xt x y (.slice a n1 c1) (.slice none n2 c2) l w :=
  ⟨_, fun u _ => by simp only [binOp]; simp [eqGuard, Op.equal, Op.maxDepth, run_equalIn_sl_nil u 9999 xt e a n1 c1 n2 c2 ht], h⟩
theorem b_slne {e : TypeId} {a : Option Addr} {n1 c1 n2 c2 : Nat} (ht : P.underlying xt = some (.slice e)) (h : WR P L Q dr X n r ((d, .bool (!a.isNone)) :: l) w) : BG P L Q dr X n r d .neq xt x y (.slice a n1 c1) (.slice none n2 c2) l w :=
  ⟨_, fun u _ => by simp only [binOp]; simp [eqGuard, Op.equal, Op.maxDepth, run_equalIn_sl_nil u 9999 xt e a n1 c1 n2 c2 ht], h⟩
/-! Which judgement stands there. -/
theorem g_wr {pl : List (Nat × Bool)} (h : WR P L Q dr X n pl l w) : WR P L Q dr X n pl l w := h
theorem g_wc {c : Code} (h : WC P c Q n l w) : WC P c Q n l w := h
theorem g_wx {e : Exit} (h : WX Q e n l w) : WX Q e n l w := h

end
end Go.Proofs.Ytpnkgmmaanpgiaa
