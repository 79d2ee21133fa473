/- The steps of a walk by a plan: the frame is the one at the region's start and the list of what was put since. -/
import Derived.Test.YthgigkjnbflnpaaChainLaw
import Derived.WalkKit
import Derived.Lib.Walk
namespace Go.Proofs.Ythgigkjnbflnpaa
open Go
def nth {α : Type} : List α → Nat → Option α
  | [], _ => none
  | x :: _, 0 => some x
  | _ :: r, n + 1 => nth r n
theorem nth_eq {α : Type} : ∀ (l : List α) (i : Nat), nth l i = l[i]?
  | [], i => by simp [nth]
  | x :: r, 0 => by simp [nth]
  | x :: r, i + 1 => by simp [nth, nth_eq r i]
/-- The frame behind what was put (the last first). -/
def env (a : Act) : List (Nat × Value) → Act
  | [] => a
  | (d, v) :: r => (env a r).put (some d) v
def getE (b : List Value) (n : Nat) : List (Nat × Value) → Nat → Option Value
  | [], t => nth b t
  | (d, v) :: r, t => cond (Nat.beq d t && Nat.ble (t + 1) n) (some v) (getE b n r t)
structure Fits (a : Act) (n : Nat) : Prop where
  out : Nat.beq a.tmps.toList.length n = true
theorem env_size (a : Act) : ∀ l, (env a l).tmps.size = a.tmps.size
  | [] => rfl
  | (d, v) :: r => by simp [env, Act.put, env_size a r]
theorem getE_spec (a : Act) {n : Nat} (hn : Fits a n) : ∀ (l : List (Nat × Value)) (t : Nat) (v : Value), getE a.tmps.toList n l t = some v → (env a l).tmps[t]? = some v
  | [], t, v, h => by
    simp only [getE, nth_eq] at h
    simpa [env] using h
  | (d, u) :: r, t, v, h => by
    simp only [getE] at h
    have hs := env_size a r
    have hn' : a.tmps.size = n := by simpa using Nat.eq_of_beq_eq_true hn.out
    simp only [env, Act.put]
    cases hb : (Nat.beq d t && Nat.ble (t + 1) n) with
    | true =>
      simp only [hb, cond_true] at h
      simp only [Bool.and_eq_true] at hb
      have hd := Nat.eq_of_beq_eq_true hb.1
      have ht := Nat.le_of_ble_eq_true hb.2
      subst hd
      rw [Array.getElem?_setIfInBounds_self_of_lt (by omega)]; exact h
    | false =>
      simp only [hb, cond_false] at h
      by_cases hd : d = t
      · subst hd
        exfalso
        have ih := getE_spec a hn r d v h
        have hlt := (Array.getElem?_eq_some_iff.1 ih).1
        rw [hs] at hlt
        have hb2 : Nat.ble (d + 1) n = true := Nat.ble_eq_true_of_le (by omega)
        rw [hb2, Nat.beq_refl] at hb
        cases hb
      · rw [Array.getElem?_setIfInBounds_ne hd]; exact getE_spec a hn r t v h
def opv (b : List Value) (n : Nat) (l : List (Nat × Value)) : Operand → Option Value
  | .tmp t => getE b n l t
  | .const v => some v
  | .global g => some (.pointer (some ⟨g, 0, none⟩))
  | .func f => some (.func (.func f) #[] #[])
theorem opv_spec {a : Act} {n : Nat} (hn : Fits a n) {l : List (Nat × Value)} {x : Operand} {v : Value} (h : opv a.tmps.toList n l x = some v) : (env a l).eval x = v := by
  cases x with
  | tmp t => have := getE_spec a hn l t v h; simp [Act.eval, this]
  | const c => simpa [opv, Act.eval] using h
  | global g => simpa [opv, Act.eval] using h
  | func f => simpa [opv, Act.eval] using h
def guardOk (L : List Oper) (b : List Value) (n : Nat) (l : List (Nat × Value)) : Option (Nat × Bool) → Bool
  | none => true
  | some (g, want) => match nth L g with
    | some o => match o.dst with
      | some t => match getE b n l t with
        | some (.bool x) => x == want
        | _ => false
      | none => false
    | none => false
theorem guardOk_spec {L : List Oper} {a : Act} {n : Nat} (hn : Fits a n) {l : List (Nat × Value)} {o : Oper} (h : guardOk L a.tmps.toList n l o.guard = true) :
    Region.wanted o (yielded L.toArray (env a l).tmps) = true := by
  unfold Region.wanted
  cases hg : o.guard with
  | none => rfl
  | some gw =>
    obtain ⟨g, want⟩ := gw
    rw [hg] at h
    simp only [guardOk] at h
    split at h
    · rename_i og hog
      split at h
      · rename_i t ht
        split at h
        · rename_i x hx
          have h1 := getE_spec a hn l t _ hx
          have h2 : yielded L.toArray (env a l).tmps g = some x := by
            unfold yielded
            rw [nth_eq] at hog
            simp [hog, ht, h1]
          simp only [h2]
          simpa using h
        · cases h
      · cases h
    · cases h
section
variable {P : Program} {L : List Oper} {Q : Exit → Act → World → Prop} {S : World → Prop} {n : Nat} {a : Act}
/-- The walk, the frame as a list. -/
structure wpE (P : Program) (L : List Oper) (Q : Exit → Act → World → Prop) (S : World → Prop) (a : Act) (pl : List (Nat × Bool)) (l : List (Nat × Value)) (w : World) : Prop where
  out : wpPlan P L.toArray Q S pl (env a l) w
theorem wp_region_env {id : Nat} {w : World} (n : Nat) (S : World → Prop) (pl : List (Nat × Bool)) (hm : P.follows .mixedOrders = true) (hs : Region.noSelect L.toArray = true)
    (hok : planOk .any L.toArray pl = true) (hn : Nat.beq a.tmps.toList.length n = true) (hQ : ∀ c a d v w, Q (.panic c) (a.put d v) w → Q (.panic c) a w) (hS : S w.drew)
    (h : Fits a n → wpE P L Q S a pl [] w.drew) : (Code.region id L.toArray true).wp P Q a w :=
  wp_region_plan S pl hm hs hok hQ hS (h ⟨hn⟩).out
variable (hn : Fits a n) {i : Nat} {r : List (Nat × Bool)} {l : List (Nat × Value)} {w : World} {d : Nat} {ty : TypeId} {pos : String} {af : Array Edge} {g : Option (Nat × Bool)}
include hn
theorem e_float {o : Oper} {v : Value} (ho : nth L i = some o) (hd : o.dst = some d) (hg : guardOk L a.tmps.toList n l o.guard = true) (hv : ∀ w, S w → (execOp (env a l).eval o).run P w = .ok (.value v) w)
    (h : wpE P L Q S a r ((d, v) :: l) w) : wpE P L Q S a ((i, true) :: r) l w := by
  refine ⟨⟨o, v, by rw [nth_eq] at ho; simpa using ho, Or.inl ⟨guardOk_spec hn hg, hv⟩, ?_⟩⟩
  rw [hd]; exact h.out
theorem e_move {x : Operand} {v : Value} (ho : nth L i = some ⟨some d, .move x, ty, pos, af, g⟩) (hg : guardOk L a.tmps.toList n l g = true) (hx : opv a.tmps.toList n l x = some v)
    (h : wpE P L Q S a r ((d, v) :: l) w) : wpE P L Q S a ((i, true) :: r) l w :=
  e_float hn ho rfl hg (fun w _ => by simp only [execOp, opv_spec hn hx]; rfl) h
theorem e_assign {x : Operand} {v : Value} (ho : nth L i = some ⟨some d, .assign x, ty, pos, af, g⟩) (hg : guardOk L a.tmps.toList n l g = true) (hx : opv a.tmps.toList n l x = some v)
    (h : wpE P L Q S a r ((d, v) :: l) w) : wpE P L Q S a ((i, true) :: r) l w :=
  e_float hn ho rfl hg (fun w _ => by simp only [execOp, opv_spec hn hx]; rfl) h
theorem e_pick {c x y : Operand} {v : Value} (ho : nth L i = some ⟨some d, .pick c x y, ty, pos, af, g⟩) (hg : guardOk L a.tmps.toList n l g = true) (hc : opv a.tmps.toList n l c = some (.bool true)) (hx : opv a.tmps.toList n l x = some v)
    (h : wpE P L Q S a r ((d, v) :: l) w) : wpE P L Q S a ((i, true) :: r) l w :=
  e_float hn ho rfl hg (fun w _ => by simp only [execOp, opv_spec hn hc, opv_spec hn hx]; rfl) h
theorem e_pick_not {c x y : Operand} {v : Value} (ho : nth L i = some ⟨some d, .pick c x y, ty, pos, af, g⟩) (hg : guardOk L a.tmps.toList n l g = true) (hc : opv a.tmps.toList n l c = some (.bool false)) (hy : opv a.tmps.toList n l y = some v)
    (h : wpE P L Q S a r ((d, v) :: l) w) : wpE P L Q S a ((i, true) :: r) l w :=
  e_float hn ho rfl hg (fun w _ => by simp only [execOp, opv_spec hn hc, opv_spec hn hy]; rfl) h
theorem e_extract {x : Operand} {k : Nat} {vs : Array Value} {v : Value} (ho : nth L i = some ⟨some d, .extract x k, ty, pos, af, g⟩) (hg : guardOk L a.tmps.toList n l g = true) (hx : opv a.tmps.toList n l x = some (.tuple vs)) (hk : nth vs.toList k = some v)
    (h : wpE P L Q S a r ((d, v) :: l) w) : wpE P L Q S a ((i, true) :: r) l w :=
  e_float hn ho rfl hg (fun w _ => by rw [nth_eq] at hk; simp only [execOp, opv_spec hn hx, Instr.extract]; rw [show vs[k]? = some v by simpa using hk]; rfl) h
omit hn in
theorem run_value (s : Sem Value) (w : World) (v : Value) (h : s.run P w = .ok v w) : (do pure (.value (← s)) : Sem Next).run P w = .ok (.value v) w := by
  simp only [Sem.run_bind, h]; rfl
theorem e_bin {op : BinOp} {xt yt : TypeId} {x y : Operand} {u1 u2 v : Value} (ho : nth L i = some ⟨some d, .binOp op xt x y yt, ty, pos, af, g⟩) (hg : guardOk L a.tmps.toList n l g = true) (hx : opv a.tmps.toList n l x = some u1) (hy : opv a.tmps.toList n l y = some u2)
    (hv : ∀ w, S w → (do eqGuard op xt x y u1 u2; binOp op xt u1 u2 : Sem Value).run P w = .ok v w)
    (h : wpE P L Q S a r ((d, v) :: l) w) : wpE P L Q S a ((i, true) :: r) l w :=
  e_float hn ho rfl hg (fun w hw => by simp only [execOp, opv_spec hn hx, opv_spec hn hy]; exact run_value _ _ _ (hv w hw)) h
theorem e_un {op : UnOp} {xt : TypeId} {x : Operand} {u v : Value} (ho : nth L i = some ⟨some d, .unOp op xt x, ty, pos, af, g⟩) (hg : guardOk L a.tmps.toList n l g = true) (hx : opv a.tmps.toList n l x = some u)
    (hv : ∀ w, S w → (Op.unary op u).run P w = .ok v w)
    (h : wpE P L Q S a r ((d, v) :: l) w) : wpE P L Q S a ((i, true) :: r) l w :=
  e_float hn ho rfl hg (fun w hw => by simp only [execOp, opv_spec hn hx]; exact run_value _ _ _ (hv w hw)) h
theorem e_convert {src dst : TypeId} {x : Operand} {u v : Value} (ho : nth L i = some ⟨some d, .convert src dst x, ty, pos, af, g⟩) (hg : guardOk L a.tmps.toList n l g = true) (hx : opv a.tmps.toList n l x = some u)
    (hv : ∀ w, S w → (convert src dst u).run P w = .ok v w)
    (h : wpE P L Q S a r ((d, v) :: l) w) : wpE P L Q S a ((i, true) :: r) l w :=
  e_float hn ho rfl hg (fun w hw => by simp only [execOp, opv_spec hn hx]; exact run_value _ _ _ (hv w hw)) h
theorem e_load {t : TypeId} {x : Operand} {u v : Value} (ho : nth L i = some ⟨some d, .load t x, ty, pos, af, g⟩) (hg : guardOk L a.tmps.toList n l g = true) (hx : opv a.tmps.toList n l x = some u)
    (hv : ∀ w, S w → (Instr.loadAt t u).run P w = .ok v w)
    (h : wpE P L Q S a r ((d, v) :: l) w) : wpE P L Q S a ((i, true) :: r) l w :=
  e_float hn ho rfl hg (fun w hw => by simp only [execOp, opv_spec hn hx]; exact run_value _ _ _ (hv w hw)) h
theorem e_fieldAddr {s : TypeId} {k : Nat} {x : Operand} {u v : Value} (ho : nth L i = some ⟨some d, .fieldAddr s x k, ty, pos, af, g⟩) (hg : guardOk L a.tmps.toList n l g = true) (hx : opv a.tmps.toList n l x = some u)
    (hv : ∀ w, S w → (Instr.fieldAt s u k).run P w = .ok v w)
    (h : wpE P L Q S a r ((d, v) :: l) w) : wpE P L Q S a ((i, true) :: r) l w :=
  e_float hn ho rfl hg (fun w hw => by simp only [execOp, opv_spec hn hx]; exact run_value _ _ _ (hv w hw)) h
theorem e_field {s : TypeId} {k : Nat} {x : Operand} {u v : Value} (ho : nth L i = some ⟨some d, .field s x k, ty, pos, af, g⟩) (hg : guardOk L a.tmps.toList n l g = true) (hx : opv a.tmps.toList n l x = some u)
    (hv : ∀ w, S w → (Instr.field s u k).run P w = .ok v w)
    (h : wpE P L Q S a r ((d, v) :: l) w) : wpE P L Q S a ((i, true) :: r) l w :=
  e_float hn ho rfl hg (fun w hw => by simp only [execOp, opv_spec hn hx]; exact run_value _ _ _ (hv w hw)) h
theorem e_indexAddr {t : TypeId} {x y : Operand} {u1 u2 v : Value} (ho : nth L i = some ⟨some d, .indexAddr t x y, ty, pos, af, g⟩) (hg : guardOk L a.tmps.toList n l g = true) (hx : opv a.tmps.toList n l x = some u1) (hy : opv a.tmps.toList n l y = some u2)
    (hv : ∀ w, S w → (Instr.indexAt t u1 u2).run P w = .ok v w)
    (h : wpE P L Q S a r ((d, v) :: l) w) : wpE P L Q S a ((i, true) :: r) l w :=
  e_float hn ho rfl hg (fun w hw => by simp only [execOp, opv_spec hn hx, opv_spec hn hy]; exact run_value _ _ _ (hv w hw)) h
theorem e_index {t : TypeId} {x y : Operand} {u1 u2 v : Value} (ho : nth L i = some ⟨some d, .index t x y, ty, pos, af, g⟩) (hg : guardOk L a.tmps.toList n l g = true) (hx : opv a.tmps.toList n l x = some u1) (hy : opv a.tmps.toList n l y = some u2)
    (hv : ∀ w, S w → (Instr.index t u1 u2).run P w = .ok v w)
    (h : wpE P L Q S a r ((d, v) :: l) w) : wpE P L Q S a ((i, true) :: r) l w :=
  e_float hn ho rfl hg (fun w hw => by simp only [execOp, opv_spec hn hx, opv_spec hn hy]; exact run_value _ _ _ (hv w hw)) h
/-- x[:], x[lo:], x[:hi], x[lo:hi]. -/
theorem e_slice {t : TypeId} {x : Operand} {u v : Value} (ho : nth L i = some ⟨some d, .slice t x none none none, ty, pos, af, g⟩) (hg : guardOk L a.tmps.toList n l g = true) (hx : opv a.tmps.toList n l x = some u)
    (hv : ∀ w, S w → (Instr.sliceAt t u none none none).run P w = .ok v w)
    (h : wpE P L Q S a r ((d, v) :: l) w) : wpE P L Q S a ((i, true) :: r) l w :=
  e_float hn ho rfl hg (fun w hw => by simp only [execOp, opv_spec hn hx, Option.map_none]; exact run_value _ _ _ (hv w hw)) h
theorem e_slice_lo {t : TypeId} {x y : Operand} {u u1 v : Value} (ho : nth L i = some ⟨some d, .slice t x (some y) none none, ty, pos, af, g⟩) (hg : guardOk L a.tmps.toList n l g = true) (hx : opv a.tmps.toList n l x = some u) (hy : opv a.tmps.toList n l y = some u1)
    (hv : ∀ w, S w → (Instr.sliceAt t u (some u1) none none).run P w = .ok v w)
    (h : wpE P L Q S a r ((d, v) :: l) w) : wpE P L Q S a ((i, true) :: r) l w :=
  e_float hn ho rfl hg (fun w hw => by simp only [execOp, opv_spec hn hx, opv_spec hn hy, Option.map_none, Option.map_some]; exact run_value _ _ _ (hv w hw)) h
theorem e_slice_hi {t : TypeId} {x z : Operand} {u u2 v : Value} (ho : nth L i = some ⟨some d, .slice t x none (some z) none, ty, pos, af, g⟩) (hg : guardOk L a.tmps.toList n l g = true) (hx : opv a.tmps.toList n l x = some u) (hz : opv a.tmps.toList n l z = some u2)
    (hv : ∀ w, S w → (Instr.sliceAt t u none (some u2) none).run P w = .ok v w)
    (h : wpE P L Q S a r ((d, v) :: l) w) : wpE P L Q S a ((i, true) :: r) l w :=
  e_float hn ho rfl hg (fun w hw => by simp only [execOp, opv_spec hn hx, opv_spec hn hz, Option.map_none, Option.map_some]; exact run_value _ _ _ (hv w hw)) h
theorem e_slice_lohi {t : TypeId} {x y z : Operand} {u u1 u2 v : Value} (ho : nth L i = some ⟨some d, .slice t x (some y) (some z) none, ty, pos, af, g⟩) (hg : guardOk L a.tmps.toList n l g = true) (hx : opv a.tmps.toList n l x = some u) (hy : opv a.tmps.toList n l y = some u1) (hz : opv a.tmps.toList n l z = some u2)
    (hv : ∀ w, S w → (Instr.sliceAt t u (some u1) (some u2) none).run P w = .ok v w)
    (h : wpE P L Q S a r ((d, v) :: l) w) : wpE P L Q S a ((i, true) :: r) l w :=
  e_float hn ho rfl hg (fun w hw => by simp only [execOp, opv_spec hn hx, opv_spec hn hy, opv_spec hn hz, Option.map_none, Option.map_some]; exact run_value _ _ _ (hv w hw)) h
/-- What acts: an operation that runs to a value. -/
theorem e_act {o : Oper} {v : Value} {w' : World} (ho : nth L i = some o) (hd : o.dst = some d) (hg : guardOk L a.tmps.toList n l o.guard = true) (hv : (execOp (env a l).eval o).run P w = .ok (.value v) w') (hS : S w')
    (h : wpE P L Q S a r ((d, v) :: l) w') : wpE P L Q S a ((i, false) :: r) l w := by
  have ho' : L.toArray[i]? = some o := by rw [nth_eq] at ho; simpa using ho
  refine ⟨?_⟩
  simp only [wpPlan]
  unfold wpOp
  simp only [ho', guardOk_spec hn hg, if_true, Oper.wp, hv, Oper.upon, hd]
  exact Or.inl ⟨hS, h.out⟩
theorem e_act_convert {src dst : TypeId} {x : Operand} {u v : Value} {w' : World} (ho : nth L i = some ⟨some d, .convert src dst x, ty, pos, af, g⟩) (hg : guardOk L a.tmps.toList n l g = true) (hx : opv a.tmps.toList n l x = some u)
    (hv : (convert src dst u).run P w = .ok v w') (hS : S w')
    (h : wpE P L Q S a r ((d, v) :: l) w') : wpE P L Q S a ((i, false) :: r) l w :=
  e_act hn ho rfl hg (by simp only [execOp, opv_spec hn hx, Sem.run_bind, hv]; rfl) hS h


omit hn in
theorem enter_of {f : FuncId} {fn : Func} (h : P.funcs[f]? = some fn) (h1 : (fn.name == "runtime.NumGoroutine") = false) (h2 : fn.body.isNone = false) (args : Array Value) (w : World) : (callFunc f args).run P w = .ok (.enter f args) w := by
  have h1' : fn.name ≠ "runtime.NumGoroutine" := by simpa using h1
  have h2' : fn.body ≠ none := by intro e; rw [e] at h2; cases h2
  unfold callFunc
  simp [program, Sem.run_bind, Sem.run, h, h1', h2']
theorem e_eq_int {k : IntKind} {xt yt : TypeId} {x y : Operand} {u v : Int} (ho : nth L i = some ⟨some d, .binOp .eql xt x y yt, ty, pos, af, g⟩) (hg : guardOk L a.tmps.toList n l g = true) (hx : opv a.tmps.toList n l x = some (.int k u)) (hy : opv a.tmps.toList n l y = some (.int k v))
    (hv : (u == v) = true) (h : wpE P L Q S a r ((d, .bool true) :: l) w) : wpE P L Q S a ((i, true) :: r) l w := by
  refine e_bin hn ho hg hx hy (fun w _ => ?_) h
  have : u = v := by simpa using hv
  subst this
  simp [eqGuard, binOp, Op.intCmp]
theorem e_eq_string {xt yt : TypeId} {x y : Operand} {u v : ByteArray} (ho : nth L i = some ⟨some d, .binOp .eql xt x y yt, ty, pos, af, g⟩) (hg : guardOk L a.tmps.toList n l g = true) (hx : opv a.tmps.toList n l x = some (.string u)) (hy : opv a.tmps.toList n l y = some (.string v))
    (hv : u = v) (h : wpE P L Q S a r ((d, .bool true) :: l) w) : wpE P L Q S a ((i, true) :: r) l w := by
  refine e_bin hn ho hg hx hy (fun w _ => ?_) h
  subst hv
  simp [eqGuard, binOp, Op.stringOp]

theorem e_call0 {f : FuncId} {ats : Array TypeId} (ho : nth L i = some ⟨some d, .call { callee := .value (.func f), args := #[], argTypes := ats }, ty, pos, af, g⟩) (hg : guardOk L a.tmps.toList n l g = true)
    (hf : ∀ args w, (callFunc f args).run P w = .ok (.enter f args) w)
    (hc : Calls P f #[] w fun e w' => ∃ v, e = .returned v ∧ S w' ∧ wpE P L Q S a r ((d, v) :: l) w') : wpE P L Q S a ((i, false) :: r) l w := by
  rw [nth_eq] at ho
  have ho' : L.toArray[i]? = some ⟨some d, .call { callee := .value (.func f), args := #[], argTypes := ats }, ty, pos, af, g⟩ := by simpa using ho
  have hr : (execOp (env a l).eval ⟨some d, .call { callee := .value (.func f), args := #[], argTypes := ats }, ty, pos, af, g⟩).run P w = .ok (.enter f #[]) w := by
    have h0 := hf #[] w
    simp only [execOp, resolve, Deferred.ofValue, invoke, List.map_toArray, List.map_cons, List.map_nil, Sem.run_bind]
    simpa [Act.eval] using h0
  refine ⟨?_⟩
  simp only [wpPlan]
  unfold wpOp
  have hw := guardOk_spec (o := ⟨some d, .call { callee := .value (.func f), args := #[], argTypes := ats }, ty, pos, af, g⟩) hn hg
  simp only [ho', hw, if_true, Oper.wp, hr, Oper.upon]
  refine Or.inl (hc.mono ?_)
  rintro e w' ⟨v, rfl, hS, h⟩
  exact ⟨hS, h.out⟩

theorem e_call1 {f : FuncId} {ats : Array TypeId} {x0 : Operand} {u0 : Value} (ho : nth L i = some ⟨some d, .call { callee := .value (.func f), args := #[x0], argTypes := ats }, ty, pos, af, g⟩) (hg : guardOk L a.tmps.toList n l g = true) (e0 : opv a.tmps.toList n l x0 = some u0)
    (hf : ∀ args w, (callFunc f args).run P w = .ok (.enter f args) w)
    (hc : Calls P f #[u0] w fun e w' => ∃ v, e = .returned v ∧ S w' ∧ wpE P L Q S a r ((d, v) :: l) w') : wpE P L Q S a ((i, false) :: r) l w := by
  rw [nth_eq] at ho
  have ho' : L.toArray[i]? = some ⟨some d, .call { callee := .value (.func f), args := #[x0], argTypes := ats }, ty, pos, af, g⟩ := by simpa using ho
  have hr : (execOp (env a l).eval ⟨some d, .call { callee := .value (.func f), args := #[x0], argTypes := ats }, ty, pos, af, g⟩).run P w = .ok (.enter f #[u0]) w := by
    have h0 := hf #[u0] w
    simp only [execOp, resolve, Deferred.ofValue, invoke, List.map_toArray, List.map_cons, List.map_nil, Sem.run_bind, opv_spec hn e0]
    simpa [Act.eval, opv_spec hn e0] using h0
  refine ⟨?_⟩
  simp only [wpPlan]
  unfold wpOp
  have hw := guardOk_spec (o := ⟨some d, .call { callee := .value (.func f), args := #[x0], argTypes := ats }, ty, pos, af, g⟩) hn hg
  simp only [ho', hw, if_true, Oper.wp, hr, Oper.upon]
  refine Or.inl (hc.mono ?_)
  rintro e w' ⟨v, rfl, hS, h⟩
  exact ⟨hS, h.out⟩

theorem e_call2 {f : FuncId} {ats : Array TypeId} {x0 : Operand} {x1 : Operand} {u0 : Value} {u1 : Value} (ho : nth L i = some ⟨some d, .call { callee := .value (.func f), args := #[x0, x1], argTypes := ats }, ty, pos, af, g⟩) (hg : guardOk L a.tmps.toList n l g = true) (e0 : opv a.tmps.toList n l x0 = some u0) (e1 : opv a.tmps.toList n l x1 = some u1)
    (hf : ∀ args w, (callFunc f args).run P w = .ok (.enter f args) w)
    (hc : Calls P f #[u0, u1] w fun e w' => ∃ v, e = .returned v ∧ S w' ∧ wpE P L Q S a r ((d, v) :: l) w') : wpE P L Q S a ((i, false) :: r) l w := by
  rw [nth_eq] at ho
  have ho' : L.toArray[i]? = some ⟨some d, .call { callee := .value (.func f), args := #[x0, x1], argTypes := ats }, ty, pos, af, g⟩ := by simpa using ho
  have hr : (execOp (env a l).eval ⟨some d, .call { callee := .value (.func f), args := #[x0, x1], argTypes := ats }, ty, pos, af, g⟩).run P w = .ok (.enter f #[u0, u1]) w := by
    have h0 := hf #[u0, u1] w
    simp only [execOp, resolve, Deferred.ofValue, invoke, List.map_toArray, List.map_cons, List.map_nil, Sem.run_bind, opv_spec hn e0, opv_spec hn e1]
    simpa [Act.eval, opv_spec hn e0, opv_spec hn e1] using h0
  refine ⟨?_⟩
  simp only [wpPlan]
  unfold wpOp
  have hw := guardOk_spec (o := ⟨some d, .call { callee := .value (.func f), args := #[x0, x1], argTypes := ats }, ty, pos, af, g⟩) hn hg
  simp only [ho', hw, if_true, Oper.wp, hr, Oper.upon]
  refine Or.inl (hc.mono ?_)
  rintro e w' ⟨v, rfl, hS, h⟩
  exact ⟨hS, h.out⟩

theorem e_call3 {f : FuncId} {ats : Array TypeId} {x0 : Operand} {x1 : Operand} {x2 : Operand} {u0 : Value} {u1 : Value} {u2 : Value} (ho : nth L i = some ⟨some d, .call { callee := .value (.func f), args := #[x0, x1, x2], argTypes := ats }, ty, pos, af, g⟩) (hg : guardOk L a.tmps.toList n l g = true) (e0 : opv a.tmps.toList n l x0 = some u0) (e1 : opv a.tmps.toList n l x1 = some u1) (e2 : opv a.tmps.toList n l x2 = some u2)
    (hf : ∀ args w, (callFunc f args).run P w = .ok (.enter f args) w)
    (hc : Calls P f #[u0, u1, u2] w fun e w' => ∃ v, e = .returned v ∧ S w' ∧ wpE P L Q S a r ((d, v) :: l) w') : wpE P L Q S a ((i, false) :: r) l w := by
  rw [nth_eq] at ho
  have ho' : L.toArray[i]? = some ⟨some d, .call { callee := .value (.func f), args := #[x0, x1, x2], argTypes := ats }, ty, pos, af, g⟩ := by simpa using ho
  have hr : (execOp (env a l).eval ⟨some d, .call { callee := .value (.func f), args := #[x0, x1, x2], argTypes := ats }, ty, pos, af, g⟩).run P w = .ok (.enter f #[u0, u1, u2]) w := by
    have h0 := hf #[u0, u1, u2] w
    simp only [execOp, resolve, Deferred.ofValue, invoke, List.map_toArray, List.map_cons, List.map_nil, Sem.run_bind, opv_spec hn e0, opv_spec hn e1, opv_spec hn e2]
    simpa [Act.eval, opv_spec hn e0, opv_spec hn e1, opv_spec hn e2] using h0
  refine ⟨?_⟩
  simp only [wpPlan]
  unfold wpOp
  have hw := guardOk_spec (o := ⟨some d, .call { callee := .value (.func f), args := #[x0, x1, x2], argTypes := ats }, ty, pos, af, g⟩) hn hg
  simp only [ho', hw, if_true, Oper.wp, hr, Oper.upon]
  refine Or.inl (hc.mono ?_)
  rintro e w' ⟨v, rfl, hS, h⟩
  exact ⟨hS, h.out⟩

theorem e_call4 {f : FuncId} {ats : Array TypeId} {x0 : Operand} {x1 : Operand} {x2 : Operand} {x3 : Operand} {u0 : Value} {u1 : Value} {u2 : Value} {u3 : Value} (ho : nth L i = some ⟨some d, .call { callee := .value (.func f), args := #[x0, x1, x2, x3], argTypes := ats }, ty, pos, af, g⟩) (hg : guardOk L a.tmps.toList n l g = true) (e0 : opv a.tmps.toList n l x0 = some u0) (e1 : opv a.tmps.toList n l x1 = some u1) (e2 : opv a.tmps.toList n l x2 = some u2) (e3 : opv a.tmps.toList n l x3 = some u3)
    (hf : ∀ args w, (callFunc f args).run P w = .ok (.enter f args) w)
    (hc : Calls P f #[u0, u1, u2, u3] w fun e w' => ∃ v, e = .returned v ∧ S w' ∧ wpE P L Q S a r ((d, v) :: l) w') : wpE P L Q S a ((i, false) :: r) l w := by
  rw [nth_eq] at ho
  have ho' : L.toArray[i]? = some ⟨some d, .call { callee := .value (.func f), args := #[x0, x1, x2, x3], argTypes := ats }, ty, pos, af, g⟩ := by simpa using ho
  have hr : (execOp (env a l).eval ⟨some d, .call { callee := .value (.func f), args := #[x0, x1, x2, x3], argTypes := ats }, ty, pos, af, g⟩).run P w = .ok (.enter f #[u0, u1, u2, u3]) w := by
    have h0 := hf #[u0, u1, u2, u3] w
    simp only [execOp, resolve, Deferred.ofValue, invoke, List.map_toArray, List.map_cons, List.map_nil, Sem.run_bind, opv_spec hn e0, opv_spec hn e1, opv_spec hn e2, opv_spec hn e3]
    simpa [Act.eval, opv_spec hn e0, opv_spec hn e1, opv_spec hn e2, opv_spec hn e3] using h0
  refine ⟨?_⟩
  simp only [wpPlan]
  unfold wpOp
  have hw := guardOk_spec (o := ⟨some d, .call { callee := .value (.func f), args := #[x0, x1, x2, x3], argTypes := ats }, ty, pos, af, g⟩) hn hg
  simp only [ho', hw, if_true, Oper.wp, hr, Oper.upon]
  refine Or.inl (hc.mono ?_)
  rintro e w' ⟨v, rfl, hS, h⟩
  exact ⟨hS, h.out⟩

theorem e_call5 {f : FuncId} {ats : Array TypeId} {x0 : Operand} {x1 : Operand} {x2 : Operand} {x3 : Operand} {x4 : Operand} {u0 : Value} {u1 : Value} {u2 : Value} {u3 : Value} {u4 : Value} (ho : nth L i = some ⟨some d, .call { callee := .value (.func f), args := #[x0, x1, x2, x3, x4], argTypes := ats }, ty, pos, af, g⟩) (hg : guardOk L a.tmps.toList n l g = true) (e0 : opv a.tmps.toList n l x0 = some u0) (e1 : opv a.tmps.toList n l x1 = some u1) (e2 : opv a.tmps.toList n l x2 = some u2) (e3 : opv a.tmps.toList n l x3 = some u3) (e4 : opv a.tmps.toList n l x4 = some u4)
    (hf : ∀ args w, (callFunc f args).run P w = .ok (.enter f args) w)
    (hc : Calls P f #[u0, u1, u2, u3, u4] w fun e w' => ∃ v, e = .returned v ∧ S w' ∧ wpE P L Q S a r ((d, v) :: l) w') : wpE P L Q S a ((i, false) :: r) l w := by
  rw [nth_eq] at ho
  have ho' : L.toArray[i]? = some ⟨some d, .call { callee := .value (.func f), args := #[x0, x1, x2, x3, x4], argTypes := ats }, ty, pos, af, g⟩ := by simpa using ho
  have hr : (execOp (env a l).eval ⟨some d, .call { callee := .value (.func f), args := #[x0, x1, x2, x3, x4], argTypes := ats }, ty, pos, af, g⟩).run P w = .ok (.enter f #[u0, u1, u2, u3, u4]) w := by
    have h0 := hf #[u0, u1, u2, u3, u4] w
    simp only [execOp, resolve, Deferred.ofValue, invoke, List.map_toArray, List.map_cons, List.map_nil, Sem.run_bind, opv_spec hn e0, opv_spec hn e1, opv_spec hn e2, opv_spec hn e3, opv_spec hn e4]
    simpa [Act.eval, opv_spec hn e0, opv_spec hn e1, opv_spec hn e2, opv_spec hn e3, opv_spec hn e4] using h0
  refine ⟨?_⟩
  simp only [wpPlan]
  unfold wpOp
  have hw := guardOk_spec (o := ⟨some d, .call { callee := .value (.func f), args := #[x0, x1, x2, x3, x4], argTypes := ats }, ty, pos, af, g⟩) hn hg
  simp only [ho', hw, if_true, Oper.wp, hr, Oper.upon]
  refine Or.inl (hc.mono ?_)
  rintro e w' ⟨v, rfl, hS, h⟩
  exact ⟨hS, h.out⟩

theorem e_call6 {f : FuncId} {ats : Array TypeId} {x0 : Operand} {x1 : Operand} {x2 : Operand} {x3 : Operand} {x4 : Operand} {x5 : Operand} {u0 : Value} {u1 : Value} {u2 : Value} {u3 : Value} {u4 : Value} {u5 : Value} (ho : nth L i = some ⟨some d, .call { callee := .value (.func f), args := #[x0, x1, x2, x3, x4, x5], argTypes := ats }, ty, pos, af, g⟩) (hg : guardOk L a.tmps.toList n l g = true) (e0 : opv a.tmps.toList n l x0 = some u0) (e1 : opv a.tmps.toList n l x1 = some u1) (e2 : opv a.tmps.toList n l x2 = some u2) (e3 : opv a.tmps.toList n l x3 = some u3) (e4 : opv a.tmps.toList n l x4 = some u4) (e5 : opv a.tmps.toList n l x5 = some u5)
    (hf : ∀ args w, (callFunc f args).run P w = .ok (.enter f args) w)
    (hc : Calls P f #[u0, u1, u2, u3, u4, u5] w fun e w' => ∃ v, e = .returned v ∧ S w' ∧ wpE P L Q S a r ((d, v) :: l) w') : wpE P L Q S a ((i, false) :: r) l w := by
  rw [nth_eq] at ho
  have ho' : L.toArray[i]? = some ⟨some d, .call { callee := .value (.func f), args := #[x0, x1, x2, x3, x4, x5], argTypes := ats }, ty, pos, af, g⟩ := by simpa using ho
  have hr : (execOp (env a l).eval ⟨some d, .call { callee := .value (.func f), args := #[x0, x1, x2, x3, x4, x5], argTypes := ats }, ty, pos, af, g⟩).run P w = .ok (.enter f #[u0, u1, u2, u3, u4, u5]) w := by
    have h0 := hf #[u0, u1, u2, u3, u4, u5] w
    simp only [execOp, resolve, Deferred.ofValue, invoke, List.map_toArray, List.map_cons, List.map_nil, Sem.run_bind, opv_spec hn e0, opv_spec hn e1, opv_spec hn e2, opv_spec hn e3, opv_spec hn e4, opv_spec hn e5]
    simpa [Act.eval, opv_spec hn e0, opv_spec hn e1, opv_spec hn e2, opv_spec hn e3, opv_spec hn e4, opv_spec hn e5] using h0
  refine ⟨?_⟩
  simp only [wpPlan]
  unfold wpOp
  have hw := guardOk_spec (o := ⟨some d, .call { callee := .value (.func f), args := #[x0, x1, x2, x3, x4, x5], argTypes := ats }, ty, pos, af, g⟩) hn hg
  simp only [ho', hw, if_true, Oper.wp, hr, Oper.upon]
  refine Or.inl (hc.mono ?_)
  rintro e w' ⟨v, rfl, hS, h⟩
  exact ⟨hS, h.out⟩

theorem e_call7 {f : FuncId} {ats : Array TypeId} {x0 : Operand} {x1 : Operand} {x2 : Operand} {x3 : Operand} {x4 : Operand} {x5 : Operand} {x6 : Operand} {u0 : Value} {u1 : Value} {u2 : Value} {u3 : Value} {u4 : Value} {u5 : Value} {u6 : Value} (ho : nth L i = some ⟨some d, .call { callee := .value (.func f), args := #[x0, x1, x2, x3, x4, x5, x6], argTypes := ats }, ty, pos, af, g⟩) (hg : guardOk L a.tmps.toList n l g = true) (e0 : opv a.tmps.toList n l x0 = some u0) (e1 : opv a.tmps.toList n l x1 = some u1) (e2 : opv a.tmps.toList n l x2 = some u2) (e3 : opv a.tmps.toList n l x3 = some u3) (e4 : opv a.tmps.toList n l x4 = some u4) (e5 : opv a.tmps.toList n l x5 = some u5) (e6 : opv a.tmps.toList n l x6 = some u6)
    (hf : ∀ args w, (callFunc f args).run P w = .ok (.enter f args) w)
    (hc : Calls P f #[u0, u1, u2, u3, u4, u5, u6] w fun e w' => ∃ v, e = .returned v ∧ S w' ∧ wpE P L Q S a r ((d, v) :: l) w') : wpE P L Q S a ((i, false) :: r) l w := by
  rw [nth_eq] at ho
  have ho' : L.toArray[i]? = some ⟨some d, .call { callee := .value (.func f), args := #[x0, x1, x2, x3, x4, x5, x6], argTypes := ats }, ty, pos, af, g⟩ := by simpa using ho
  have hr : (execOp (env a l).eval ⟨some d, .call { callee := .value (.func f), args := #[x0, x1, x2, x3, x4, x5, x6], argTypes := ats }, ty, pos, af, g⟩).run P w = .ok (.enter f #[u0, u1, u2, u3, u4, u5, u6]) w := by
    have h0 := hf #[u0, u1, u2, u3, u4, u5, u6] w
    simp only [execOp, resolve, Deferred.ofValue, invoke, List.map_toArray, List.map_cons, List.map_nil, Sem.run_bind, opv_spec hn e0, opv_spec hn e1, opv_spec hn e2, opv_spec hn e3, opv_spec hn e4, opv_spec hn e5, opv_spec hn e6]
    simpa [Act.eval, opv_spec hn e0, opv_spec hn e1, opv_spec hn e2, opv_spec hn e3, opv_spec hn e4, opv_spec hn e5, opv_spec hn e6] using h0
  refine ⟨?_⟩
  simp only [wpPlan]
  unfold wpOp
  have hw := guardOk_spec (o := ⟨some d, .call { callee := .value (.func f), args := #[x0, x1, x2, x3, x4, x5, x6], argTypes := ats }, ty, pos, af, g⟩) hn hg
  simp only [ho', hw, if_true, Oper.wp, hr, Oper.upon]
  refine Or.inl (hc.mono ?_)
  rintro e w' ⟨v, rfl, hS, h⟩
  exact ⟨hS, h.out⟩

theorem e_call8 {f : FuncId} {ats : Array TypeId} {x0 : Operand} {x1 : Operand} {x2 : Operand} {x3 : Operand} {x4 : Operand} {x5 : Operand} {x6 : Operand} {x7 : Operand} {u0 : Value} {u1 : Value} {u2 : Value} {u3 : Value} {u4 : Value} {u5 : Value} {u6 : Value} {u7 : Value} (ho : nth L i = some ⟨some d, .call { callee := .value (.func f), args := #[x0, x1, x2, x3, x4, x5, x6, x7], argTypes := ats }, ty, pos, af, g⟩) (hg : guardOk L a.tmps.toList n l g = true) (e0 : opv a.tmps.toList n l x0 = some u0) (e1 : opv a.tmps.toList n l x1 = some u1) (e2 : opv a.tmps.toList n l x2 = some u2) (e3 : opv a.tmps.toList n l x3 = some u3) (e4 : opv a.tmps.toList n l x4 = some u4) (e5 : opv a.tmps.toList n l x5 = some u5) (e6 : opv a.tmps.toList n l x6 = some u6) (e7 : opv a.tmps.toList n l x7 = some u7)
    (hf : ∀ args w, (callFunc f args).run P w = .ok (.enter f args) w)
    (hc : Calls P f #[u0, u1, u2, u3, u4, u5, u6, u7] w fun e w' => ∃ v, e = .returned v ∧ S w' ∧ wpE P L Q S a r ((d, v) :: l) w') : wpE P L Q S a ((i, false) :: r) l w := by
  rw [nth_eq] at ho
  have ho' : L.toArray[i]? = some ⟨some d, .call { callee := .value (.func f), args := #[x0, x1, x2, x3, x4, x5, x6, x7], argTypes := ats }, ty, pos, af, g⟩ := by simpa using ho
  have hr : (execOp (env a l).eval ⟨some d, .call { callee := .value (.func f), args := #[x0, x1, x2, x3, x4, x5, x6, x7], argTypes := ats }, ty, pos, af, g⟩).run P w = .ok (.enter f #[u0, u1, u2, u3, u4, u5, u6, u7]) w := by
    have h0 := hf #[u0, u1, u2, u3, u4, u5, u6, u7] w
    simp only [execOp, resolve, Deferred.ofValue, invoke, List.map_toArray, List.map_cons, List.map_nil, Sem.run_bind, opv_spec hn e0, opv_spec hn e1, opv_spec hn e2, opv_spec hn e3, opv_spec hn e4, opv_spec hn e5, opv_spec hn e6, opv_spec hn e7]
    simpa [Act.eval, opv_spec hn e0, opv_spec hn e1, opv_spec hn e2, opv_spec hn e3, opv_spec hn e4, opv_spec hn e5, opv_spec hn e6, opv_spec hn e7] using h0
  refine ⟨?_⟩
  simp only [wpPlan]
  unfold wpOp
  have hw := guardOk_spec (o := ⟨some d, .call { callee := .value (.func f), args := #[x0, x1, x2, x3, x4, x5, x6, x7], argTypes := ats }, ty, pos, af, g⟩) hn hg
  simp only [ho', hw, if_true, Oper.wp, hr, Oper.upon]
  refine Or.inl (hc.mono ?_)
  rintro e w' ⟨v, rfl, hS, h⟩
  exact ⟨hS, h.out⟩

theorem e_call9 {f : FuncId} {ats : Array TypeId} {x0 : Operand} {x1 : Operand} {x2 : Operand} {x3 : Operand} {x4 : Operand} {x5 : Operand} {x6 : Operand} {x7 : Operand} {x8 : Operand} {u0 : Value} {u1 : Value} {u2 : Value} {u3 : Value} {u4 : Value} {u5 : Value} {u6 : Value} {u7 : Value} {u8 : Value} (ho : nth L i = some ⟨some d, .call { callee := .value (.func f), args := #[x0, x1, x2, x3, x4, x5, x6, x7, x8], argTypes := ats }, ty, pos, af, g⟩) (hg : guardOk L a.tmps.toList n l g = true) (e0 : opv a.tmps.toList n l x0 = some u0) (e1 : opv a.tmps.toList n l x1 = some u1) (e2 : opv a.tmps.toList n l x2 = some u2) (e3 : opv a.tmps.toList n l x3 = some u3) (e4 : opv a.tmps.toList n l x4 = some u4) (e5 : opv a.tmps.toList n l x5 = some u5) (e6 : opv a.tmps.toList n l x6 = some u6) (e7 : opv a.tmps.toList n l x7 = some u7) (e8 : opv a.tmps.toList n l x8 = some u8)
    (hf : ∀ args w, (callFunc f args).run P w = .ok (.enter f args) w)
    (hc : Calls P f #[u0, u1, u2, u3, u4, u5, u6, u7, u8] w fun e w' => ∃ v, e = .returned v ∧ S w' ∧ wpE P L Q S a r ((d, v) :: l) w') : wpE P L Q S a ((i, false) :: r) l w := by
  rw [nth_eq] at ho
  have ho' : L.toArray[i]? = some ⟨some d, .call { callee := .value (.func f), args := #[x0, x1, x2, x3, x4, x5, x6, x7, x8], argTypes := ats }, ty, pos, af, g⟩ := by simpa using ho
  have hr : (execOp (env a l).eval ⟨some d, .call { callee := .value (.func f), args := #[x0, x1, x2, x3, x4, x5, x6, x7, x8], argTypes := ats }, ty, pos, af, g⟩).run P w = .ok (.enter f #[u0, u1, u2, u3, u4, u5, u6, u7, u8]) w := by
    have h0 := hf #[u0, u1, u2, u3, u4, u5, u6, u7, u8] w
    simp only [execOp, resolve, Deferred.ofValue, invoke, List.map_toArray, List.map_cons, List.map_nil, Sem.run_bind, opv_spec hn e0, opv_spec hn e1, opv_spec hn e2, opv_spec hn e3, opv_spec hn e4, opv_spec hn e5, opv_spec hn e6, opv_spec hn e7, opv_spec hn e8]
    simpa [Act.eval, opv_spec hn e0, opv_spec hn e1, opv_spec hn e2, opv_spec hn e3, opv_spec hn e4, opv_spec hn e5, opv_spec hn e6, opv_spec hn e7, opv_spec hn e8] using h0
  refine ⟨?_⟩
  simp only [wpPlan]
  unfold wpOp
  have hw := guardOk_spec (o := ⟨some d, .call { callee := .value (.func f), args := #[x0, x1, x2, x3, x4, x5, x6, x7, x8], argTypes := ats }, ty, pos, af, g⟩) hn hg
  simp only [ho', hw, if_true, Oper.wp, hr, Oper.upon]
  refine Or.inl (hc.mono ?_)
  rintro e w' ⟨v, rfl, hS, h⟩
  exact ⟨hS, h.out⟩

omit hn in
omit hn in
theorem env_defers : ∀ l, (env a l).defers = a.defers
  | [] => rfl
  | (d, v) :: r => by simp [env, Act.put, env_defers r]
theorem env_ret {fn : Func} {R : Ending → World → Prop} {t : Tmp} {v : Value} (h : fn.results = #[.tmp t]) (hv : getE a.tmps.toList n l t = some v) (hd : a.defers = []) (hR : R (.returned v) w) : bodyPost P fn R .ret (env a l) w := by
  refine bodyPost_ret (v := v) ?_ (by rw [env_defers, hd]) hR
  rw [results_tmp h]
  have := getE_spec a hn l t v hv
  simp [this]
omit hn in
theorem e_done (h : Q .normal (env a l) w) : wpE P L Q S a [] l w := ⟨h⟩
omit hn in
theorem call_next {v : Value} {w' : World} (hS : S w') (h : S w' → wpE P L Q S a r ((d, v) :: l) w') : ∃ v', (Ending.returned v) = .returned v' ∧ S w' ∧ wpE P L Q S a r ((d, v') :: l) w' := ⟨v, rfl, hS, h hS⟩
end
end Go.Proofs.Ythgigkjnbflnpaa
