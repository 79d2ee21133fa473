/-
  No cell of these rows narrows 'for every input' (looked for: loops, veiled, ifaces, maps, wideKeys, modest, calm, conditions, laid).
  DERIVED. THE GIVEN ROWS OF THIS SEAT. 4 by the template 'for every input the law returns true; each argument reads behind the call as it read before'; 0 by the template 'total and deterministic' (their statements: YtkabbipppocilaaTotals.lean).
  GIVEN WITH THE SEED: the statements are not yours to turn. If you find one false, say at which input.
  Laid BY PROGRAM, IN A SANDBOX (cutbox-rows.mjs): the forced cells as the released guide's own fill.sh prints them over the translation c63048b127fb0a49… (all of the seat's roots in one cut). By AI agents, Wed Nov 11 2026. No macro, syntax, notation, axiom, sorry.
-/
import Derived.Test.YtkabbipppocilaaChecked
import GoSem.Claim
import GoSem.ClaimJoined
import GoSem.ClaimMapViews
import Derived.JoinedTies
import Derived.KernelRfl
namespace Go.Proofs.Ytkabbipppocilaa
/- THE CELL 'sum', in the pinned program and in every row, IS THE sha256 OF THE DUMP (.gsa) THAT YtkabbipppocilaaProg.lean LOADS. Nothing in Lean hashes anything: it is a label: what it is worth is what the hold of that sum in a sandbox is worth. -/
noncomputable def Try.pinned : Pinned := { name := "ytkabbipppocilaa", sum := "c63048b127fb0a4988230f4fa62f1396741b7b71461d4380b4295f44cd5aa1d9", checked := Try.checked }
namespace Rows
def none {H : Type} : Left H := { results := [], args := [] }

/-- 'calquelaw03.VintMany': WHATEVER THE INPUT: true; the input reads as it did. -/
def vintManySpec : ChangeSpec := { name := "vintMany", fn := fun _ => fun
  | [d] => { results := [.lit (.bool true)], args := [d] }
  | _ => none }
def vintManyRow : OpenClaim := { program := "ytkabbipppocilaa", sum := "c63048b127fb0a4988230f4fa62f1396741b7b71461d4380b4295f44cd5aa1d9", func := "calque/calquelaw03.VintMany", spec := "vintMany", apart := false }
def VintManySaid : Prop := vintManyRow.holds Try.pinned (OpenSpec.ofChange vintManySpec)

/-- ITS FALSE NEIGHBOUR: 'it returns false'. Refute it at one input. -/
def vintManyWrong : ChangeSpec := { name := "vintMany", fn := fun _ => fun
  | [d] => { results := [.lit (.bool false)], args := [d] }
  | _ => none }
def VintManyWrongFalsely : Prop := vintManyRow.holds Try.pinned (OpenSpec.ofChange vintManyWrong)

/-- 'calquelaw03.VintEnds': WHATEVER THE INPUT: true; the input reads as it did. -/
def vintEndsSpec : ChangeSpec := { name := "vintEnds", fn := fun _ => fun
  | [] => { results := [.lit (.bool true)], args := [] }
  | _ => none }
def vintEndsRow : OpenClaim := { program := "ytkabbipppocilaa", sum := "c63048b127fb0a4988230f4fa62f1396741b7b71461d4380b4295f44cd5aa1d9", func := "calque/calquelaw03.VintEnds", spec := "vintEnds", apart := false }
def VintEndsSaid : Prop := vintEndsRow.holds Try.pinned (OpenSpec.ofChange vintEndsSpec)

/-- ITS FALSE NEIGHBOUR: 'it returns false'. Refute it at one input. -/
def vintEndsWrong : ChangeSpec := { name := "vintEnds", fn := fun _ => fun
  | [] => { results := [.lit (.bool false)], args := [] }
  | _ => none }
def VintEndsWrongFalsely : Prop := vintEndsRow.holds Try.pinned (OpenSpec.ofChange vintEndsWrong)

/-- 'calquelaw03.VintAll': WHATEVER THE INPUT: true; the input reads as it did. -/
def vintAllSpec : ChangeSpec := { name := "vintAll", fn := fun _ => fun
  | [d1, d2, d3, d4, d5] => { results := [.lit (.bool true)], args := [d1, d2, d3, d4, d5] }
  | _ => none }
def vintAllRow : OpenClaim := { program := "ytkabbipppocilaa", sum := "c63048b127fb0a4988230f4fa62f1396741b7b71461d4380b4295f44cd5aa1d9", func := "calque/calquelaw03.VintAll", spec := "vintAll", apart := false }
def VintAllSaid : Prop := vintAllRow.holds Try.pinned (OpenSpec.ofChange vintAllSpec)

/-- ITS FALSE NEIGHBOUR: 'it returns false'. Refute it at one input. -/
def vintAllWrong : ChangeSpec := { name := "vintAll", fn := fun _ => fun
  | [d1, d2, d3, d4, d5] => { results := [.lit (.bool false)], args := [d1, d2, d3, d4, d5] }
  | _ => none }
def VintAllWrongFalsely : Prop := vintAllRow.holds Try.pinned (OpenSpec.ofChange vintAllWrong)

/-- 'calquelaw03.VintBack': WHATEVER THE INPUT: true; the input reads as it did. -/
def vintBackSpec : ChangeSpec := { name := "vintBack", fn := fun _ => fun
  | [d1, d2, d3] => { results := [.lit (.bool true)], args := [d1, d2, d3] }
  | _ => none }
def vintBackRow : OpenClaim := { program := "ytkabbipppocilaa", sum := "c63048b127fb0a4988230f4fa62f1396741b7b71461d4380b4295f44cd5aa1d9", func := "calque/calquelaw03.VintBack", spec := "vintBack", apart := false }
def VintBackSaid : Prop := vintBackRow.holds Try.pinned (OpenSpec.ofChange vintBackSpec)

/-- ITS FALSE NEIGHBOUR: 'it returns false'. Refute it at one input. -/
def vintBackWrong : ChangeSpec := { name := "vintBack", fn := fun _ => fun
  | [d1, d2, d3] => { results := [.lit (.bool false)], args := [d1, d2, d3] }
  | _ => none }
def VintBackWrongFalsely : Prop := vintBackRow.holds Try.pinned (OpenSpec.ofChange vintBackWrong)

/- THE SECOND FORM. 'bulk': how many values and letters a reading holds, each counted each time it is reached (what is shared counts as often as it is met; a slice's spare places count too). A statement '..UptoSaid' is the law's where the arguments, and the package variables that the reading takes, are together of bulk at most 1048576: NARROWER than '..Said'. Prove '..Said' where nothing that the law and all that it calls make is longer than what came in: it says more and counts as full. Else prove '..UptoSaid'. A law counts once. -/
mutual
def uptoBulk {H : Type} : DataW H → Nat
  | .lit (.string bytes) => bytes.length + 1
  | .lit _ => 1
  | .nil => 1
  | .ptr d => uptoBulk d + 1
  | .slice elems spare => uptoBulkAll elems + uptoBulkAll spare + 1
  | .agg parts => uptoBulkAll parts + 1
  | .iface _ d => uptoBulk d + 1
  | .map entries => uptoBulkEntries entries + 1
  | .held _ => 1
def uptoBulkAll {H : Type} : List (DataW H) → Nat
  | [] => 0
  | d :: r => uptoBulk d + uptoBulkAll r
def uptoBulkEntries {H : Type} : List (Lit × DataW H) → Nat
  | [] => 0
  | x :: r => uptoBulkEntry x + uptoBulkEntries r
def uptoBulkEntry {H : Type} : Lit × DataW H → Nat
  | (.string bytes, d) => bytes.length + uptoBulk d + 1
  | (_, d) => uptoBulk d + 1
 end
def uptoSmall : (H : Type) → List (DataW H) → Bool := fun _ ds => decide (uptoBulkAll ds ≤ 1048576)
def OpenSpec.upto (s : _root_.Go.ChangeSpec) : _root_.Go.OpenSpec := { _root_.Go.OpenSpec.ofChange s with cond := some uptoSmall }

/-- 'calquelaw03.VintMany', WHERE WHAT IT READS IS OF BULK AT MOST 1048576: true; the input reads as it did. -/
def vintManyUptoRow : OpenClaim := { program := "ytkabbipppocilaa", sum := "c63048b127fb0a4988230f4fa62f1396741b7b71461d4380b4295f44cd5aa1d9", func := "calque/calquelaw03.VintMany", spec := "vintMany", apart := false, narrowed := true }
def VintManyUptoSaid : Prop := vintManyUptoRow.holds Try.pinned (OpenSpec.upto vintManySpec)

/-- 'calquelaw03.VintEnds', WHERE WHAT IT READS IS OF BULK AT MOST 1048576: true; the input reads as it did. -/
def vintEndsUptoRow : OpenClaim := { program := "ytkabbipppocilaa", sum := "c63048b127fb0a4988230f4fa62f1396741b7b71461d4380b4295f44cd5aa1d9", func := "calque/calquelaw03.VintEnds", spec := "vintEnds", apart := false, narrowed := true }
def VintEndsUptoSaid : Prop := vintEndsUptoRow.holds Try.pinned (OpenSpec.upto vintEndsSpec)

/-- 'calquelaw03.VintAll', WHERE WHAT IT READS IS OF BULK AT MOST 1048576: true; the input reads as it did. -/
def vintAllUptoRow : OpenClaim := { program := "ytkabbipppocilaa", sum := "c63048b127fb0a4988230f4fa62f1396741b7b71461d4380b4295f44cd5aa1d9", func := "calque/calquelaw03.VintAll", spec := "vintAll", apart := false, narrowed := true }
def VintAllUptoSaid : Prop := vintAllUptoRow.holds Try.pinned (OpenSpec.upto vintAllSpec)

/-- 'calquelaw03.VintBack', WHERE WHAT IT READS IS OF BULK AT MOST 1048576: true; the input reads as it did. -/
def vintBackUptoRow : OpenClaim := { program := "ytkabbipppocilaa", sum := "c63048b127fb0a4988230f4fa62f1396741b7b71461d4380b4295f44cd5aa1d9", func := "calque/calquelaw03.VintBack", spec := "vintBack", apart := false, narrowed := true }
def VintBackUptoSaid : Prop := vintBackUptoRow.holds Try.pinned (OpenSpec.upto vintBackSpec)

end Rows
end Go.Proofs.Ytkabbipppocilaa
