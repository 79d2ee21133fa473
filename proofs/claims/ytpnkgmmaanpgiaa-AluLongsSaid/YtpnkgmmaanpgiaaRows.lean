/-
  No cell of these rows narrows 'for every input' (looked for: loops, veiled, ifaces, maps, wideKeys, modest, calm, conditions, laid).
  DERIVED. THE GIVEN ROWS OF THIS SEAT. 5 by the template 'for every input the law returns true; each argument reads behind the call as it read before'; 0 by the template 'total and deterministic' (their statements: YtpnkgmmaanpgiaaTotals.lean).
  GIVEN WITH THE SEED: the statements are not yours to turn. If you find one false, say at which input.
  Laid BY PROGRAM, IN A SANDBOX (cutbox-rows.mjs): the forced cells as the released guide's own fill.sh prints them over the translation b03e175f110543ef… (all of the seat's roots in one cut). By AI agents, Wed Nov 11 2026. No macro, syntax, notation, axiom, sorry.
-/
import Derived.Test.YtpnkgmmaanpgiaaChecked
import GoSem.Claim
import GoSem.ClaimJoined
import GoSem.ClaimMapViews
import Derived.JoinedTies
import Derived.KernelRfl
namespace Go.Proofs.Ytpnkgmmaanpgiaa
/- THE CELL 'sum', in the pinned program and in every row, IS THE sha256 OF THE DUMP (.gsa) THAT YtpnkgmmaanpgiaaProg.lean LOADS. Nothing in Lean hashes anything: it is a label: what it is worth is what the hold of that sum in a sandbox is worth. -/
noncomputable def Try.pinned : Pinned := { name := "ytpnkgmmaanpgiaa", sum := "b03e175f110543ef219c9797dc428409663c8a8e0fb7aa77302391edb2398f64", checked := Try.checked }
namespace Rows
def none {H : Type} : Left H := { results := [], args := [] }

/-- 'calquelaw09.AluLongs': WHATEVER THE INPUT: true; the input reads as it did. -/
def aluLongsSpec : ChangeSpec := { name := "aluLongs", fn := fun _ => fun
  | [d1, d2] => { results := [.lit (.bool true)], args := [d1, d2] }
  | _ => none }
def aluLongsRow : OpenClaim := { program := "ytpnkgmmaanpgiaa", sum := "b03e175f110543ef219c9797dc428409663c8a8e0fb7aa77302391edb2398f64", func := "calque/calquelaw09.AluLongs", spec := "aluLongs", apart := false }
def AluLongsSaid : Prop := aluLongsRow.holds Try.pinned (OpenSpec.ofChange aluLongsSpec)

/-- ITS FALSE NEIGHBOUR: 'it returns false'. Refute it at one input. -/
def aluLongsWrong : ChangeSpec := { name := "aluLongs", fn := fun _ => fun
  | [d1, d2] => { results := [.lit (.bool false)], args := [d1, d2] }
  | _ => none }
def AluLongsWrongFalsely : Prop := aluLongsRow.holds Try.pinned (OpenSpec.ofChange aluLongsWrong)

/-- 'calquelaw09.AluWords': WHATEVER THE INPUT: true; the input reads as it did. -/
def aluWordsSpec : ChangeSpec := { name := "aluWords", fn := fun _ => fun
  | [d1, d2, d3] => { results := [.lit (.bool true)], args := [d1, d2, d3] }
  | _ => none }
def aluWordsRow : OpenClaim := { program := "ytpnkgmmaanpgiaa", sum := "b03e175f110543ef219c9797dc428409663c8a8e0fb7aa77302391edb2398f64", func := "calque/calquelaw09.AluWords", spec := "aluWords", apart := false }
def AluWordsSaid : Prop := aluWordsRow.holds Try.pinned (OpenSpec.ofChange aluWordsSpec)

/-- ITS FALSE NEIGHBOUR: 'it returns false'. Refute it at one input. -/
def aluWordsWrong : ChangeSpec := { name := "aluWords", fn := fun _ => fun
  | [d1, d2, d3] => { results := [.lit (.bool false)], args := [d1, d2, d3] }
  | _ => none }
def AluWordsWrongFalsely : Prop := aluWordsRow.holds Try.pinned (OpenSpec.ofChange aluWordsWrong)

/-- 'calquelaw09.AluPairs': WHATEVER THE INPUT: true; the input reads as it did. -/
def aluPairsSpec : ChangeSpec := { name := "aluPairs", fn := fun _ => fun
  | [d1, d2] => { results := [.lit (.bool true)], args := [d1, d2] }
  | _ => none }
def aluPairsRow : OpenClaim := { program := "ytpnkgmmaanpgiaa", sum := "b03e175f110543ef219c9797dc428409663c8a8e0fb7aa77302391edb2398f64", func := "calque/calquelaw09.AluPairs", spec := "aluPairs", apart := false }
def AluPairsSaid : Prop := aluPairsRow.holds Try.pinned (OpenSpec.ofChange aluPairsSpec)

/-- ITS FALSE NEIGHBOUR: 'it returns false'. Refute it at one input. -/
def aluPairsWrong : ChangeSpec := { name := "aluPairs", fn := fun _ => fun
  | [d1, d2] => { results := [.lit (.bool false)], args := [d1, d2] }
  | _ => none }
def AluPairsWrongFalsely : Prop := aluPairsRow.holds Try.pinned (OpenSpec.ofChange aluPairsWrong)

/-- 'calquelaw09.AluNumbers': WHATEVER THE INPUT: true; the input reads as it did. -/
def aluNumbersSpec : ChangeSpec := { name := "aluNumbers", fn := fun _ => fun
  | [d1, d2, d3] => { results := [.lit (.bool true)], args := [d1, d2, d3] }
  | _ => none }
def aluNumbersRow : OpenClaim := { program := "ytpnkgmmaanpgiaa", sum := "b03e175f110543ef219c9797dc428409663c8a8e0fb7aa77302391edb2398f64", func := "calque/calquelaw09.AluNumbers", spec := "aluNumbers", apart := false }
def AluNumbersSaid : Prop := aluNumbersRow.holds Try.pinned (OpenSpec.ofChange aluNumbersSpec)

/-- ITS FALSE NEIGHBOUR: 'it returns false'. Refute it at one input. -/
def aluNumbersWrong : ChangeSpec := { name := "aluNumbers", fn := fun _ => fun
  | [d1, d2, d3] => { results := [.lit (.bool false)], args := [d1, d2, d3] }
  | _ => none }
def AluNumbersWrongFalsely : Prop := aluNumbersRow.holds Try.pinned (OpenSpec.ofChange aluNumbersWrong)

/-- 'calquelaw09.AluAll': WHATEVER THE INPUT: true; the input reads as it did. -/
def aluAllSpec : ChangeSpec := { name := "aluAll", fn := fun _ => fun
  | [d1, d2, d3, d4, d5] => { results := [.lit (.bool true)], args := [d1, d2, d3, d4, d5] }
  | _ => none }
def aluAllRow : OpenClaim := { program := "ytpnkgmmaanpgiaa", sum := "b03e175f110543ef219c9797dc428409663c8a8e0fb7aa77302391edb2398f64", func := "calque/calquelaw09.AluAll", spec := "aluAll", apart := false }
def AluAllSaid : Prop := aluAllRow.holds Try.pinned (OpenSpec.ofChange aluAllSpec)

/-- ITS FALSE NEIGHBOUR: 'it returns false'. Refute it at one input. -/
def aluAllWrong : ChangeSpec := { name := "aluAll", fn := fun _ => fun
  | [d1, d2, d3, d4, d5] => { results := [.lit (.bool false)], args := [d1, d2, d3, d4, d5] }
  | _ => none }
def AluAllWrongFalsely : Prop := aluAllRow.holds Try.pinned (OpenSpec.ofChange aluAllWrong)

/- THE SECOND FORM. 'bulk': how many values and letters a reading holds, each counted each time it is reached (what is shared counts as often as it is met; a slice's spare places count too). A statement '..UptoSaid' is the law's where the arguments, and the package variables that the reading takes, are together of bulk at most 1048576: NARROWER than '..Said'. Prove '..Said' where nothing that the law and all that it calls make is longer than what came in: it says more and counts as full. Else prove '..UptoSaid'. A law counts once. -/
mutual
def uptoBulk {H : Type} : DataW H → Nat
  | .lit (.string bytes) => bytes.length + 1
  | .lit _ => 1
  | .nil => 1
  | .ptr d => uptoBulk d + 1
  | .slice elems spare => uptoBulkAll elems + uptoBulkAll spare + 1
  | .agg parts => uptoBulkAll parts + 1
  | .iface _ d => uptoBulk d + 1
  | .map entries => uptoBulkEntries entries + 1
  | .held _ => 1
def uptoBulkAll {H : Type} : List (DataW H) → Nat
  | [] => 0
  | d :: r => uptoBulk d + uptoBulkAll r
def uptoBulkEntries {H : Type} : List (Lit × DataW H) → Nat
  | [] => 0
  | x :: r => uptoBulkEntry x + uptoBulkEntries r
def uptoBulkEntry {H : Type} : Lit × DataW H → Nat
  | (.string bytes, d) => bytes.length + uptoBulk d + 1
  | (_, d) => uptoBulk d + 1
 end
def uptoSmall : (H : Type) → List (DataW H) → Bool := fun _ ds => decide (uptoBulkAll ds ≤ 1048576)
def OpenSpec.upto (s : _root_.Go.ChangeSpec) : _root_.Go.OpenSpec := { _root_.Go.OpenSpec.ofChange s with cond := some uptoSmall }

/-- 'calquelaw09.AluLongs', WHERE WHAT IT READS IS OF BULK AT MOST 1048576: true; the input reads as it did. -/
def aluLongsUptoRow : OpenClaim := { program := "ytpnkgmmaanpgiaa", sum := "b03e175f110543ef219c9797dc428409663c8a8e0fb7aa77302391edb2398f64", func := "calque/calquelaw09.AluLongs", spec := "aluLongs", apart := false, narrowed := true }
def AluLongsUptoSaid : Prop := aluLongsUptoRow.holds Try.pinned (OpenSpec.upto aluLongsSpec)

/-- 'calquelaw09.AluWords', WHERE WHAT IT READS IS OF BULK AT MOST 1048576: true; the input reads as it did. -/
def aluWordsUptoRow : OpenClaim := { program := "ytpnkgmmaanpgiaa", sum := "b03e175f110543ef219c9797dc428409663c8a8e0fb7aa77302391edb2398f64", func := "calque/calquelaw09.AluWords", spec := "aluWords", apart := false, narrowed := true }
def AluWordsUptoSaid : Prop := aluWordsUptoRow.holds Try.pinned (OpenSpec.upto aluWordsSpec)

/-- 'calquelaw09.AluPairs', WHERE WHAT IT READS IS OF BULK AT MOST 1048576: true; the input reads as it did. -/
def aluPairsUptoRow : OpenClaim := { program := "ytpnkgmmaanpgiaa", sum := "b03e175f110543ef219c9797dc428409663c8a8e0fb7aa77302391edb2398f64", func := "calque/calquelaw09.AluPairs", spec := "aluPairs", apart := false, narrowed := true }
def AluPairsUptoSaid : Prop := aluPairsUptoRow.holds Try.pinned (OpenSpec.upto aluPairsSpec)

/-- 'calquelaw09.AluNumbers', WHERE WHAT IT READS IS OF BULK AT MOST 1048576: true; the input reads as it did. -/
def aluNumbersUptoRow : OpenClaim := { program := "ytpnkgmmaanpgiaa", sum := "b03e175f110543ef219c9797dc428409663c8a8e0fb7aa77302391edb2398f64", func := "calque/calquelaw09.AluNumbers", spec := "aluNumbers", apart := false, narrowed := true }
def AluNumbersUptoSaid : Prop := aluNumbersUptoRow.holds Try.pinned (OpenSpec.upto aluNumbersSpec)

/-- 'calquelaw09.AluAll', WHERE WHAT IT READS IS OF BULK AT MOST 1048576: true; the input reads as it did. -/
def aluAllUptoRow : OpenClaim := { program := "ytpnkgmmaanpgiaa", sum := "b03e175f110543ef219c9797dc428409663c8a8e0fb7aa77302391edb2398f64", func := "calque/calquelaw09.AluAll", spec := "aluAll", apart := false, narrowed := true }
def AluAllUptoSaid : Prop := aluAllUptoRow.holds Try.pinned (OpenSpec.upto aluAllSpec)

end Rows
end Go.Proofs.Ytpnkgmmaanpgiaa
