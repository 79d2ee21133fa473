/-
  No cell of these rows narrows 'for every input' (looked for: loops, veiled, ifaces, maps, wideKeys, modest, calm, conditions, laid).
  DERIVED. THE GIVEN ROWS OF THIS SEAT. 6 by the template 'for every input the law returns true; each argument reads behind the call as it read before'; 0 by the template 'total and deterministic' (their statements: YthgigkjnbflnpaaTotals.lean).
  GIVEN WITH THE SEED: the statements are not yours to turn. If you find one false, say at which input.
  Laid BY PROGRAM, IN A SANDBOX (cutbox-rows.mjs): the forced cells as the released guide's own fill.sh prints them over the translation 9693c608fb9e4975… (all of the seat's roots in one cut). By AI agents, Wed Nov 11 2026. No macro, syntax, notation, axiom, sorry.
-/
import Derived.Test.YthgigkjnbflnpaaChecked
import GoSem.Claim
import GoSem.ClaimJoined
import GoSem.ClaimMapViews
import Derived.JoinedTies
import Derived.KernelRfl
namespace Go.Proofs.Ythgigkjnbflnpaa
/- THE CELL 'sum', in the pinned program and in every row, IS THE sha256 OF THE DUMP (.gsa) THAT YthgigkjnbflnpaaProg.lean LOADS. Nothing in Lean hashes anything: it is a label: what it is worth is what the hold of that sum in a sandbox is worth. -/
noncomputable def Try.pinned : Pinned := { name := "ythgigkjnbflnpaa", sum := "9693c608fb9e4975f0bddb341ac71d0ef47e613bc4e235572adec3ce3847b8d9", checked := Try.checked }
namespace Rows
def none {H : Type} : Left H := { results := [], args := [] }

/-- 'calquelaw01.BitsShifts': WHATEVER THE INPUT: true; the input reads as it did. -/
def bitsShiftsSpec : ChangeSpec := { name := "bitsShifts", fn := fun _ => fun
  | [d1, d2] => { results := [.lit (.bool true)], args := [d1, d2] }
  | _ => none }
def bitsShiftsRow : OpenClaim := { program := "ythgigkjnbflnpaa", sum := "9693c608fb9e4975f0bddb341ac71d0ef47e613bc4e235572adec3ce3847b8d9", func := "calque/calquelaw01.BitsShifts", spec := "bitsShifts", apart := false }
def BitsShiftsSaid : Prop := bitsShiftsRow.holds Try.pinned (OpenSpec.ofChange bitsShiftsSpec)

/-- ITS FALSE NEIGHBOUR: 'it returns false'. Refute it at one input. -/
def bitsShiftsWrong : ChangeSpec := { name := "bitsShifts", fn := fun _ => fun
  | [d1, d2] => { results := [.lit (.bool false)], args := [d1, d2] }
  | _ => none }
def BitsShiftsWrongFalsely : Prop := bitsShiftsRow.holds Try.pinned (OpenSpec.ofChange bitsShiftsWrong)

/-- 'calquelaw01.BitsSums': WHATEVER THE INPUT: true; the input reads as it did. -/
def bitsSumsSpec : ChangeSpec := { name := "bitsSums", fn := fun _ => fun
  | [d1, d2] => { results := [.lit (.bool true)], args := [d1, d2] }
  | _ => none }
def bitsSumsRow : OpenClaim := { program := "ythgigkjnbflnpaa", sum := "9693c608fb9e4975f0bddb341ac71d0ef47e613bc4e235572adec3ce3847b8d9", func := "calque/calquelaw01.BitsSums", spec := "bitsSums", apart := false }
def BitsSumsSaid : Prop := bitsSumsRow.holds Try.pinned (OpenSpec.ofChange bitsSumsSpec)

/-- ITS FALSE NEIGHBOUR: 'it returns false'. Refute it at one input. -/
def bitsSumsWrong : ChangeSpec := { name := "bitsSums", fn := fun _ => fun
  | [d1, d2] => { results := [.lit (.bool false)], args := [d1, d2] }
  | _ => none }
def BitsSumsWrongFalsely : Prop := bitsSumsRow.holds Try.pinned (OpenSpec.ofChange bitsSumsWrong)

/-- 'calquelaw01.BitsFields': WHATEVER THE INPUT: true; the input reads as it did. -/
def bitsFieldsSpec : ChangeSpec := { name := "bitsFields", fn := fun _ => fun
  | [d1, d2, d3] => { results := [.lit (.bool true)], args := [d1, d2, d3] }
  | _ => none }
def bitsFieldsRow : OpenClaim := { program := "ythgigkjnbflnpaa", sum := "9693c608fb9e4975f0bddb341ac71d0ef47e613bc4e235572adec3ce3847b8d9", func := "calque/calquelaw01.BitsFields", spec := "bitsFields", apart := false }
def BitsFieldsSaid : Prop := bitsFieldsRow.holds Try.pinned (OpenSpec.ofChange bitsFieldsSpec)

/-- ITS FALSE NEIGHBOUR: 'it returns false'. Refute it at one input. -/
def bitsFieldsWrong : ChangeSpec := { name := "bitsFields", fn := fun _ => fun
  | [d1, d2, d3] => { results := [.lit (.bool false)], args := [d1, d2, d3] }
  | _ => none }
def BitsFieldsWrongFalsely : Prop := bitsFieldsRow.holds Try.pinned (OpenSpec.ofChange bitsFieldsWrong)

/-- 'calquelaw01.BitsMuls': WHATEVER THE INPUT: true; the input reads as it did. -/
def bitsMulsSpec : ChangeSpec := { name := "bitsMuls", fn := fun _ => fun
  | [d1, d2] => { results := [.lit (.bool true)], args := [d1, d2] }
  | _ => none }
def bitsMulsRow : OpenClaim := { program := "ythgigkjnbflnpaa", sum := "9693c608fb9e4975f0bddb341ac71d0ef47e613bc4e235572adec3ce3847b8d9", func := "calque/calquelaw01.BitsMuls", spec := "bitsMuls", apart := false }
def BitsMulsSaid : Prop := bitsMulsRow.holds Try.pinned (OpenSpec.ofChange bitsMulsSpec)

/-- ITS FALSE NEIGHBOUR: 'it returns false'. Refute it at one input. -/
def bitsMulsWrong : ChangeSpec := { name := "bitsMuls", fn := fun _ => fun
  | [d1, d2] => { results := [.lit (.bool false)], args := [d1, d2] }
  | _ => none }
def BitsMulsWrongFalsely : Prop := bitsMulsRow.holds Try.pinned (OpenSpec.ofChange bitsMulsWrong)

/-- 'calquelaw01.BitsDivides': WHATEVER THE INPUT: true; the input reads as it did. -/
def bitsDividesSpec : ChangeSpec := { name := "bitsDivides", fn := fun _ => fun
  | [d1, d2] => { results := [.lit (.bool true)], args := [d1, d2] }
  | _ => none }
def bitsDividesRow : OpenClaim := { program := "ythgigkjnbflnpaa", sum := "9693c608fb9e4975f0bddb341ac71d0ef47e613bc4e235572adec3ce3847b8d9", func := "calque/calquelaw01.BitsDivides", spec := "bitsDivides", apart := false }
def BitsDividesSaid : Prop := bitsDividesRow.holds Try.pinned (OpenSpec.ofChange bitsDividesSpec)

/-- ITS FALSE NEIGHBOUR: 'it returns false'. Refute it at one input. -/
def bitsDividesWrong : ChangeSpec := { name := "bitsDivides", fn := fun _ => fun
  | [d1, d2] => { results := [.lit (.bool false)], args := [d1, d2] }
  | _ => none }
def BitsDividesWrongFalsely : Prop := bitsDividesRow.holds Try.pinned (OpenSpec.ofChange bitsDividesWrong)

/-- 'calquelaw01.BitsAll': WHATEVER THE INPUT: true; the input reads as it did. -/
def bitsAllSpec : ChangeSpec := { name := "bitsAll", fn := fun _ => fun
  | [d1, d2, d3, d4, d5, d6] => { results := [.lit (.bool true)], args := [d1, d2, d3, d4, d5, d6] }
  | _ => none }
def bitsAllRow : OpenClaim := { program := "ythgigkjnbflnpaa", sum := "9693c608fb9e4975f0bddb341ac71d0ef47e613bc4e235572adec3ce3847b8d9", func := "calque/calquelaw01.BitsAll", spec := "bitsAll", apart := false }
def BitsAllSaid : Prop := bitsAllRow.holds Try.pinned (OpenSpec.ofChange bitsAllSpec)

/-- ITS FALSE NEIGHBOUR: 'it returns false'. Refute it at one input. -/
def bitsAllWrong : ChangeSpec := { name := "bitsAll", fn := fun _ => fun
  | [d1, d2, d3, d4, d5, d6] => { results := [.lit (.bool false)], args := [d1, d2, d3, d4, d5, d6] }
  | _ => none }
def BitsAllWrongFalsely : Prop := bitsAllRow.holds Try.pinned (OpenSpec.ofChange bitsAllWrong)

/- THE SECOND FORM. 'bulk': how many values and letters a reading holds, each counted each time it is reached (what is shared counts as often as it is met; a slice's spare places count too). A statement '..UptoSaid' is the law's where the arguments, and the package variables that the reading takes, are together of bulk at most 1048576: NARROWER than '..Said'. Prove '..Said' where nothing that the law and all that it calls make is longer than what came in: it says more and counts as full. Else prove '..UptoSaid'. A law counts once. -/
mutual
def uptoBulk {H : Type} : DataW H → Nat
  | .lit (.string bytes) => bytes.length + 1
  | .lit _ => 1
  | .nil => 1
  | .ptr d => uptoBulk d + 1
  | .slice elems spare => uptoBulkAll elems + uptoBulkAll spare + 1
  | .agg parts => uptoBulkAll parts + 1
  | .iface _ d => uptoBulk d + 1
  | .map entries => uptoBulkEntries entries + 1
  | .held _ => 1
def uptoBulkAll {H : Type} : List (DataW H) → Nat
  | [] => 0
  | d :: r => uptoBulk d + uptoBulkAll r
def uptoBulkEntries {H : Type} : List (Lit × DataW H) → Nat
  | [] => 0
  | x :: r => uptoBulkEntry x + uptoBulkEntries r
def uptoBulkEntry {H : Type} : Lit × DataW H → Nat
  | (.string bytes, d) => bytes.length + uptoBulk d + 1
  | (_, d) => uptoBulk d + 1
 end
def uptoSmall : (H : Type) → List (DataW H) → Bool := fun _ ds => decide (uptoBulkAll ds ≤ 1048576)
def OpenSpec.upto (s : _root_.Go.ChangeSpec) : _root_.Go.OpenSpec := { _root_.Go.OpenSpec.ofChange s with cond := some uptoSmall }

/-- 'calquelaw01.BitsShifts', WHERE WHAT IT READS IS OF BULK AT MOST 1048576: true; the input reads as it did. -/
def bitsShiftsUptoRow : OpenClaim := { program := "ythgigkjnbflnpaa", sum := "9693c608fb9e4975f0bddb341ac71d0ef47e613bc4e235572adec3ce3847b8d9", func := "calque/calquelaw01.BitsShifts", spec := "bitsShifts", apart := false, narrowed := true }
def BitsShiftsUptoSaid : Prop := bitsShiftsUptoRow.holds Try.pinned (OpenSpec.upto bitsShiftsSpec)

/-- 'calquelaw01.BitsSums', WHERE WHAT IT READS IS OF BULK AT MOST 1048576: true; the input reads as it did. -/
def bitsSumsUptoRow : OpenClaim := { program := "ythgigkjnbflnpaa", sum := "9693c608fb9e4975f0bddb341ac71d0ef47e613bc4e235572adec3ce3847b8d9", func := "calque/calquelaw01.BitsSums", spec := "bitsSums", apart := false, narrowed := true }
def BitsSumsUptoSaid : Prop := bitsSumsUptoRow.holds Try.pinned (OpenSpec.upto bitsSumsSpec)

/-- 'calquelaw01.BitsFields', WHERE WHAT IT READS IS OF BULK AT MOST 1048576: true; the input reads as it did. -/
def bitsFieldsUptoRow : OpenClaim := { program := "ythgigkjnbflnpaa", sum := "9693c608fb9e4975f0bddb341ac71d0ef47e613bc4e235572adec3ce3847b8d9", func := "calque/calquelaw01.BitsFields", spec := "bitsFields", apart := false, narrowed := true }
def BitsFieldsUptoSaid : Prop := bitsFieldsUptoRow.holds Try.pinned (OpenSpec.upto bitsFieldsSpec)

/-- 'calquelaw01.BitsMuls', WHERE WHAT IT READS IS OF BULK AT MOST 1048576: true; the input reads as it did. -/
def bitsMulsUptoRow : OpenClaim := { program := "ythgigkjnbflnpaa", sum := "9693c608fb9e4975f0bddb341ac71d0ef47e613bc4e235572adec3ce3847b8d9", func := "calque/calquelaw01.BitsMuls", spec := "bitsMuls", apart := false, narrowed := true }
def BitsMulsUptoSaid : Prop := bitsMulsUptoRow.holds Try.pinned (OpenSpec.upto bitsMulsSpec)

/-- 'calquelaw01.BitsDivides', WHERE WHAT IT READS IS OF BULK AT MOST 1048576: true; the input reads as it did. -/
def bitsDividesUptoRow : OpenClaim := { program := "ythgigkjnbflnpaa", sum := "9693c608fb9e4975f0bddb341ac71d0ef47e613bc4e235572adec3ce3847b8d9", func := "calque/calquelaw01.BitsDivides", spec := "bitsDivides", apart := false, narrowed := true }
def BitsDividesUptoSaid : Prop := bitsDividesUptoRow.holds Try.pinned (OpenSpec.upto bitsDividesSpec)

/-- 'calquelaw01.BitsAll', WHERE WHAT IT READS IS OF BULK AT MOST 1048576: true; the input reads as it did. -/
def bitsAllUptoRow : OpenClaim := { program := "ythgigkjnbflnpaa", sum := "9693c608fb9e4975f0bddb341ac71d0ef47e613bc4e235572adec3ce3847b8d9", func := "calque/calquelaw01.BitsAll", spec := "bitsAll", apart := false, narrowed := true }
def BitsAllUptoSaid : Prop := bitsAllUptoRow.holds Try.pinned (OpenSpec.upto bitsAllSpec)

end Rows
end Go.Proofs.Ythgigkjnbflnpaa
