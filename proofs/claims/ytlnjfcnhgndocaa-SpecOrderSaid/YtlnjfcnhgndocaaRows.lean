/-
  No cell of these rows narrows 'for every input' (looked for: loops, veiled, ifaces, maps, wideKeys, modest, calm, conditions, laid).
  DERIVED. THE GIVEN ROWS OF THIS SEAT. 5 by the template 'for every input the law returns true; each argument reads behind the call as it read before'; 0 by the template 'total and deterministic' (their statements: YtlnjfcnhgndocaaTotals.lean).
  GIVEN WITH THE SEED: the statements are not yours to turn. If you find one false, say at which input.
  Laid BY PROGRAM, IN A SANDBOX (cutbox-rows.mjs): the forced cells as the released guide's own fill.sh prints them over the translation 658576f1be5e6a59… (all of the seat's roots in one cut). By AI agents, Wed Nov 11 2026. No macro, syntax, notation, axiom, sorry.
-/
import Derived.Test.YtlnjfcnhgndocaaChecked
import GoSem.Claim
import GoSem.ClaimJoined
import GoSem.ClaimMapViews
import Derived.JoinedTies
import Derived.KernelRfl
namespace Go.Proofs.Ytlnjfcnhgndocaa
/- THE CELL 'sum', in the pinned program and in every row, IS THE sha256 OF THE DUMP (.gsa) THAT YtlnjfcnhgndocaaProg.lean LOADS. Nothing in Lean hashes anything: it is a label: what it is worth is what the hold of that sum in a sandbox is worth. -/
noncomputable def Try.pinned : Pinned := { name := "ytlnjfcnhgndocaa", sum := "658576f1be5e6a598eb94463261538976c378b503086a3a6bcd8022ce0fa6c7d", checked := Try.checked }
namespace Rows
def none {H : Type} : Left H := { results := [], args := [] }

/-- 'dominolaw12.SpecSums': WHATEVER THE INPUT: true; the input reads as it did. -/
def specSumsSpec : ChangeSpec := { name := "specSums", fn := fun _ => fun
  | [d1, d2] => { results := [.lit (.bool true)], args := [d1, d2] }
  | _ => none }
def specSumsRow : OpenClaim := { program := "ytlnjfcnhgndocaa", sum := "658576f1be5e6a598eb94463261538976c378b503086a3a6bcd8022ce0fa6c7d", func := "domino/dominolaw12.SpecSums", spec := "specSums", unfollowed := true, recurses := true, apart := false }
def SpecSumsSaid : Prop := specSumsRow.holds Try.pinned (OpenSpec.ofChange specSumsSpec)

/-- ITS FALSE NEIGHBOUR: 'it returns false'. Refute it at one input. -/
def specSumsWrong : ChangeSpec := { name := "specSums", fn := fun _ => fun
  | [d1, d2] => { results := [.lit (.bool false)], args := [d1, d2] }
  | _ => none }
def SpecSumsWrongFalsely : Prop := specSumsRow.holds Try.pinned (OpenSpec.ofChange specSumsWrong)

/-- 'dominolaw12.SpecOrder': WHATEVER THE INPUT: true; the input reads as it did. -/
def specOrderSpec : ChangeSpec := { name := "specOrder", fn := fun _ => fun
  | [d] => { results := [.lit (.bool true)], args := [d] }
  | _ => none }
def specOrderRow : OpenClaim := { program := "ytlnjfcnhgndocaa", sum := "658576f1be5e6a598eb94463261538976c378b503086a3a6bcd8022ce0fa6c7d", func := "domino/dominolaw12.SpecOrder", spec := "specOrder", unfollowed := true, recurses := true, apart := false }
def SpecOrderSaid : Prop := specOrderRow.holds Try.pinned (OpenSpec.ofChange specOrderSpec)

/-- ITS FALSE NEIGHBOUR: 'it returns false'. Refute it at one input. -/
def specOrderWrong : ChangeSpec := { name := "specOrder", fn := fun _ => fun
  | [d] => { results := [.lit (.bool false)], args := [d] }
  | _ => none }
def SpecOrderWrongFalsely : Prop := specOrderRow.holds Try.pinned (OpenSpec.ofChange specOrderWrong)

/-- 'dominolaw12.SpecFilter': WHATEVER THE INPUT: true; the input reads as it did. -/
def specFilterSpec : ChangeSpec := { name := "specFilter", fn := fun _ => fun
  | [d1, d2] => { results := [.lit (.bool true)], args := [d1, d2] }
  | _ => none }
def specFilterRow : OpenClaim := { program := "ytlnjfcnhgndocaa", sum := "658576f1be5e6a598eb94463261538976c378b503086a3a6bcd8022ce0fa6c7d", func := "domino/dominolaw12.SpecFilter", spec := "specFilter", unfollowed := true, recurses := true, apart := false }
def SpecFilterSaid : Prop := specFilterRow.holds Try.pinned (OpenSpec.ofChange specFilterSpec)

/-- ITS FALSE NEIGHBOUR: 'it returns false'. Refute it at one input. -/
def specFilterWrong : ChangeSpec := { name := "specFilter", fn := fun _ => fun
  | [d1, d2] => { results := [.lit (.bool false)], args := [d1, d2] }
  | _ => none }
def SpecFilterWrongFalsely : Prop := specFilterRow.holds Try.pinned (OpenSpec.ofChange specFilterWrong)

/-- 'dominolaw12.SpecFinish': WHATEVER THE INPUT: true; the input reads as it did. -/
def specFinishSpec : ChangeSpec := { name := "specFinish", fn := fun _ => fun
  | [d] => { results := [.lit (.bool true)], args := [d] }
  | _ => none }
def specFinishRow : OpenClaim := { program := "ytlnjfcnhgndocaa", sum := "658576f1be5e6a598eb94463261538976c378b503086a3a6bcd8022ce0fa6c7d", func := "domino/dominolaw12.SpecFinish", spec := "specFinish", unfollowed := true, recurses := true, apart := false }
def SpecFinishSaid : Prop := specFinishRow.holds Try.pinned (OpenSpec.ofChange specFinishSpec)

/-- ITS FALSE NEIGHBOUR: 'it returns false'. Refute it at one input. -/
def specFinishWrong : ChangeSpec := { name := "specFinish", fn := fun _ => fun
  | [d] => { results := [.lit (.bool false)], args := [d] }
  | _ => none }
def SpecFinishWrongFalsely : Prop := specFinishRow.holds Try.pinned (OpenSpec.ofChange specFinishWrong)

/-- 'dominolaw12.SpecParams': WHATEVER THE INPUT: true; the input reads as it did. -/
def specParamsSpec : ChangeSpec := { name := "specParams", fn := fun _ => fun
  | [d] => { results := [.lit (.bool true)], args := [d] }
  | _ => none }
def specParamsRow : OpenClaim := { program := "ytlnjfcnhgndocaa", sum := "658576f1be5e6a598eb94463261538976c378b503086a3a6bcd8022ce0fa6c7d", func := "domino/dominolaw12.SpecParams", spec := "specParams", unfollowed := true, recurses := true, apart := false }
def SpecParamsSaid : Prop := specParamsRow.holds Try.pinned (OpenSpec.ofChange specParamsSpec)

/-- ITS FALSE NEIGHBOUR: 'it returns false'. Refute it at one input. -/
def specParamsWrong : ChangeSpec := { name := "specParams", fn := fun _ => fun
  | [d] => { results := [.lit (.bool false)], args := [d] }
  | _ => none }
def SpecParamsWrongFalsely : Prop := specParamsRow.holds Try.pinned (OpenSpec.ofChange specParamsWrong)

/- THE SECOND FORM. 'bulk': how many values and letters a reading holds, each counted each time it is reached (what is shared counts as often as it is met; a slice's spare places count too). A statement '..UptoSaid' is the law's where the arguments, and the package variables that the reading takes, are together of bulk at most 1048576: NARROWER than '..Said'. Prove '..Said' where nothing that the law and all that it calls make is longer than what came in: it says more and counts as full. Else prove '..UptoSaid'. A law counts once. -/
mutual
def uptoBulk {H : Type} : DataW H → Nat
  | .lit (.string bytes) => bytes.length + 1
  | .lit _ => 1
  | .nil => 1
  | .ptr d => uptoBulk d + 1
  | .slice elems spare => uptoBulkAll elems + uptoBulkAll spare + 1
  | .agg parts => uptoBulkAll parts + 1
  | .iface _ d => uptoBulk d + 1
  | .map entries => uptoBulkEntries entries + 1
  | .held _ => 1
def uptoBulkAll {H : Type} : List (DataW H) → Nat
  | [] => 0
  | d :: r => uptoBulk d + uptoBulkAll r
def uptoBulkEntries {H : Type} : List (Lit × DataW H) → Nat
  | [] => 0
  | x :: r => uptoBulkEntry x + uptoBulkEntries r
def uptoBulkEntry {H : Type} : Lit × DataW H → Nat
  | (.string bytes, d) => bytes.length + uptoBulk d + 1
  | (_, d) => uptoBulk d + 1
 end
def uptoSmall : (H : Type) → List (DataW H) → Bool := fun _ ds => decide (uptoBulkAll ds ≤ 1048576)
def OpenSpec.upto (s : _root_.Go.ChangeSpec) : _root_.Go.OpenSpec := { _root_.Go.OpenSpec.ofChange s with cond := some uptoSmall }

/-- 'dominolaw12.SpecSums', WHERE WHAT IT READS IS OF BULK AT MOST 1048576: true; the input reads as it did. -/
def specSumsUptoRow : OpenClaim := { program := "ytlnjfcnhgndocaa", sum := "658576f1be5e6a598eb94463261538976c378b503086a3a6bcd8022ce0fa6c7d", func := "domino/dominolaw12.SpecSums", spec := "specSums", unfollowed := true, recurses := true, apart := false, narrowed := true }
def SpecSumsUptoSaid : Prop := specSumsUptoRow.holds Try.pinned (OpenSpec.upto specSumsSpec)

/-- 'dominolaw12.SpecOrder', WHERE WHAT IT READS IS OF BULK AT MOST 1048576: true; the input reads as it did. -/
def specOrderUptoRow : OpenClaim := { program := "ytlnjfcnhgndocaa", sum := "658576f1be5e6a598eb94463261538976c378b503086a3a6bcd8022ce0fa6c7d", func := "domino/dominolaw12.SpecOrder", spec := "specOrder", unfollowed := true, recurses := true, apart := false, narrowed := true }
def SpecOrderUptoSaid : Prop := specOrderUptoRow.holds Try.pinned (OpenSpec.upto specOrderSpec)

/-- 'dominolaw12.SpecFilter', WHERE WHAT IT READS IS OF BULK AT MOST 1048576: true; the input reads as it did. -/
def specFilterUptoRow : OpenClaim := { program := "ytlnjfcnhgndocaa", sum := "658576f1be5e6a598eb94463261538976c378b503086a3a6bcd8022ce0fa6c7d", func := "domino/dominolaw12.SpecFilter", spec := "specFilter", unfollowed := true, recurses := true, apart := false, narrowed := true }
def SpecFilterUptoSaid : Prop := specFilterUptoRow.holds Try.pinned (OpenSpec.upto specFilterSpec)

/-- 'dominolaw12.SpecFinish', WHERE WHAT IT READS IS OF BULK AT MOST 1048576: true; the input reads as it did. -/
def specFinishUptoRow : OpenClaim := { program := "ytlnjfcnhgndocaa", sum := "658576f1be5e6a598eb94463261538976c378b503086a3a6bcd8022ce0fa6c7d", func := "domino/dominolaw12.SpecFinish", spec := "specFinish", unfollowed := true, recurses := true, apart := false, narrowed := true }
def SpecFinishUptoSaid : Prop := specFinishUptoRow.holds Try.pinned (OpenSpec.upto specFinishSpec)

/-- 'dominolaw12.SpecParams', WHERE WHAT IT READS IS OF BULK AT MOST 1048576: true; the input reads as it did. -/
def specParamsUptoRow : OpenClaim := { program := "ytlnjfcnhgndocaa", sum := "658576f1be5e6a598eb94463261538976c378b503086a3a6bcd8022ce0fa6c7d", func := "domino/dominolaw12.SpecParams", spec := "specParams", unfollowed := true, recurses := true, apart := false, narrowed := true }
def SpecParamsUptoSaid : Prop := specParamsUptoRow.holds Try.pinned (OpenSpec.upto specParamsSpec)

end Rows
end Go.Proofs.Ytlnjfcnhgndocaa
