/-
  No cell of these rows narrows 'for every input' (looked for: loops, veiled, ifaces, maps, wideKeys, modest, calm, conditions, laid).
  DERIVED. THE GIVEN ROWS OF THIS SEAT. 5 by the template 'for every input the law returns true; each argument reads behind the call as it read before'; 0 by the template 'total and deterministic' (their statements: YtbgolijhhefdgaaTotals.lean).
  GIVEN WITH THE SEED: the statements are not yours to turn. If you find one false, say at which input.
  Laid BY PROGRAM, IN A SANDBOX (cutbox-rows.mjs): the forced cells as the released guide's own fill.sh prints them over the translation 9a70333b1d2256b2… (all of the seat's roots in one cut). By AI agents, Wed Nov 11 2026. No macro, syntax, notation, axiom, sorry.
-/
import Derived.Test.YtbgolijhhefdgaaChecked
import GoSem.Claim
import GoSem.ClaimJoined
import GoSem.ClaimMapViews
import Derived.JoinedTies
import Derived.KernelRfl
namespace Go.Proofs.Ytbgolijhhefdgaa
/- THE CELL 'sum', in the pinned program and in every row, IS THE sha256 OF THE DUMP (.gsa) THAT YtbgolijhhefdgaaProg.lean LOADS. Nothing in Lean hashes anything: it is a label: what it is worth is what the hold of that sum in a sandbox is worth. -/
noncomputable def Try.pinned : Pinned := { name := "ytbgolijhhefdgaa", sum := "9a70333b1d2256b2e1b88c92db019af32d8c295fd9323f723bee64643d654922", checked := Try.checked }
namespace Rows
def none {H : Type} : Left H := { results := [], args := [] }

/-- 'dominolaw20.TrustEpochs': WHATEVER THE INPUT: true; the input reads as it did. -/
def trustEpochsSpec : ChangeSpec := { name := "trustEpochs", fn := fun _ => fun
  | [d] => { results := [.lit (.bool true)], args := [d] }
  | _ => none }
def trustEpochsRow : OpenClaim := { program := "ytbgolijhhefdgaa", sum := "9a70333b1d2256b2e1b88c92db019af32d8c295fd9323f723bee64643d654922", func := "domino/dominolaw20.TrustEpochs", spec := "trustEpochs", apart := false }
def TrustEpochsSaid : Prop := trustEpochsRow.holds Try.pinned (OpenSpec.ofChange trustEpochsSpec)

/-- ITS FALSE NEIGHBOUR: 'it returns false'. Refute it at one input. -/
def trustEpochsWrong : ChangeSpec := { name := "trustEpochs", fn := fun _ => fun
  | [d] => { results := [.lit (.bool false)], args := [d] }
  | _ => none }
def TrustEpochsWrongFalsely : Prop := trustEpochsRow.holds Try.pinned (OpenSpec.ofChange trustEpochsWrong)

/-- 'dominolaw20.TrustBounds': WHATEVER THE INPUT: true; the input reads as it did. -/
def trustBoundsSpec : ChangeSpec := { name := "trustBounds", fn := fun _ => fun
  | [d] => { results := [.lit (.bool true)], args := [d] }
  | _ => none }
def trustBoundsRow : OpenClaim := { program := "ytbgolijhhefdgaa", sum := "9a70333b1d2256b2e1b88c92db019af32d8c295fd9323f723bee64643d654922", func := "domino/dominolaw20.TrustBounds", spec := "trustBounds", apart := false }
def TrustBoundsSaid : Prop := trustBoundsRow.holds Try.pinned (OpenSpec.ofChange trustBoundsSpec)

/-- ITS FALSE NEIGHBOUR: 'it returns false'. Refute it at one input. -/
def trustBoundsWrong : ChangeSpec := { name := "trustBounds", fn := fun _ => fun
  | [d] => { results := [.lit (.bool false)], args := [d] }
  | _ => none }
def TrustBoundsWrongFalsely : Prop := trustBoundsRow.holds Try.pinned (OpenSpec.ofChange trustBoundsWrong)

/-- 'dominolaw20.TrustTicks': WHATEVER THE INPUT: true; the input reads as it did. -/
def trustTicksSpec : ChangeSpec := { name := "trustTicks", fn := fun _ => fun
  | [d] => { results := [.lit (.bool true)], args := [d] }
  | _ => none }
def trustTicksRow : OpenClaim := { program := "ytbgolijhhefdgaa", sum := "9a70333b1d2256b2e1b88c92db019af32d8c295fd9323f723bee64643d654922", func := "domino/dominolaw20.TrustTicks", spec := "trustTicks", apart := false }
def TrustTicksSaid : Prop := trustTicksRow.holds Try.pinned (OpenSpec.ofChange trustTicksSpec)

/-- ITS FALSE NEIGHBOUR: 'it returns false'. Refute it at one input. -/
def trustTicksWrong : ChangeSpec := { name := "trustTicks", fn := fun _ => fun
  | [d] => { results := [.lit (.bool false)], args := [d] }
  | _ => none }
def TrustTicksWrongFalsely : Prop := trustTicksRow.holds Try.pinned (OpenSpec.ofChange trustTicksWrong)

/-- 'dominolaw20.TrustPlays': WHATEVER THE INPUT: true; the input reads as it did. -/
def trustPlaysSpec : ChangeSpec := { name := "trustPlays", fn := fun _ => fun
  | [d] => { results := [.lit (.bool true)], args := [d] }
  | _ => none }
def trustPlaysRow : OpenClaim := { program := "ytbgolijhhefdgaa", sum := "9a70333b1d2256b2e1b88c92db019af32d8c295fd9323f723bee64643d654922", func := "domino/dominolaw20.TrustPlays", spec := "trustPlays", apart := false }
def TrustPlaysSaid : Prop := trustPlaysRow.holds Try.pinned (OpenSpec.ofChange trustPlaysSpec)

/-- ITS FALSE NEIGHBOUR: 'it returns false'. Refute it at one input. -/
def trustPlaysWrong : ChangeSpec := { name := "trustPlays", fn := fun _ => fun
  | [d] => { results := [.lit (.bool false)], args := [d] }
  | _ => none }
def TrustPlaysWrongFalsely : Prop := trustPlaysRow.holds Try.pinned (OpenSpec.ofChange trustPlaysWrong)

/-- 'dominolaw20.TrustNil': WHATEVER THE INPUT: true; the input reads as it did. -/
def trustNilSpec : ChangeSpec := { name := "trustNil", fn := fun _ => fun
  | [d1, d2] => { results := [.lit (.bool true)], args := [d1, d2] }
  | _ => none }
def trustNilRow : OpenClaim := { program := "ytbgolijhhefdgaa", sum := "9a70333b1d2256b2e1b88c92db019af32d8c295fd9323f723bee64643d654922", func := "domino/dominolaw20.TrustNil", spec := "trustNil", apart := false }
def TrustNilSaid : Prop := trustNilRow.holds Try.pinned (OpenSpec.ofChange trustNilSpec)

/-- ITS FALSE NEIGHBOUR: 'it returns false'. Refute it at one input. -/
def trustNilWrong : ChangeSpec := { name := "trustNil", fn := fun _ => fun
  | [d1, d2] => { results := [.lit (.bool false)], args := [d1, d2] }
  | _ => none }
def TrustNilWrongFalsely : Prop := trustNilRow.holds Try.pinned (OpenSpec.ofChange trustNilWrong)

/- THE SECOND FORM. 'bulk': how many values and letters a reading holds, each counted each time it is reached (what is shared counts as often as it is met; a slice's spare places count too). A statement '..UptoSaid' is the law's where the arguments, and the package variables that the reading takes, are together of bulk at most 1048576: NARROWER than '..Said'. Prove '..Said' where nothing that the law and all that it calls make is longer than what came in: it says more and counts as full. Else prove '..UptoSaid'. A law counts once. -/
mutual
def uptoBulk {H : Type} : DataW H → Nat
  | .lit (.string bytes) => bytes.length + 1
  | .lit _ => 1
  | .nil => 1
  | .ptr d => uptoBulk d + 1
  | .slice elems spare => uptoBulkAll elems + uptoBulkAll spare + 1
  | .agg parts => uptoBulkAll parts + 1
  | .iface _ d => uptoBulk d + 1
  | .map entries => uptoBulkEntries entries + 1
  | .held _ => 1
def uptoBulkAll {H : Type} : List (DataW H) → Nat
  | [] => 0
  | d :: r => uptoBulk d + uptoBulkAll r
def uptoBulkEntries {H : Type} : List (Lit × DataW H) → Nat
  | [] => 0
  | x :: r => uptoBulkEntry x + uptoBulkEntries r
def uptoBulkEntry {H : Type} : Lit × DataW H → Nat
  | (.string bytes, d) => bytes.length + uptoBulk d + 1
  | (_, d) => uptoBulk d + 1
 end
def uptoSmall : (H : Type) → List (DataW H) → Bool := fun _ ds => decide (uptoBulkAll ds ≤ 1048576)
def OpenSpec.upto (s : _root_.Go.ChangeSpec) : _root_.Go.OpenSpec := { _root_.Go.OpenSpec.ofChange s with cond := some uptoSmall }

/-- 'dominolaw20.TrustEpochs', WHERE WHAT IT READS IS OF BULK AT MOST 1048576: true; the input reads as it did. -/
def trustEpochsUptoRow : OpenClaim := { program := "ytbgolijhhefdgaa", sum := "9a70333b1d2256b2e1b88c92db019af32d8c295fd9323f723bee64643d654922", func := "domino/dominolaw20.TrustEpochs", spec := "trustEpochs", apart := false, narrowed := true }
def TrustEpochsUptoSaid : Prop := trustEpochsUptoRow.holds Try.pinned (OpenSpec.upto trustEpochsSpec)

/-- 'dominolaw20.TrustBounds', WHERE WHAT IT READS IS OF BULK AT MOST 1048576: true; the input reads as it did. -/
def trustBoundsUptoRow : OpenClaim := { program := "ytbgolijhhefdgaa", sum := "9a70333b1d2256b2e1b88c92db019af32d8c295fd9323f723bee64643d654922", func := "domino/dominolaw20.TrustBounds", spec := "trustBounds", apart := false, narrowed := true }
def TrustBoundsUptoSaid : Prop := trustBoundsUptoRow.holds Try.pinned (OpenSpec.upto trustBoundsSpec)

/-- 'dominolaw20.TrustTicks', WHERE WHAT IT READS IS OF BULK AT MOST 1048576: true; the input reads as it did. -/
def trustTicksUptoRow : OpenClaim := { program := "ytbgolijhhefdgaa", sum := "9a70333b1d2256b2e1b88c92db019af32d8c295fd9323f723bee64643d654922", func := "domino/dominolaw20.TrustTicks", spec := "trustTicks", apart := false, narrowed := true }
def TrustTicksUptoSaid : Prop := trustTicksUptoRow.holds Try.pinned (OpenSpec.upto trustTicksSpec)

/-- 'dominolaw20.TrustPlays', WHERE WHAT IT READS IS OF BULK AT MOST 1048576: true; the input reads as it did. -/
def trustPlaysUptoRow : OpenClaim := { program := "ytbgolijhhefdgaa", sum := "9a70333b1d2256b2e1b88c92db019af32d8c295fd9323f723bee64643d654922", func := "domino/dominolaw20.TrustPlays", spec := "trustPlays", apart := false, narrowed := true }
def TrustPlaysUptoSaid : Prop := trustPlaysUptoRow.holds Try.pinned (OpenSpec.upto trustPlaysSpec)

/-- 'dominolaw20.TrustNil', WHERE WHAT IT READS IS OF BULK AT MOST 1048576: true; the input reads as it did. -/
def trustNilUptoRow : OpenClaim := { program := "ytbgolijhhefdgaa", sum := "9a70333b1d2256b2e1b88c92db019af32d8c295fd9323f723bee64643d654922", func := "domino/dominolaw20.TrustNil", spec := "trustNil", apart := false, narrowed := true }
def TrustNilUptoSaid : Prop := trustNilUptoRow.holds Try.pinned (OpenSpec.upto trustNilSpec)

end Rows
end Go.Proofs.Ytbgolijhhefdgaa
