/-
  No cell of these rows narrows 'for every input' (looked for: loops, veiled, ifaces, maps, wideKeys, modest, calm, conditions, laid).
  DERIVED. THE GIVEN ROWS OF THIS SEAT. 8 by the template 'for every input the law returns true; each argument reads behind the call as it read before'; 0 by the template 'total and deterministic' (their statements: YtdojfkiocojpgaaTotals.lean).
  GIVEN WITH THE SEED: the statements are not yours to turn. If you find one false, say at which input.
  Laid BY PROGRAM, IN A SANDBOX (cutbox-rows.mjs): the forced cells as the released guide's own fill.sh prints them over the translation 75c3622f6d4acf80… (all of the seat's roots in one cut). By AI agents, Wed Nov 11 2026. No macro, syntax, notation, axiom, sorry.
-/
import Derived.Test.YtdojfkiocojpgaaChecked
import GoSem.Claim
import GoSem.ClaimJoined
import GoSem.ClaimMapViews
import Derived.JoinedTies
import Derived.KernelRfl
namespace Go.Proofs.Ytdojfkiocojpgaa
/- THE CELL 'sum', in the pinned program and in every row, IS THE sha256 OF THE DUMP (.gsa) THAT YtdojfkiocojpgaaProg.lean LOADS. Nothing in Lean hashes anything: it is a label: what it is worth is what the hold of that sum in a sandbox is worth. -/
noncomputable def Try.pinned : Pinned := { name := "ytdojfkiocojpgaa", sum := "75c3622f6d4acf80b4ca8c68637c551df381bbbbc5cc7b08064c1057591ec2d6", checked := Try.checked }
namespace Rows
def none {H : Type} : Left H := { results := [], args := [] }

/-- 'reevelaw01.BitsNumbers': WHATEVER THE INPUT: true; the input reads as it did. -/
def bitsNumbersSpec : ChangeSpec := { name := "bitsNumbers", fn := fun _ => fun
  | [d1, d2] => { results := [.lit (.bool true)], args := [d1, d2] }
  | _ => none }
def bitsNumbersRow : OpenClaim := { program := "ytdojfkiocojpgaa", sum := "75c3622f6d4acf80b4ca8c68637c551df381bbbbc5cc7b08064c1057591ec2d6", func := "reeve/reevelaw01.BitsNumbers", spec := "bitsNumbers", apart := false }
def BitsNumbersSaid : Prop := bitsNumbersRow.holds Try.pinned (OpenSpec.ofChange bitsNumbersSpec)

/-- ITS FALSE NEIGHBOUR: 'it returns false'. Refute it at one input. -/
def bitsNumbersWrong : ChangeSpec := { name := "bitsNumbers", fn := fun _ => fun
  | [d1, d2] => { results := [.lit (.bool false)], args := [d1, d2] }
  | _ => none }
def BitsNumbersWrongFalsely : Prop := bitsNumbersRow.holds Try.pinned (OpenSpec.ofChange bitsNumbersWrong)

/-- 'reevelaw01.BitsReads': WHATEVER THE INPUT: true; the input reads as it did. -/
def bitsReadsSpec : ChangeSpec := { name := "bitsReads", fn := fun _ => fun
  | [d1, d2] => { results := [.lit (.bool true)], args := [d1, d2] }
  | _ => none }
def bitsReadsRow : OpenClaim := { program := "ytdojfkiocojpgaa", sum := "75c3622f6d4acf80b4ca8c68637c551df381bbbbc5cc7b08064c1057591ec2d6", func := "reeve/reevelaw01.BitsReads", spec := "bitsReads", apart := false }
def BitsReadsSaid : Prop := bitsReadsRow.holds Try.pinned (OpenSpec.ofChange bitsReadsSpec)

/-- ITS FALSE NEIGHBOUR: 'it returns false'. Refute it at one input. -/
def bitsReadsWrong : ChangeSpec := { name := "bitsReads", fn := fun _ => fun
  | [d1, d2] => { results := [.lit (.bool false)], args := [d1, d2] }
  | _ => none }
def BitsReadsWrongFalsely : Prop := bitsReadsRow.holds Try.pinned (OpenSpec.ofChange bitsReadsWrong)

/-- 'reevelaw01.BitsZigs': WHATEVER THE INPUT: true; the input reads as it did. -/
def bitsZigsSpec : ChangeSpec := { name := "bitsZigs", fn := fun _ => fun
  | [d] => { results := [.lit (.bool true)], args := [d] }
  | _ => none }
def bitsZigsRow : OpenClaim := { program := "ytdojfkiocojpgaa", sum := "75c3622f6d4acf80b4ca8c68637c551df381bbbbc5cc7b08064c1057591ec2d6", func := "reeve/reevelaw01.BitsZigs", spec := "bitsZigs", apart := false }
def BitsZigsSaid : Prop := bitsZigsRow.holds Try.pinned (OpenSpec.ofChange bitsZigsSpec)

/-- ITS FALSE NEIGHBOUR: 'it returns false'. Refute it at one input. -/
def bitsZigsWrong : ChangeSpec := { name := "bitsZigs", fn := fun _ => fun
  | [d] => { results := [.lit (.bool false)], args := [d] }
  | _ => none }
def BitsZigsWrongFalsely : Prop := bitsZigsRow.holds Try.pinned (OpenSpec.ofChange bitsZigsWrong)

/-- 'reevelaw01.BitsBack': WHATEVER THE INPUT: true; the input reads as it did. -/
def bitsBackSpec : ChangeSpec := { name := "bitsBack", fn := fun _ => fun
  | [d1, d2, d3] => { results := [.lit (.bool true)], args := [d1, d2, d3] }
  | _ => none }
def bitsBackRow : OpenClaim := { program := "ytdojfkiocojpgaa", sum := "75c3622f6d4acf80b4ca8c68637c551df381bbbbc5cc7b08064c1057591ec2d6", func := "reeve/reevelaw01.BitsBack", spec := "bitsBack", apart := false }
def BitsBackSaid : Prop := bitsBackRow.holds Try.pinned (OpenSpec.ofChange bitsBackSpec)

/-- ITS FALSE NEIGHBOUR: 'it returns false'. Refute it at one input. -/
def bitsBackWrong : ChangeSpec := { name := "bitsBack", fn := fun _ => fun
  | [d1, d2, d3] => { results := [.lit (.bool false)], args := [d1, d2, d3] }
  | _ => none }
def BitsBackWrongFalsely : Prop := bitsBackRow.holds Try.pinned (OpenSpec.ofChange bitsBackWrong)

/-- 'reevelaw01.BitsForm': WHATEVER THE INPUT: true; the input reads as it did. -/
def bitsFormSpec : ChangeSpec := { name := "bitsForm", fn := fun _ => fun
  | [d1, d2] => { results := [.lit (.bool true)], args := [d1, d2] }
  | _ => none }
def bitsFormRow : OpenClaim := { program := "ytdojfkiocojpgaa", sum := "75c3622f6d4acf80b4ca8c68637c551df381bbbbc5cc7b08064c1057591ec2d6", func := "reeve/reevelaw01.BitsForm", spec := "bitsForm", apart := false }
def BitsFormSaid : Prop := bitsFormRow.holds Try.pinned (OpenSpec.ofChange bitsFormSpec)

/-- ITS FALSE NEIGHBOUR: 'it returns false'. Refute it at one input. -/
def bitsFormWrong : ChangeSpec := { name := "bitsForm", fn := fun _ => fun
  | [d1, d2] => { results := [.lit (.bool false)], args := [d1, d2] }
  | _ => none }
def BitsFormWrongFalsely : Prop := bitsFormRow.holds Try.pinned (OpenSpec.ofChange bitsFormWrong)

/-- 'reevelaw01.BitsFolds': WHATEVER THE INPUT: true; the input reads as it did. -/
def bitsFoldsSpec : ChangeSpec := { name := "bitsFolds", fn := fun _ => fun
  | [d1, d2] => { results := [.lit (.bool true)], args := [d1, d2] }
  | _ => none }
def bitsFoldsRow : OpenClaim := { program := "ytdojfkiocojpgaa", sum := "75c3622f6d4acf80b4ca8c68637c551df381bbbbc5cc7b08064c1057591ec2d6", func := "reeve/reevelaw01.BitsFolds", spec := "bitsFolds", apart := false }
def BitsFoldsSaid : Prop := bitsFoldsRow.holds Try.pinned (OpenSpec.ofChange bitsFoldsSpec)

/-- ITS FALSE NEIGHBOUR: 'it returns false'. Refute it at one input. -/
def bitsFoldsWrong : ChangeSpec := { name := "bitsFolds", fn := fun _ => fun
  | [d1, d2] => { results := [.lit (.bool false)], args := [d1, d2] }
  | _ => none }
def BitsFoldsWrongFalsely : Prop := bitsFoldsRow.holds Try.pinned (OpenSpec.ofChange bitsFoldsWrong)

/-- 'reevelaw01.BitsRows': WHATEVER THE INPUT: true; the input reads as it did. -/
def bitsRowsSpec : ChangeSpec := { name := "bitsRows", fn := fun _ => fun
  | [d] => { results := [.lit (.bool true)], args := [d] }
  | _ => none }
def bitsRowsRow : OpenClaim := { program := "ytdojfkiocojpgaa", sum := "75c3622f6d4acf80b4ca8c68637c551df381bbbbc5cc7b08064c1057591ec2d6", func := "reeve/reevelaw01.BitsRows", spec := "bitsRows", apart := false }
def BitsRowsSaid : Prop := bitsRowsRow.holds Try.pinned (OpenSpec.ofChange bitsRowsSpec)

/-- ITS FALSE NEIGHBOUR: 'it returns false'. Refute it at one input. -/
def bitsRowsWrong : ChangeSpec := { name := "bitsRows", fn := fun _ => fun
  | [d] => { results := [.lit (.bool false)], args := [d] }
  | _ => none }
def BitsRowsWrongFalsely : Prop := bitsRowsRow.holds Try.pinned (OpenSpec.ofChange bitsRowsWrong)

/-- 'reevelaw01.BitsTurned': WHATEVER THE INPUT: true; the input reads as it did. -/
def bitsTurnedSpec : ChangeSpec := { name := "bitsTurned", fn := fun _ => fun
  | [d1, d2, d3] => { results := [.lit (.bool true)], args := [d1, d2, d3] }
  | _ => none }
def bitsTurnedRow : OpenClaim := { program := "ytdojfkiocojpgaa", sum := "75c3622f6d4acf80b4ca8c68637c551df381bbbbc5cc7b08064c1057591ec2d6", func := "reeve/reevelaw01.BitsTurned", spec := "bitsTurned", apart := false }
def BitsTurnedSaid : Prop := bitsTurnedRow.holds Try.pinned (OpenSpec.ofChange bitsTurnedSpec)

/-- ITS FALSE NEIGHBOUR: 'it returns false'. Refute it at one input. -/
def bitsTurnedWrong : ChangeSpec := { name := "bitsTurned", fn := fun _ => fun
  | [d1, d2, d3] => { results := [.lit (.bool false)], args := [d1, d2, d3] }
  | _ => none }
def BitsTurnedWrongFalsely : Prop := bitsTurnedRow.holds Try.pinned (OpenSpec.ofChange bitsTurnedWrong)

/- THE SECOND FORM. 'bulk': how many values and letters a reading holds, each counted each time it is reached (what is shared counts as often as it is met; a slice's spare places count too). A statement '..UptoSaid' is the law's where the arguments, and the package variables that the reading takes, are together of bulk at most 1048576: NARROWER than '..Said'. Prove '..Said' where nothing that the law and all that it calls make is longer than what came in: it says more and counts as full. Else prove '..UptoSaid'. A law counts once. -/
mutual
def uptoBulk {H : Type} : DataW H → Nat
  | .lit (.string bytes) => bytes.length + 1
  | .lit _ => 1
  | .nil => 1
  | .ptr d => uptoBulk d + 1
  | .slice elems spare => uptoBulkAll elems + uptoBulkAll spare + 1
  | .agg parts => uptoBulkAll parts + 1
  | .iface _ d => uptoBulk d + 1
  | .map entries => uptoBulkEntries entries + 1
  | .held _ => 1
def uptoBulkAll {H : Type} : List (DataW H) → Nat
  | [] => 0
  | d :: r => uptoBulk d + uptoBulkAll r
def uptoBulkEntries {H : Type} : List (Lit × DataW H) → Nat
  | [] => 0
  | x :: r => uptoBulkEntry x + uptoBulkEntries r
def uptoBulkEntry {H : Type} : Lit × DataW H → Nat
  | (.string bytes, d) => bytes.length + uptoBulk d + 1
  | (_, d) => uptoBulk d + 1
 end
def uptoSmall : (H : Type) → List (DataW H) → Bool := fun _ ds => decide (uptoBulkAll ds ≤ 1048576)
def OpenSpec.upto (s : _root_.Go.ChangeSpec) : _root_.Go.OpenSpec := { _root_.Go.OpenSpec.ofChange s with cond := some uptoSmall }

/-- 'reevelaw01.BitsNumbers', WHERE WHAT IT READS IS OF BULK AT MOST 1048576: true; the input reads as it did. -/
def bitsNumbersUptoRow : OpenClaim := { program := "ytdojfkiocojpgaa", sum := "75c3622f6d4acf80b4ca8c68637c551df381bbbbc5cc7b08064c1057591ec2d6", func := "reeve/reevelaw01.BitsNumbers", spec := "bitsNumbers", apart := false, narrowed := true }
def BitsNumbersUptoSaid : Prop := bitsNumbersUptoRow.holds Try.pinned (OpenSpec.upto bitsNumbersSpec)

/-- 'reevelaw01.BitsReads', WHERE WHAT IT READS IS OF BULK AT MOST 1048576: true; the input reads as it did. -/
def bitsReadsUptoRow : OpenClaim := { program := "ytdojfkiocojpgaa", sum := "75c3622f6d4acf80b4ca8c68637c551df381bbbbc5cc7b08064c1057591ec2d6", func := "reeve/reevelaw01.BitsReads", spec := "bitsReads", apart := false, narrowed := true }
def BitsReadsUptoSaid : Prop := bitsReadsUptoRow.holds Try.pinned (OpenSpec.upto bitsReadsSpec)

/-- 'reevelaw01.BitsZigs', WHERE WHAT IT READS IS OF BULK AT MOST 1048576: true; the input reads as it did. -/
def bitsZigsUptoRow : OpenClaim := { program := "ytdojfkiocojpgaa", sum := "75c3622f6d4acf80b4ca8c68637c551df381bbbbc5cc7b08064c1057591ec2d6", func := "reeve/reevelaw01.BitsZigs", spec := "bitsZigs", apart := false, narrowed := true }
def BitsZigsUptoSaid : Prop := bitsZigsUptoRow.holds Try.pinned (OpenSpec.upto bitsZigsSpec)

/-- 'reevelaw01.BitsBack', WHERE WHAT IT READS IS OF BULK AT MOST 1048576: true; the input reads as it did. -/
def bitsBackUptoRow : OpenClaim := { program := "ytdojfkiocojpgaa", sum := "75c3622f6d4acf80b4ca8c68637c551df381bbbbc5cc7b08064c1057591ec2d6", func := "reeve/reevelaw01.BitsBack", spec := "bitsBack", apart := false, narrowed := true }
def BitsBackUptoSaid : Prop := bitsBackUptoRow.holds Try.pinned (OpenSpec.upto bitsBackSpec)

/-- 'reevelaw01.BitsForm', WHERE WHAT IT READS IS OF BULK AT MOST 1048576: true; the input reads as it did. -/
def bitsFormUptoRow : OpenClaim := { program := "ytdojfkiocojpgaa", sum := "75c3622f6d4acf80b4ca8c68637c551df381bbbbc5cc7b08064c1057591ec2d6", func := "reeve/reevelaw01.BitsForm", spec := "bitsForm", apart := false, narrowed := true }
def BitsFormUptoSaid : Prop := bitsFormUptoRow.holds Try.pinned (OpenSpec.upto bitsFormSpec)

/-- 'reevelaw01.BitsFolds', WHERE WHAT IT READS IS OF BULK AT MOST 1048576: true; the input reads as it did. -/
def bitsFoldsUptoRow : OpenClaim := { program := "ytdojfkiocojpgaa", sum := "75c3622f6d4acf80b4ca8c68637c551df381bbbbc5cc7b08064c1057591ec2d6", func := "reeve/reevelaw01.BitsFolds", spec := "bitsFolds", apart := false, narrowed := true }
def BitsFoldsUptoSaid : Prop := bitsFoldsUptoRow.holds Try.pinned (OpenSpec.upto bitsFoldsSpec)

/-- 'reevelaw01.BitsRows', WHERE WHAT IT READS IS OF BULK AT MOST 1048576: true; the input reads as it did. -/
def bitsRowsUptoRow : OpenClaim := { program := "ytdojfkiocojpgaa", sum := "75c3622f6d4acf80b4ca8c68637c551df381bbbbc5cc7b08064c1057591ec2d6", func := "reeve/reevelaw01.BitsRows", spec := "bitsRows", apart := false, narrowed := true }
def BitsRowsUptoSaid : Prop := bitsRowsUptoRow.holds Try.pinned (OpenSpec.upto bitsRowsSpec)

/-- 'reevelaw01.BitsTurned', WHERE WHAT IT READS IS OF BULK AT MOST 1048576: true; the input reads as it did. -/
def bitsTurnedUptoRow : OpenClaim := { program := "ytdojfkiocojpgaa", sum := "75c3622f6d4acf80b4ca8c68637c551df381bbbbc5cc7b08064c1057591ec2d6", func := "reeve/reevelaw01.BitsTurned", spec := "bitsTurned", apart := false, narrowed := true }
def BitsTurnedUptoSaid : Prop := bitsTurnedUptoRow.holds Try.pinned (OpenSpec.upto bitsTurnedSpec)

end Rows
end Go.Proofs.Ytdojfkiocojpgaa
