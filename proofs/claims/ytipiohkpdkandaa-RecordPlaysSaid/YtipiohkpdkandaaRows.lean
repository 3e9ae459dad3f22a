/-
  No cell of these rows narrows 'for every input' (looked for: loops, veiled, ifaces, maps, wideKeys, modest, calm, conditions, laid).
  DERIVED. THE GIVEN ROWS OF THIS SEAT. 14 by the template 'for every input the law returns true; each argument reads behind the call as it read before'; 0 by the template 'total and deterministic' (their statements: YtipiohkpdkandaaTotals.lean).
  GIVEN WITH THE SEED: the statements are not yours to turn. If you find one false, say at which input.
  Laid BY PROGRAM, IN A SANDBOX (cutbox-rows.mjs): the forced cells as the released guide's own fill.sh prints them over the translation b73d7b5249394542… (all of the seat's roots in one cut). By AI agents, Wed Nov 11 2026. No macro, syntax, notation, axiom, sorry.
-/
import Derived.Test.YtipiohkpdkandaaChecked
import GoSem.Claim
import GoSem.ClaimJoined
import GoSem.ClaimMapViews
import Derived.JoinedTies
import Derived.KernelRfl
namespace Go.Proofs.Ytipiohkpdkandaa
/- THE CELL 'sum', in the pinned program and in every row, IS THE sha256 OF THE DUMP (.gsa) THAT YtipiohkpdkandaaProg.lean LOADS. Nothing in Lean hashes anything: it is a label: what it is worth is what the hold of that sum in a sandbox is worth. -/
noncomputable def Try.pinned : Pinned := { name := "ytipiohkpdkandaa", sum := "b73d7b5249394542e59d0daf4609000fecc40fae266fd45a56191206628452a5", checked := Try.checked }
namespace Rows
def none {H : Type} : Left H := { results := [], args := [] }

/-- 'reevelaw06.RecordForm': WHATEVER THE INPUT: true; the input reads as it did. -/
def recordFormSpec : ChangeSpec := { name := "recordForm", fn := fun _ => fun
  | [d1, d2, d3, d4] => { results := [.lit (.bool true)], args := [d1, d2, d3, d4] }
  | _ => none }
def recordFormRow : OpenClaim := { program := "ytipiohkpdkandaa", sum := "b73d7b5249394542e59d0daf4609000fecc40fae266fd45a56191206628452a5", func := "reeve/reevelaw06.RecordForm", spec := "recordForm", inPlace := ["maps.clone"], apart := false }
def RecordFormSaid : Prop := recordFormRow.holds Try.pinned (OpenSpec.ofChange recordFormSpec)

/-- ITS FALSE NEIGHBOUR: 'it returns false'. Refute it at one input. -/
def recordFormWrong : ChangeSpec := { name := "recordForm", fn := fun _ => fun
  | [d1, d2, d3, d4] => { results := [.lit (.bool false)], args := [d1, d2, d3, d4] }
  | _ => none }
def RecordFormWrongFalsely : Prop := recordFormRow.holds Try.pinned (OpenSpec.ofChange recordFormWrong)

/-- 'reevelaw06.RecordPrefix': WHATEVER THE INPUT: true; the input reads as it did. -/
def recordPrefixSpec : ChangeSpec := { name := "recordPrefix", fn := fun _ => fun
  | [d1, d2, d3] => { results := [.lit (.bool true)], args := [d1, d2, d3] }
  | _ => none }
def recordPrefixRow : OpenClaim := { program := "ytipiohkpdkandaa", sum := "b73d7b5249394542e59d0daf4609000fecc40fae266fd45a56191206628452a5", func := "reeve/reevelaw06.RecordPrefix", spec := "recordPrefix", inPlace := ["maps.clone"], apart := false }
def RecordPrefixSaid : Prop := recordPrefixRow.holds Try.pinned (OpenSpec.ofChange recordPrefixSpec)

/-- ITS FALSE NEIGHBOUR: 'it returns false'. Refute it at one input. -/
def recordPrefixWrong : ChangeSpec := { name := "recordPrefix", fn := fun _ => fun
  | [d1, d2, d3] => { results := [.lit (.bool false)], args := [d1, d2, d3] }
  | _ => none }
def RecordPrefixWrongFalsely : Prop := recordPrefixRow.holds Try.pinned (OpenSpec.ofChange recordPrefixWrong)

/-- 'reevelaw05.DictLast': WHATEVER THE INPUT: true; the input reads as it did. -/
def dictLastSpec : ChangeSpec := { name := "dictLast", fn := fun _ => fun
  | [d1, d2] => { results := [.lit (.bool true)], args := [d1, d2] }
  | _ => none }
def dictLastRow : OpenClaim := { program := "ytipiohkpdkandaa", sum := "b73d7b5249394542e59d0daf4609000fecc40fae266fd45a56191206628452a5", func := "reeve/reevelaw05.DictLast", spec := "dictLast", apart := false }
def DictLastSaid : Prop := dictLastRow.holds Try.pinned (OpenSpec.ofChange dictLastSpec)

/-- ITS FALSE NEIGHBOUR: 'it returns false'. Refute it at one input. -/
def dictLastWrong : ChangeSpec := { name := "dictLast", fn := fun _ => fun
  | [d1, d2] => { results := [.lit (.bool false)], args := [d1, d2] }
  | _ => none }
def DictLastWrongFalsely : Prop := dictLastRow.holds Try.pinned (OpenSpec.ofChange dictLastWrong)

/-- 'reevelaw05.DictGreater': WHATEVER THE INPUT: true; the input reads as it did. -/
def dictGreaterSpec : ChangeSpec := { name := "dictGreater", fn := fun _ => fun
  | [d1, d2, d3] => { results := [.lit (.bool true)], args := [d1, d2, d3] }
  | _ => none }
def dictGreaterRow : OpenClaim := { program := "ytipiohkpdkandaa", sum := "b73d7b5249394542e59d0daf4609000fecc40fae266fd45a56191206628452a5", func := "reeve/reevelaw05.DictGreater", spec := "dictGreater", apart := false }
def DictGreaterSaid : Prop := dictGreaterRow.holds Try.pinned (OpenSpec.ofChange dictGreaterSpec)

/-- ITS FALSE NEIGHBOUR: 'it returns false'. Refute it at one input. -/
def dictGreaterWrong : ChangeSpec := { name := "dictGreater", fn := fun _ => fun
  | [d1, d2, d3] => { results := [.lit (.bool false)], args := [d1, d2, d3] }
  | _ => none }
def DictGreaterWrongFalsely : Prop := dictGreaterRow.holds Try.pinned (OpenSpec.ofChange dictGreaterWrong)

/-- 'reevelaw05.DictRefuses': WHATEVER THE INPUT: true; the input reads as it did. -/
def dictRefusesSpec : ChangeSpec := { name := "dictRefuses", fn := fun _ => fun
  | [d1, d2, d3, d4] => { results := [.lit (.bool true)], args := [d1, d2, d3, d4] }
  | _ => none }
def dictRefusesRow : OpenClaim := { program := "ytipiohkpdkandaa", sum := "b73d7b5249394542e59d0daf4609000fecc40fae266fd45a56191206628452a5", func := "reeve/reevelaw05.DictRefuses", spec := "dictRefuses", apart := false }
def DictRefusesSaid : Prop := dictRefusesRow.holds Try.pinned (OpenSpec.ofChange dictRefusesSpec)

/-- ITS FALSE NEIGHBOUR: 'it returns false'. Refute it at one input. -/
def dictRefusesWrong : ChangeSpec := { name := "dictRefuses", fn := fun _ => fun
  | [d1, d2, d3, d4] => { results := [.lit (.bool false)], args := [d1, d2, d3, d4] }
  | _ => none }
def DictRefusesWrongFalsely : Prop := dictRefusesRow.holds Try.pinned (OpenSpec.ofChange dictRefusesWrong)

/-- 'reevelaw05.DictPlays': WHATEVER THE INPUT: true; the input reads as it did. -/
def dictPlaysSpec : ChangeSpec := { name := "dictPlays", fn := fun _ => fun
  | [d1, d2] => { results := [.lit (.bool true)], args := [d1, d2] }
  | _ => none }
def dictPlaysRow : OpenClaim := { program := "ytipiohkpdkandaa", sum := "b73d7b5249394542e59d0daf4609000fecc40fae266fd45a56191206628452a5", func := "reeve/reevelaw05.DictPlays", spec := "dictPlays", inPlace := ["maps.clone"], apart := false }
def DictPlaysSaid : Prop := dictPlaysRow.holds Try.pinned (OpenSpec.ofChange dictPlaysSpec)

/-- ITS FALSE NEIGHBOUR: 'it returns false'. Refute it at one input. -/
def dictPlaysWrong : ChangeSpec := { name := "dictPlays", fn := fun _ => fun
  | [d1, d2] => { results := [.lit (.bool false)], args := [d1, d2] }
  | _ => none }
def DictPlaysWrongFalsely : Prop := dictPlaysRow.holds Try.pinned (OpenSpec.ofChange dictPlaysWrong)

/-- 'reevelaw05.DictStep': WHATEVER THE INPUT: true; the input reads as it did. -/
def dictStepSpec : ChangeSpec := { name := "dictStep", fn := fun _ => fun
  | [d1, d2] => { results := [.lit (.bool true)], args := [d1, d2] }
  | _ => none }
def dictStepRow : OpenClaim := { program := "ytipiohkpdkandaa", sum := "b73d7b5249394542e59d0daf4609000fecc40fae266fd45a56191206628452a5", func := "reeve/reevelaw05.DictStep", spec := "dictStep", inPlace := ["maps.clone"], apart := false }
def DictStepSaid : Prop := dictStepRow.holds Try.pinned (OpenSpec.ofChange dictStepSpec)

/-- ITS FALSE NEIGHBOUR: 'it returns false'. Refute it at one input. -/
def dictStepWrong : ChangeSpec := { name := "dictStep", fn := fun _ => fun
  | [d1, d2] => { results := [.lit (.bool false)], args := [d1, d2] }
  | _ => none }
def DictStepWrongFalsely : Prop := dictStepRow.holds Try.pinned (OpenSpec.ofChange dictStepWrong)

/-- 'reevelaw05.DictApart': WHATEVER THE INPUT: true; the input reads as it did. -/
def dictApartSpec : ChangeSpec := { name := "dictApart", fn := fun _ => fun
  | [d1, d2, d3] => { results := [.lit (.bool true)], args := [d1, d2, d3] }
  | _ => none }
def dictApartRow : OpenClaim := { program := "ytipiohkpdkandaa", sum := "b73d7b5249394542e59d0daf4609000fecc40fae266fd45a56191206628452a5", func := "reeve/reevelaw05.DictApart", spec := "dictApart", inPlace := ["maps.clone"], apart := false }
def DictApartSaid : Prop := dictApartRow.holds Try.pinned (OpenSpec.ofChange dictApartSpec)

/-- ITS FALSE NEIGHBOUR: 'it returns false'. Refute it at one input. -/
def dictApartWrong : ChangeSpec := { name := "dictApart", fn := fun _ => fun
  | [d1, d2, d3] => { results := [.lit (.bool false)], args := [d1, d2, d3] }
  | _ => none }
def DictApartWrongFalsely : Prop := dictApartRow.holds Try.pinned (OpenSpec.ofChange dictApartWrong)

/-- 'reevelaw06.RecordRights': WHATEVER THE INPUT: true; the input reads as it did. -/
def recordRightsSpec : ChangeSpec := { name := "recordRights", fn := fun _ => fun
  | [d1, d2] => { results := [.lit (.bool true)], args := [d1, d2] }
  | _ => none }
def recordRightsRow : OpenClaim := { program := "ytipiohkpdkandaa", sum := "b73d7b5249394542e59d0daf4609000fecc40fae266fd45a56191206628452a5", func := "reeve/reevelaw06.RecordRights", spec := "recordRights", apart := false }
def RecordRightsSaid : Prop := recordRightsRow.holds Try.pinned (OpenSpec.ofChange recordRightsSpec)

/-- ITS FALSE NEIGHBOUR: 'it returns false'. Refute it at one input. -/
def recordRightsWrong : ChangeSpec := { name := "recordRights", fn := fun _ => fun
  | [d1, d2] => { results := [.lit (.bool false)], args := [d1, d2] }
  | _ => none }
def RecordRightsWrongFalsely : Prop := recordRightsRow.holds Try.pinned (OpenSpec.ofChange recordRightsWrong)

/-- 'reevelaw06.RecordBack': WHATEVER THE INPUT: true; the input reads as it did. -/
def recordBackSpec : ChangeSpec := { name := "recordBack", fn := fun _ => fun
  | [d1, d2, d3] => { results := [.lit (.bool true)], args := [d1, d2, d3] }
  | _ => none }
def recordBackRow : OpenClaim := { program := "ytipiohkpdkandaa", sum := "b73d7b5249394542e59d0daf4609000fecc40fae266fd45a56191206628452a5", func := "reeve/reevelaw06.RecordBack", spec := "recordBack", apart := false }
def RecordBackSaid : Prop := recordBackRow.holds Try.pinned (OpenSpec.ofChange recordBackSpec)

/-- ITS FALSE NEIGHBOUR: 'it returns false'. Refute it at one input. -/
def recordBackWrong : ChangeSpec := { name := "recordBack", fn := fun _ => fun
  | [d1, d2, d3] => { results := [.lit (.bool false)], args := [d1, d2, d3] }
  | _ => none }
def RecordBackWrongFalsely : Prop := recordBackRow.holds Try.pinned (OpenSpec.ofChange recordBackWrong)

/-- 'reevelaw06.RecordSize': WHATEVER THE INPUT: true; the input reads as it did. -/
def recordSizeSpec : ChangeSpec := { name := "recordSize", fn := fun _ => fun
  | [d1, d2] => { results := [.lit (.bool true)], args := [d1, d2] }
  | _ => none }
def recordSizeRow : OpenClaim := { program := "ytipiohkpdkandaa", sum := "b73d7b5249394542e59d0daf4609000fecc40fae266fd45a56191206628452a5", func := "reeve/reevelaw06.RecordSize", spec := "recordSize", apart := false }
def RecordSizeSaid : Prop := recordSizeRow.holds Try.pinned (OpenSpec.ofChange recordSizeSpec)

/-- ITS FALSE NEIGHBOUR: 'it returns false'. Refute it at one input. -/
def recordSizeWrong : ChangeSpec := { name := "recordSize", fn := fun _ => fun
  | [d1, d2] => { results := [.lit (.bool false)], args := [d1, d2] }
  | _ => none }
def RecordSizeWrongFalsely : Prop := recordSizeRow.holds Try.pinned (OpenSpec.ofChange recordSizeWrong)

/-- 'reevelaw06.RecordLater': WHATEVER THE INPUT: true; the input reads as it did. -/
def recordLaterSpec : ChangeSpec := { name := "recordLater", fn := fun _ => fun
  | [d1, d2, d3] => { results := [.lit (.bool true)], args := [d1, d2, d3] }
  | _ => none }
def recordLaterRow : OpenClaim := { program := "ytipiohkpdkandaa", sum := "b73d7b5249394542e59d0daf4609000fecc40fae266fd45a56191206628452a5", func := "reeve/reevelaw06.RecordLater", spec := "recordLater", apart := false }
def RecordLaterSaid : Prop := recordLaterRow.holds Try.pinned (OpenSpec.ofChange recordLaterSpec)

/-- ITS FALSE NEIGHBOUR: 'it returns false'. Refute it at one input. -/
def recordLaterWrong : ChangeSpec := { name := "recordLater", fn := fun _ => fun
  | [d1, d2, d3] => { results := [.lit (.bool false)], args := [d1, d2, d3] }
  | _ => none }
def RecordLaterWrongFalsely : Prop := recordLaterRow.holds Try.pinned (OpenSpec.ofChange recordLaterWrong)

/-- 'reevelaw06.RecordTorn': WHATEVER THE INPUT: true; the input reads as it did. -/
def recordTornSpec : ChangeSpec := { name := "recordTorn", fn := fun _ => fun
  | [d1, d2, d3] => { results := [.lit (.bool true)], args := [d1, d2, d3] }
  | _ => none }
def recordTornRow : OpenClaim := { program := "ytipiohkpdkandaa", sum := "b73d7b5249394542e59d0daf4609000fecc40fae266fd45a56191206628452a5", func := "reeve/reevelaw06.RecordTorn", spec := "recordTorn", apart := false }
def RecordTornSaid : Prop := recordTornRow.holds Try.pinned (OpenSpec.ofChange recordTornSpec)

/-- ITS FALSE NEIGHBOUR: 'it returns false'. Refute it at one input. -/
def recordTornWrong : ChangeSpec := { name := "recordTorn", fn := fun _ => fun
  | [d1, d2, d3] => { results := [.lit (.bool false)], args := [d1, d2, d3] }
  | _ => none }
def RecordTornWrongFalsely : Prop := recordTornRow.holds Try.pinned (OpenSpec.ofChange recordTornWrong)

/-- 'reevelaw06.RecordPlays': WHATEVER THE INPUT: true; the input reads as it did. -/
def recordPlaysSpec : ChangeSpec := { name := "recordPlays", fn := fun _ => fun
  | [d1, d2] => { results := [.lit (.bool true)], args := [d1, d2] }
  | _ => none }
def recordPlaysRow : OpenClaim := { program := "ytipiohkpdkandaa", sum := "b73d7b5249394542e59d0daf4609000fecc40fae266fd45a56191206628452a5", func := "reeve/reevelaw06.RecordPlays", spec := "recordPlays", inPlace := ["maps.clone"], apart := false }
def RecordPlaysSaid : Prop := recordPlaysRow.holds Try.pinned (OpenSpec.ofChange recordPlaysSpec)

/-- ITS FALSE NEIGHBOUR: 'it returns false'. Refute it at one input. -/
def recordPlaysWrong : ChangeSpec := { name := "recordPlays", fn := fun _ => fun
  | [d1, d2] => { results := [.lit (.bool false)], args := [d1, d2] }
  | _ => none }
def RecordPlaysWrongFalsely : Prop := recordPlaysRow.holds Try.pinned (OpenSpec.ofChange recordPlaysWrong)

/- THE SECOND FORM. 'bulk': how many values and letters a reading holds, each counted each time it is reached (what is shared counts as often as it is met; a slice's spare places count too). A statement '..UptoSaid' is the law's where the arguments, and the package variables that the reading takes, are together of bulk at most 1048576: NARROWER than '..Said'. Prove '..Said' where nothing that the law and all that it calls make is longer than what came in: it says more and counts as full. Else prove '..UptoSaid'. A law counts once. -/
mutual
def uptoBulk {H : Type} : DataW H → Nat
  | .lit (.string bytes) => bytes.length + 1
  | .lit _ => 1
  | .nil => 1
  | .ptr d => uptoBulk d + 1
  | .slice elems spare => uptoBulkAll elems + uptoBulkAll spare + 1
  | .agg parts => uptoBulkAll parts + 1
  | .iface _ d => uptoBulk d + 1
  | .map entries => uptoBulkEntries entries + 1
  | .held _ => 1
def uptoBulkAll {H : Type} : List (DataW H) → Nat
  | [] => 0
  | d :: r => uptoBulk d + uptoBulkAll r
def uptoBulkEntries {H : Type} : List (Lit × DataW H) → Nat
  | [] => 0
  | x :: r => uptoBulkEntry x + uptoBulkEntries r
def uptoBulkEntry {H : Type} : Lit × DataW H → Nat
  | (.string bytes, d) => bytes.length + uptoBulk d + 1
  | (_, d) => uptoBulk d + 1
 end
def uptoSmall : (H : Type) → List (DataW H) → Bool := fun _ ds => decide (uptoBulkAll ds ≤ 1048576)
def OpenSpec.upto (s : _root_.Go.ChangeSpec) : _root_.Go.OpenSpec := { _root_.Go.OpenSpec.ofChange s with cond := some uptoSmall }

/-- 'reevelaw06.RecordForm', WHERE WHAT IT READS IS OF BULK AT MOST 1048576: true; the input reads as it did. -/
def recordFormUptoRow : OpenClaim := { program := "ytipiohkpdkandaa", sum := "b73d7b5249394542e59d0daf4609000fecc40fae266fd45a56191206628452a5", func := "reeve/reevelaw06.RecordForm", spec := "recordForm", inPlace := ["maps.clone"], apart := false, narrowed := true }
def RecordFormUptoSaid : Prop := recordFormUptoRow.holds Try.pinned (OpenSpec.upto recordFormSpec)

/-- 'reevelaw06.RecordPrefix', WHERE WHAT IT READS IS OF BULK AT MOST 1048576: true; the input reads as it did. -/
def recordPrefixUptoRow : OpenClaim := { program := "ytipiohkpdkandaa", sum := "b73d7b5249394542e59d0daf4609000fecc40fae266fd45a56191206628452a5", func := "reeve/reevelaw06.RecordPrefix", spec := "recordPrefix", inPlace := ["maps.clone"], apart := false, narrowed := true }
def RecordPrefixUptoSaid : Prop := recordPrefixUptoRow.holds Try.pinned (OpenSpec.upto recordPrefixSpec)

/-- 'reevelaw05.DictLast', WHERE WHAT IT READS IS OF BULK AT MOST 1048576: true; the input reads as it did. -/
def dictLastUptoRow : OpenClaim := { program := "ytipiohkpdkandaa", sum := "b73d7b5249394542e59d0daf4609000fecc40fae266fd45a56191206628452a5", func := "reeve/reevelaw05.DictLast", spec := "dictLast", apart := false, narrowed := true }
def DictLastUptoSaid : Prop := dictLastUptoRow.holds Try.pinned (OpenSpec.upto dictLastSpec)

/-- 'reevelaw05.DictGreater', WHERE WHAT IT READS IS OF BULK AT MOST 1048576: true; the input reads as it did. -/
def dictGreaterUptoRow : OpenClaim := { program := "ytipiohkpdkandaa", sum := "b73d7b5249394542e59d0daf4609000fecc40fae266fd45a56191206628452a5", func := "reeve/reevelaw05.DictGreater", spec := "dictGreater", apart := false, narrowed := true }
def DictGreaterUptoSaid : Prop := dictGreaterUptoRow.holds Try.pinned (OpenSpec.upto dictGreaterSpec)

/-- 'reevelaw05.DictRefuses', WHERE WHAT IT READS IS OF BULK AT MOST 1048576: true; the input reads as it did. -/
def dictRefusesUptoRow : OpenClaim := { program := "ytipiohkpdkandaa", sum := "b73d7b5249394542e59d0daf4609000fecc40fae266fd45a56191206628452a5", func := "reeve/reevelaw05.DictRefuses", spec := "dictRefuses", apart := false, narrowed := true }
def DictRefusesUptoSaid : Prop := dictRefusesUptoRow.holds Try.pinned (OpenSpec.upto dictRefusesSpec)

/-- 'reevelaw05.DictPlays', WHERE WHAT IT READS IS OF BULK AT MOST 1048576: true; the input reads as it did. -/
def dictPlaysUptoRow : OpenClaim := { program := "ytipiohkpdkandaa", sum := "b73d7b5249394542e59d0daf4609000fecc40fae266fd45a56191206628452a5", func := "reeve/reevelaw05.DictPlays", spec := "dictPlays", inPlace := ["maps.clone"], apart := false, narrowed := true }
def DictPlaysUptoSaid : Prop := dictPlaysUptoRow.holds Try.pinned (OpenSpec.upto dictPlaysSpec)

/-- 'reevelaw05.DictStep', WHERE WHAT IT READS IS OF BULK AT MOST 1048576: true; the input reads as it did. -/
def dictStepUptoRow : OpenClaim := { program := "ytipiohkpdkandaa", sum := "b73d7b5249394542e59d0daf4609000fecc40fae266fd45a56191206628452a5", func := "reeve/reevelaw05.DictStep", spec := "dictStep", inPlace := ["maps.clone"], apart := false, narrowed := true }
def DictStepUptoSaid : Prop := dictStepUptoRow.holds Try.pinned (OpenSpec.upto dictStepSpec)

/-- 'reevelaw05.DictApart', WHERE WHAT IT READS IS OF BULK AT MOST 1048576: true; the input reads as it did. -/
def dictApartUptoRow : OpenClaim := { program := "ytipiohkpdkandaa", sum := "b73d7b5249394542e59d0daf4609000fecc40fae266fd45a56191206628452a5", func := "reeve/reevelaw05.DictApart", spec := "dictApart", inPlace := ["maps.clone"], apart := false, narrowed := true }
def DictApartUptoSaid : Prop := dictApartUptoRow.holds Try.pinned (OpenSpec.upto dictApartSpec)

/-- 'reevelaw06.RecordRights', WHERE WHAT IT READS IS OF BULK AT MOST 1048576: true; the input reads as it did. -/
def recordRightsUptoRow : OpenClaim := { program := "ytipiohkpdkandaa", sum := "b73d7b5249394542e59d0daf4609000fecc40fae266fd45a56191206628452a5", func := "reeve/reevelaw06.RecordRights", spec := "recordRights", apart := false, narrowed := true }
def RecordRightsUptoSaid : Prop := recordRightsUptoRow.holds Try.pinned (OpenSpec.upto recordRightsSpec)

/-- 'reevelaw06.RecordBack', WHERE WHAT IT READS IS OF BULK AT MOST 1048576: true; the input reads as it did. -/
def recordBackUptoRow : OpenClaim := { program := "ytipiohkpdkandaa", sum := "b73d7b5249394542e59d0daf4609000fecc40fae266fd45a56191206628452a5", func := "reeve/reevelaw06.RecordBack", spec := "recordBack", apart := false, narrowed := true }
def RecordBackUptoSaid : Prop := recordBackUptoRow.holds Try.pinned (OpenSpec.upto recordBackSpec)

/-- 'reevelaw06.RecordSize', WHERE WHAT IT READS IS OF BULK AT MOST 1048576: true; the input reads as it did. -/
def recordSizeUptoRow : OpenClaim := { program := "ytipiohkpdkandaa", sum := "b73d7b5249394542e59d0daf4609000fecc40fae266fd45a56191206628452a5", func := "reeve/reevelaw06.RecordSize", spec := "recordSize", apart := false, narrowed := true }
def RecordSizeUptoSaid : Prop := recordSizeUptoRow.holds Try.pinned (OpenSpec.upto recordSizeSpec)

/-- 'reevelaw06.RecordLater', WHERE WHAT IT READS IS OF BULK AT MOST 1048576: true; the input reads as it did. -/
def recordLaterUptoRow : OpenClaim := { program := "ytipiohkpdkandaa", sum := "b73d7b5249394542e59d0daf4609000fecc40fae266fd45a56191206628452a5", func := "reeve/reevelaw06.RecordLater", spec := "recordLater", apart := false, narrowed := true }
def RecordLaterUptoSaid : Prop := recordLaterUptoRow.holds Try.pinned (OpenSpec.upto recordLaterSpec)

/-- 'reevelaw06.RecordTorn', WHERE WHAT IT READS IS OF BULK AT MOST 1048576: true; the input reads as it did. -/
def recordTornUptoRow : OpenClaim := { program := "ytipiohkpdkandaa", sum := "b73d7b5249394542e59d0daf4609000fecc40fae266fd45a56191206628452a5", func := "reeve/reevelaw06.RecordTorn", spec := "recordTorn", apart := false, narrowed := true }
def RecordTornUptoSaid : Prop := recordTornUptoRow.holds Try.pinned (OpenSpec.upto recordTornSpec)

/-- 'reevelaw06.RecordPlays', WHERE WHAT IT READS IS OF BULK AT MOST 1048576: true; the input reads as it did. -/
def recordPlaysUptoRow : OpenClaim := { program := "ytipiohkpdkandaa", sum := "b73d7b5249394542e59d0daf4609000fecc40fae266fd45a56191206628452a5", func := "reeve/reevelaw06.RecordPlays", spec := "recordPlays", inPlace := ["maps.clone"], apart := false, narrowed := true }
def RecordPlaysUptoSaid : Prop := recordPlaysUptoRow.holds Try.pinned (OpenSpec.upto recordPlaysSpec)

end Rows
end Go.Proofs.Ytipiohkpdkandaa
