/-
  No cell of these rows narrows 'for every input' (looked for: loops, veiled, ifaces, maps, wideKeys, modest, calm, conditions, laid).
  DERIVED. THE GIVEN ROWS OF THIS SEAT. 9 by the template 'for every input the law returns true; each argument reads behind the call as it read before'; 0 by the template 'total and deterministic' (their statements: YtecjailgiknfcaaTotals.lean).
  GIVEN WITH THE SEED: the statements are not yours to turn. If you find one false, say at which input.
  Laid BY PROGRAM, IN A SANDBOX (cutbox-rows.mjs): the forced cells as the released guide's own fill.sh prints them over the translation 33e0b7b80f57cf61… (all of the seat's roots in one cut). By AI agents, Wed Nov 11 2026. No macro, syntax, notation, axiom, sorry.
-/
import Derived.Test.YtecjailgiknfcaaChecked
import GoSem.Claim
import GoSem.ClaimJoined
import GoSem.ClaimMapViews
import Derived.JoinedTies
import Derived.KernelRfl
namespace Go.Proofs.Ytecjailgiknfcaa
/- THE CELL 'sum', in the pinned program and in every row, IS THE sha256 OF THE DUMP (.gsa) THAT YtecjailgiknfcaaProg.lean LOADS. Nothing in Lean hashes anything: it is a label: what it is worth is what the hold of that sum in a sandbox is worth. -/
noncomputable def Try.pinned : Pinned := { name := "ytecjailgiknfcaa", sum := "33e0b7b80f57cf6159184f275bb6d09197dc46bf8e6cacc7ebb13ffa813b8182", checked := Try.checked }
namespace Rows
def none {H : Type} : Left H := { results := [], args := [] }

/-- 'bandolierlaw16.GateSegments': WHATEVER THE INPUT: true; the input reads as it did. -/
def gateSegmentsSpec : ChangeSpec := { name := "gateSegments", fn := fun _ => fun
  | [d1, d2] => { results := [.lit (.bool true)], args := [d1, d2] }
  | _ => none }
def gateSegmentsRow : OpenClaim := { program := "ytecjailgiknfcaa", sum := "33e0b7b80f57cf6159184f275bb6d09197dc46bf8e6cacc7ebb13ffa813b8182", func := "bandolier/bandolierlaw16.GateSegments", spec := "gateSegments", apart := false }
def GateSegmentsSaid : Prop := gateSegmentsRow.holds Try.pinned (OpenSpec.ofChange gateSegmentsSpec)

/-- ITS FALSE NEIGHBOUR: 'it returns false'. Refute it at one input. -/
def gateSegmentsWrong : ChangeSpec := { name := "gateSegments", fn := fun _ => fun
  | [d1, d2] => { results := [.lit (.bool false)], args := [d1, d2] }
  | _ => none }
def GateSegmentsWrongFalsely : Prop := gateSegmentsRow.holds Try.pinned (OpenSpec.ofChange gateSegmentsWrong)

/-- 'bandolierlaw02.SumTable': WHATEVER THE INPUT: true; the input reads as it did. -/
def sumTableSpec : ChangeSpec := { name := "sumTable", fn := fun _ => fun
  | [d1, d2] => { results := [.lit (.bool true)], args := [d1, d2] }
  | _ => none }
def sumTableRow : OpenClaim := { program := "ytecjailgiknfcaa", sum := "33e0b7b80f57cf6159184f275bb6d09197dc46bf8e6cacc7ebb13ffa813b8182", func := "bandolier/bandolierlaw02.SumTable", spec := "sumTable", apart := false }
def SumTableSaid : Prop := sumTableRow.holds Try.pinned (OpenSpec.ofChange sumTableSpec)

/-- ITS FALSE NEIGHBOUR: 'it returns false'. Refute it at one input. -/
def sumTableWrong : ChangeSpec := { name := "sumTable", fn := fun _ => fun
  | [d1, d2] => { results := [.lit (.bool false)], args := [d1, d2] }
  | _ => none }
def SumTableWrongFalsely : Prop := sumTableRow.holds Try.pinned (OpenSpec.ofChange sumTableWrong)

/-- 'bandolierlaw02.SumTells': WHATEVER THE INPUT: true; the input reads as it did. -/
def sumTellsSpec : ChangeSpec := { name := "sumTells", fn := fun _ => fun
  | [d1, d2, d3] => { results := [.lit (.bool true)], args := [d1, d2, d3] }
  | _ => none }
def sumTellsRow : OpenClaim := { program := "ytecjailgiknfcaa", sum := "33e0b7b80f57cf6159184f275bb6d09197dc46bf8e6cacc7ebb13ffa813b8182", func := "bandolier/bandolierlaw02.SumTells", spec := "sumTells", apart := false }
def SumTellsSaid : Prop := sumTellsRow.holds Try.pinned (OpenSpec.ofChange sumTellsSpec)

/-- ITS FALSE NEIGHBOUR: 'it returns false'. Refute it at one input. -/
def sumTellsWrong : ChangeSpec := { name := "sumTells", fn := fun _ => fun
  | [d1, d2, d3] => { results := [.lit (.bool false)], args := [d1, d2, d3] }
  | _ => none }
def SumTellsWrongFalsely : Prop := sumTellsRow.holds Try.pinned (OpenSpec.ofChange sumTellsWrong)

/-- 'bandolierlaw02.SumLinear': WHATEVER THE INPUT: true; the input reads as it did. -/
def sumLinearSpec : ChangeSpec := { name := "sumLinear", fn := fun _ => fun
  | [d1, d2, d3] => { results := [.lit (.bool true)], args := [d1, d2, d3] }
  | _ => none }
def sumLinearRow : OpenClaim := { program := "ytecjailgiknfcaa", sum := "33e0b7b80f57cf6159184f275bb6d09197dc46bf8e6cacc7ebb13ffa813b8182", func := "bandolier/bandolierlaw02.SumLinear", spec := "sumLinear", apart := false }
def SumLinearSaid : Prop := sumLinearRow.holds Try.pinned (OpenSpec.ofChange sumLinearSpec)

/-- ITS FALSE NEIGHBOUR: 'it returns false'. Refute it at one input. -/
def sumLinearWrong : ChangeSpec := { name := "sumLinear", fn := fun _ => fun
  | [d1, d2, d3] => { results := [.lit (.bool false)], args := [d1, d2, d3] }
  | _ => none }
def SumLinearWrongFalsely : Prop := sumLinearRow.holds Try.pinned (OpenSpec.ofChange sumLinearWrong)

/-- 'bandolierlaw02.SumIs': WHATEVER THE INPUT: true; the input reads as it did. -/
def sumIsSpec : ChangeSpec := { name := "sumIs", fn := fun _ => fun
  | [d1, d2] => { results := [.lit (.bool true)], args := [d1, d2] }
  | _ => none }
def sumIsRow : OpenClaim := { program := "ytecjailgiknfcaa", sum := "33e0b7b80f57cf6159184f275bb6d09197dc46bf8e6cacc7ebb13ffa813b8182", func := "bandolier/bandolierlaw02.SumIs", spec := "sumIs", apart := false }
def SumIsSaid : Prop := sumIsRow.holds Try.pinned (OpenSpec.ofChange sumIsSpec)

/-- ITS FALSE NEIGHBOUR: 'it returns false'. Refute it at one input. -/
def sumIsWrong : ChangeSpec := { name := "sumIs", fn := fun _ => fun
  | [d1, d2] => { results := [.lit (.bool false)], args := [d1, d2] }
  | _ => none }
def SumIsWrongFalsely : Prop := sumIsRow.holds Try.pinned (OpenSpec.ofChange sumIsWrong)

/-- 'bandolierlaw03.OctetHex': WHATEVER THE INPUT: true; the input reads as it did. -/
def octetHexSpec : ChangeSpec := { name := "octetHex", fn := fun _ => fun
  | [d1, d2] => { results := [.lit (.bool true)], args := [d1, d2] }
  | _ => none }
def octetHexRow : OpenClaim := { program := "ytecjailgiknfcaa", sum := "33e0b7b80f57cf6159184f275bb6d09197dc46bf8e6cacc7ebb13ffa813b8182", func := "bandolier/bandolierlaw03.OctetHex", spec := "octetHex", inPlace := ["internal/abi.NoEscape", "internal/bytealg.IndexByteString"], apart := false }
def OctetHexSaid : Prop := octetHexRow.holds Try.pinned (OpenSpec.ofChange octetHexSpec)

/-- ITS FALSE NEIGHBOUR: 'it returns false'. Refute it at one input. -/
def octetHexWrong : ChangeSpec := { name := "octetHex", fn := fun _ => fun
  | [d1, d2] => { results := [.lit (.bool false)], args := [d1, d2] }
  | _ => none }
def OctetHexWrongFalsely : Prop := octetHexRow.holds Try.pinned (OpenSpec.ofChange octetHexWrong)

/-- 'bandolierlaw03.OctetPanics': WHATEVER THE INPUT: true; the input reads as it did. -/
def octetPanicsSpec : ChangeSpec := { name := "octetPanics", fn := fun _ => fun
  | [d] => { results := [.lit (.bool true)], args := [d] }
  | _ => none }
def octetPanicsRow : OpenClaim := { program := "ytecjailgiknfcaa", sum := "33e0b7b80f57cf6159184f275bb6d09197dc46bf8e6cacc7ebb13ffa813b8182", func := "bandolier/bandolierlaw03.OctetPanics", spec := "octetPanics", inPlace := ["internal/abi.NoEscape"], unfollowed := true, recurses := true, apart := false }
def OctetPanicsSaid : Prop := octetPanicsRow.holds Try.pinned (OpenSpec.ofChange octetPanicsSpec)

/-- ITS FALSE NEIGHBOUR: 'it returns false'. Refute it at one input. -/
def octetPanicsWrong : ChangeSpec := { name := "octetPanics", fn := fun _ => fun
  | [d] => { results := [.lit (.bool false)], args := [d] }
  | _ => none }
def OctetPanicsWrongFalsely : Prop := octetPanicsRow.holds Try.pinned (OpenSpec.ofChange octetPanicsWrong)

/-- 'bandolierlaw10.RosterFull': WHATEVER THE INPUT: true; the input reads as it did. -/
def rosterFullSpec : ChangeSpec := { name := "rosterFull", fn := fun _ => fun
  | [d1, d2] => { results := [.lit (.bool true)], args := [d1, d2] }
  | _ => none }
def rosterFullRow : OpenClaim := { program := "ytecjailgiknfcaa", sum := "33e0b7b80f57cf6159184f275bb6d09197dc46bf8e6cacc7ebb13ffa813b8182", func := "bandolier/bandolierlaw10.RosterFull", spec := "rosterFull", inPlace := ["slices.overlaps[bandolier/roster.Member]", "internal/abi.NoEscape"], unfollowed := true, recurses := true, apart := false }
def RosterFullSaid : Prop := rosterFullRow.holds Try.pinned (OpenSpec.ofChange rosterFullSpec)

/-- ITS FALSE NEIGHBOUR: 'it returns false'. Refute it at one input. -/
def rosterFullWrong : ChangeSpec := { name := "rosterFull", fn := fun _ => fun
  | [d1, d2] => { results := [.lit (.bool false)], args := [d1, d2] }
  | _ => none }
def RosterFullWrongFalsely : Prop := rosterFullRow.holds Try.pinned (OpenSpec.ofChange rosterFullWrong)

/-- 'bandolierlaw10.RosterPlays': WHATEVER THE INPUT: true; the input reads as it did. -/
def rosterPlaysSpec : ChangeSpec := { name := "rosterPlays", fn := fun _ => fun
  | [d] => { results := [.lit (.bool true)], args := [d] }
  | _ => none }
def rosterPlaysRow : OpenClaim := { program := "ytecjailgiknfcaa", sum := "33e0b7b80f57cf6159184f275bb6d09197dc46bf8e6cacc7ebb13ffa813b8182", func := "bandolier/bandolierlaw10.RosterPlays", spec := "rosterPlays", inPlace := ["slices.overlaps[bandolier/roster.Member]"], unfollowed := true, recurses := true, apart := false }
def RosterPlaysSaid : Prop := rosterPlaysRow.holds Try.pinned (OpenSpec.ofChange rosterPlaysSpec)

/-- ITS FALSE NEIGHBOUR: 'it returns false'. Refute it at one input. -/
def rosterPlaysWrong : ChangeSpec := { name := "rosterPlays", fn := fun _ => fun
  | [d] => { results := [.lit (.bool false)], args := [d] }
  | _ => none }
def RosterPlaysWrongFalsely : Prop := rosterPlaysRow.holds Try.pinned (OpenSpec.ofChange rosterPlaysWrong)

/- THE SECOND FORM. 'bulk': how many values and letters a reading holds, each counted each time it is reached (what is shared counts as often as it is met; a slice's spare places count too). A statement '..UptoSaid' is the law's where the arguments, and the package variables that the reading takes, are together of bulk at most 1048576: NARROWER than '..Said'. Prove '..Said' where nothing that the law and all that it calls make is longer than what came in: it says more and counts as full. Else prove '..UptoSaid'. A law counts once. -/
mutual
def uptoBulk {H : Type} : DataW H → Nat
  | .lit (.string bytes) => bytes.length + 1
  | .lit _ => 1
  | .nil => 1
  | .ptr d => uptoBulk d + 1
  | .slice elems spare => uptoBulkAll elems + uptoBulkAll spare + 1
  | .agg parts => uptoBulkAll parts + 1
  | .iface _ d => uptoBulk d + 1
  | .map entries => uptoBulkEntries entries + 1
  | .held _ => 1
def uptoBulkAll {H : Type} : List (DataW H) → Nat
  | [] => 0
  | d :: r => uptoBulk d + uptoBulkAll r
def uptoBulkEntries {H : Type} : List (Lit × DataW H) → Nat
  | [] => 0
  | x :: r => uptoBulkEntry x + uptoBulkEntries r
def uptoBulkEntry {H : Type} : Lit × DataW H → Nat
  | (.string bytes, d) => bytes.length + uptoBulk d + 1
  | (_, d) => uptoBulk d + 1
 end
def uptoSmall : (H : Type) → List (DataW H) → Bool := fun _ ds => decide (uptoBulkAll ds ≤ 1048576)
def OpenSpec.upto (s : _root_.Go.ChangeSpec) : _root_.Go.OpenSpec := { _root_.Go.OpenSpec.ofChange s with cond := some uptoSmall }

/-- 'bandolierlaw16.GateSegments', WHERE WHAT IT READS IS OF BULK AT MOST 1048576: true; the input reads as it did. -/
def gateSegmentsUptoRow : OpenClaim := { program := "ytecjailgiknfcaa", sum := "33e0b7b80f57cf6159184f275bb6d09197dc46bf8e6cacc7ebb13ffa813b8182", func := "bandolier/bandolierlaw16.GateSegments", spec := "gateSegments", apart := false, narrowed := true }
def GateSegmentsUptoSaid : Prop := gateSegmentsUptoRow.holds Try.pinned (OpenSpec.upto gateSegmentsSpec)

/-- 'bandolierlaw02.SumTable', WHERE WHAT IT READS IS OF BULK AT MOST 1048576: true; the input reads as it did. -/
def sumTableUptoRow : OpenClaim := { program := "ytecjailgiknfcaa", sum := "33e0b7b80f57cf6159184f275bb6d09197dc46bf8e6cacc7ebb13ffa813b8182", func := "bandolier/bandolierlaw02.SumTable", spec := "sumTable", apart := false, narrowed := true }
def SumTableUptoSaid : Prop := sumTableUptoRow.holds Try.pinned (OpenSpec.upto sumTableSpec)

/-- 'bandolierlaw02.SumTells', WHERE WHAT IT READS IS OF BULK AT MOST 1048576: true; the input reads as it did. -/
def sumTellsUptoRow : OpenClaim := { program := "ytecjailgiknfcaa", sum := "33e0b7b80f57cf6159184f275bb6d09197dc46bf8e6cacc7ebb13ffa813b8182", func := "bandolier/bandolierlaw02.SumTells", spec := "sumTells", apart := false, narrowed := true }
def SumTellsUptoSaid : Prop := sumTellsUptoRow.holds Try.pinned (OpenSpec.upto sumTellsSpec)

/-- 'bandolierlaw02.SumLinear', WHERE WHAT IT READS IS OF BULK AT MOST 1048576: true; the input reads as it did. -/
def sumLinearUptoRow : OpenClaim := { program := "ytecjailgiknfcaa", sum := "33e0b7b80f57cf6159184f275bb6d09197dc46bf8e6cacc7ebb13ffa813b8182", func := "bandolier/bandolierlaw02.SumLinear", spec := "sumLinear", apart := false, narrowed := true }
def SumLinearUptoSaid : Prop := sumLinearUptoRow.holds Try.pinned (OpenSpec.upto sumLinearSpec)

/-- 'bandolierlaw02.SumIs', WHERE WHAT IT READS IS OF BULK AT MOST 1048576: true; the input reads as it did. -/
def sumIsUptoRow : OpenClaim := { program := "ytecjailgiknfcaa", sum := "33e0b7b80f57cf6159184f275bb6d09197dc46bf8e6cacc7ebb13ffa813b8182", func := "bandolier/bandolierlaw02.SumIs", spec := "sumIs", apart := false, narrowed := true }
def SumIsUptoSaid : Prop := sumIsUptoRow.holds Try.pinned (OpenSpec.upto sumIsSpec)

/-- 'bandolierlaw03.OctetHex', WHERE WHAT IT READS IS OF BULK AT MOST 1048576: true; the input reads as it did. -/
def octetHexUptoRow : OpenClaim := { program := "ytecjailgiknfcaa", sum := "33e0b7b80f57cf6159184f275bb6d09197dc46bf8e6cacc7ebb13ffa813b8182", func := "bandolier/bandolierlaw03.OctetHex", spec := "octetHex", inPlace := ["internal/abi.NoEscape", "internal/bytealg.IndexByteString"], apart := false, narrowed := true }
def OctetHexUptoSaid : Prop := octetHexUptoRow.holds Try.pinned (OpenSpec.upto octetHexSpec)

/-- 'bandolierlaw03.OctetPanics', WHERE WHAT IT READS IS OF BULK AT MOST 1048576: true; the input reads as it did. -/
def octetPanicsUptoRow : OpenClaim := { program := "ytecjailgiknfcaa", sum := "33e0b7b80f57cf6159184f275bb6d09197dc46bf8e6cacc7ebb13ffa813b8182", func := "bandolier/bandolierlaw03.OctetPanics", spec := "octetPanics", inPlace := ["internal/abi.NoEscape"], unfollowed := true, recurses := true, apart := false, narrowed := true }
def OctetPanicsUptoSaid : Prop := octetPanicsUptoRow.holds Try.pinned (OpenSpec.upto octetPanicsSpec)

/-- 'bandolierlaw10.RosterFull', WHERE WHAT IT READS IS OF BULK AT MOST 1048576: true; the input reads as it did. -/
def rosterFullUptoRow : OpenClaim := { program := "ytecjailgiknfcaa", sum := "33e0b7b80f57cf6159184f275bb6d09197dc46bf8e6cacc7ebb13ffa813b8182", func := "bandolier/bandolierlaw10.RosterFull", spec := "rosterFull", inPlace := ["slices.overlaps[bandolier/roster.Member]", "internal/abi.NoEscape"], unfollowed := true, recurses := true, apart := false, narrowed := true }
def RosterFullUptoSaid : Prop := rosterFullUptoRow.holds Try.pinned (OpenSpec.upto rosterFullSpec)

/-- 'bandolierlaw10.RosterPlays', WHERE WHAT IT READS IS OF BULK AT MOST 1048576: true; the input reads as it did. -/
def rosterPlaysUptoRow : OpenClaim := { program := "ytecjailgiknfcaa", sum := "33e0b7b80f57cf6159184f275bb6d09197dc46bf8e6cacc7ebb13ffa813b8182", func := "bandolier/bandolierlaw10.RosterPlays", spec := "rosterPlays", inPlace := ["slices.overlaps[bandolier/roster.Member]"], unfollowed := true, recurses := true, apart := false, narrowed := true }
def RosterPlaysUptoSaid : Prop := rosterPlaysUptoRow.holds Try.pinned (OpenSpec.upto rosterPlaysSpec)

end Rows
end Go.Proofs.Ytecjailgiknfcaa
