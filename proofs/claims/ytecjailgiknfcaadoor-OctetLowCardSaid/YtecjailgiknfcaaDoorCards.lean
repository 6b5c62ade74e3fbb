/-
  DERIVED. GIVEN WITH THE SEED: THE CARDS: each row of YtecjailgiknfcaaDoorRows.lean that lists a variable, with what it lists TIED to the program's text (the seventh form; the later family's looks); each row that meets fmt, with fmt's text TOLD by the authors' own Lean function (tested against real Go, not proved from fmt's source: count such statements apart). THE CARD IS WHAT COUNTS. Prove the row's statement (the work); the ties are given (YtecjailgiknfcaaDoorTie.lean); close each card by the builder's one call (the guide's Derived/Test/ToyasCard.lean, 'card_holds'). Laid BY PROGRAM, IN A SANDBOX (cutbox-door.mjs). By AI agents, Wed Nov 11 2026. No macro, syntax, notation, axiom, sorry.
-/
import Derived.Test.YtecjailgiknfcaaDoorRows
import GoSem.ClaimSeven
namespace Go.Proofs.YtecjailgiknfcaaDoor
namespace Rows

/-- THE TIED CARD OF 'bandolierlaw03.OctetTakes'. -/
def octetTakesCard : Claim7 := { stood := { row := octetTakesRow, standIns := [], harness := (true, "afb054649f23a05e535097b7db4c697f461ee575d8f72abdd525b33a0de6e0ac"), looks := true }, kinds := [], alts := [], laidByText := true, laidKinds := [.data, .pinned], laidTests := true, laidLooks := .later }
def OctetTakesCardSaid : Prop := Claim7.holds Tryd.pinned (.plain (OpenSpec.ofChange octetTakesSpec)) octetTakesCard

/-- THE TIED CARD OF 'bandolierlaw03.OctetLow'. -/
def octetLowCard : Claim7 := { stood := { row := octetLowRow, standIns := [], harness := (true, "afb054649f23a05e535097b7db4c697f461ee575d8f72abdd525b33a0de6e0ac"), looks := true }, kinds := [], alts := [], laidByText := true, laidKinds := [.data, .pinned], laidTests := true, laidLooks := .later }
def OctetLowCardSaid : Prop := Claim7.holds Tryd.pinned (.plain (OpenSpec.ofChange octetLowSpec)) octetLowCard

/-- THE TIED CARD OF 'bandolierlaw03.OctetBack'. -/
def octetBackCard : Claim7 := { stood := { row := octetBackRow, standIns := [], harness := (true, "afb054649f23a05e535097b7db4c697f461ee575d8f72abdd525b33a0de6e0ac"), looks := true }, kinds := [], alts := [], laidByText := true, laidKinds := [.data, .pinned], laidTests := true, laidLooks := .later }
def OctetBackCardSaid : Prop := Claim7.holds Tryd.pinned (.plain (OpenSpec.ofChange octetBackSpec)) octetBackCard

/-- THE SECOND FORM's CARD OF 'bandolierlaw03.OctetTakes'. -/
def octetTakesUptoCard : Claim7 := { stood := { row := octetTakesUptoRow, standIns := [], harness := (true, "afb054649f23a05e535097b7db4c697f461ee575d8f72abdd525b33a0de6e0ac"), looks := true }, kinds := [], alts := [], laidByText := true, laidKinds := [.data, .pinned], laidTests := true, laidLooks := .later }
def OctetTakesUptoCardSaid : Prop := Claim7.holds Tryd.pinned (.plain (OpenSpec.upto octetTakesSpec)) octetTakesUptoCard

/-- THE SECOND FORM's CARD OF 'bandolierlaw03.OctetLow'. -/
def octetLowUptoCard : Claim7 := { stood := { row := octetLowUptoRow, standIns := [], harness := (true, "afb054649f23a05e535097b7db4c697f461ee575d8f72abdd525b33a0de6e0ac"), looks := true }, kinds := [], alts := [], laidByText := true, laidKinds := [.data, .pinned], laidTests := true, laidLooks := .later }
def OctetLowUptoCardSaid : Prop := Claim7.holds Tryd.pinned (.plain (OpenSpec.upto octetLowSpec)) octetLowUptoCard

/-- THE SECOND FORM's CARD OF 'bandolierlaw03.OctetBack'. -/
def octetBackUptoCard : Claim7 := { stood := { row := octetBackUptoRow, standIns := [], harness := (true, "afb054649f23a05e535097b7db4c697f461ee575d8f72abdd525b33a0de6e0ac"), looks := true }, kinds := [], alts := [], laidByText := true, laidKinds := [.data, .pinned], laidTests := true, laidLooks := .later }
def OctetBackUptoCardSaid : Prop := Claim7.holds Tryd.pinned (.plain (OpenSpec.upto octetBackSpec)) octetBackUptoCard
end Rows
end Go.Proofs.YtecjailgiknfcaaDoor
