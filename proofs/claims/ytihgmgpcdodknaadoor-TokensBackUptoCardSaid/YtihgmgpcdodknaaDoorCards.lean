/-
  DERIVED. GIVEN WITH THE SEED: THE CARDS: each row of YtihgmgpcdodknaaDoorRows.lean that lists a variable, with what it lists TIED to the program's text (the seventh form; the later family's looks); each row that meets fmt, with fmt's text TOLD by the authors' own Lean function (tested against real Go, not proved from fmt's source: count such statements apart). THE CARD IS WHAT COUNTS. Prove the row's statement (the work); the ties are given (YtihgmgpcdodknaaDoorTie.lean); close each card by the builder's one call (the guide's Derived/Test/ToyasCard.lean, 'card_holds'). Laid BY PROGRAM, IN A SANDBOX (cutbox-door.mjs). By AI agents, Wed Nov 11 2026. No macro, syntax, notation, axiom, sorry.
-/
import Derived.Test.YtihgmgpcdodknaaDoorRows
import GoSem.ClaimSeven
namespace Go.Proofs.YtihgmgpcdodknaaDoor
namespace Rows

/-- THE TIED CARD OF 'muslinlaw12.TokensBack'. -/
def tokensBackCard : Claim7 := { stood := { row := tokensBackRow, standIns := [], harness := (true, "3ef93ec05ef8dc725a5a4f19eeb238697d9b7aa81698fba25074ef9fc0357c24"), looks := true }, kinds := [], alts := [], laidByText := true, laidKinds := [.data, .pinned], laidTests := true, laidLooks := .later }
def TokensBackCardSaid : Prop := Claim7.holds Tryd.pinned (.plain (OpenSpec.ofChange tokensBackSpec)) tokensBackCard

/-- THE TIED CARD OF 'muslinlaw02.UtfBack'. -/
def utfBackCard : Claim7 := { stood := { row := utfBackRow, standIns := [], harness := (true, "3ef93ec05ef8dc725a5a4f19eeb238697d9b7aa81698fba25074ef9fc0357c24"), looks := true }, kinds := [], alts := [], laidByText := true, laidKinds := [.data, .pinned], laidTests := true, laidLooks := .later }
def UtfBackCardSaid : Prop := Claim7.holds Tryd.pinned (.plain (OpenSpec.ofChange utfBackSpec)) utfBackCard

/-- THE TIED CARD OF 'muslinlaw02.UtfOwn'. -/
def utfOwnCard : Claim7 := { stood := { row := utfOwnRow, standIns := [], harness := (true, "3ef93ec05ef8dc725a5a4f19eeb238697d9b7aa81698fba25074ef9fc0357c24"), looks := true }, kinds := [], alts := [], laidByText := true, laidKinds := [.data, .pinned], laidTests := true, laidLooks := .later }
def UtfOwnCardSaid : Prop := Claim7.holds Tryd.pinned (.plain (OpenSpec.ofChange utfOwnSpec)) utfOwnCard

/-- THE TIED CARD OF 'muslinlaw02.UtfTells'. -/
def utfTellsCard : Claim7 := { stood := { row := utfTellsRow, standIns := [], harness := (true, "3ef93ec05ef8dc725a5a4f19eeb238697d9b7aa81698fba25074ef9fc0357c24"), looks := true }, kinds := [], alts := [], laidByText := true, laidKinds := [.data, .pinned], laidTests := true, laidLooks := .later }
def UtfTellsCardSaid : Prop := Claim7.holds Tryd.pinned (.plain (OpenSpec.ofChange utfTellsSpec)) utfTellsCard

/-- THE TIED CARD OF 'muslinlaw02.UtfRepairs'. -/
def utfRepairsCard : Claim7 := { stood := { row := utfRepairsRow, standIns := [], harness := (true, "3ef93ec05ef8dc725a5a4f19eeb238697d9b7aa81698fba25074ef9fc0357c24"), looks := true }, kinds := [], alts := [], laidByText := true, laidKinds := [.data, .pinned], laidTests := true, laidLooks := .later }
def UtfRepairsCardSaid : Prop := Claim7.holds Tryd.pinned (.plain (OpenSpec.ofChange utfRepairsSpec)) utfRepairsCard

/-- THE TIED CARD OF 'muslinlaw06.RefsParts'. -/
def refsPartsCard : Claim7 := { stood := { row := refsPartsRow, standIns := [], harness := (true, "3ef93ec05ef8dc725a5a4f19eeb238697d9b7aa81698fba25074ef9fc0357c24"), looks := true }, kinds := [], alts := [], laidByText := true, laidKinds := [.data, .pinned], laidTests := true, laidLooks := .later }
def RefsPartsCardSaid : Prop := Claim7.holds Tryd.pinned (.plain (OpenSpec.ofChange refsPartsSpec)) refsPartsCard

/-- THE TIED CARD OF 'muslinlaw06.RefsNumbers'. -/
def refsNumbersCard : Claim7 := { stood := { row := refsNumbersRow, standIns := [], harness := (true, "3ef93ec05ef8dc725a5a4f19eeb238697d9b7aa81698fba25074ef9fc0357c24"), looks := true }, kinds := [], alts := [], laidByText := true, laidKinds := [.data, .pinned], laidTests := true, laidLooks := .later }
def RefsNumbersCardSaid : Prop := Claim7.holds Tryd.pinned (.plain (OpenSpec.ofChange refsNumbersSpec)) refsNumbersCard

/-- THE TIED CARD OF 'muslinlaw06.RefsBack'. -/
def refsBackCard : Claim7 := { stood := { row := refsBackRow, standIns := [], harness := (true, "3ef93ec05ef8dc725a5a4f19eeb238697d9b7aa81698fba25074ef9fc0357c24"), looks := true }, kinds := [], alts := [], laidByText := true, laidKinds := [.data, .pinned], laidTests := true, laidLooks := .later }
def RefsBackCardSaid : Prop := Claim7.holds Tryd.pinned (.plain (OpenSpec.ofChange refsBackSpec)) refsBackCard

/-- THE TIED CARD OF 'muslinlaw06.RefsWaits'. -/
def refsWaitsCard : Claim7 := { stood := { row := refsWaitsRow, standIns := [], harness := (true, "3ef93ec05ef8dc725a5a4f19eeb238697d9b7aa81698fba25074ef9fc0357c24"), looks := true }, kinds := [], alts := [], laidByText := true, laidKinds := [.data, .pinned], laidTests := true, laidLooks := .later }
def RefsWaitsCardSaid : Prop := Claim7.holds Tryd.pinned (.plain (OpenSpec.ofChange refsWaitsSpec)) refsWaitsCard

/-- THE TIED CARD OF 'muslinlaw06.RefsTells'. -/
def refsTellsCard : Claim7 := { stood := { row := refsTellsRow, standIns := [], harness := (true, "3ef93ec05ef8dc725a5a4f19eeb238697d9b7aa81698fba25074ef9fc0357c24"), looks := true }, kinds := [], alts := [], laidByText := true, laidKinds := [.data, .pinned], laidTests := true, laidLooks := .later }
def RefsTellsCardSaid : Prop := Claim7.holds Tryd.pinned (.plain (OpenSpec.ofChange refsTellsSpec)) refsTellsCard

/-- THE SECOND FORM's CARD OF 'muslinlaw12.TokensBack'. -/
def tokensBackUptoCard : Claim7 := { stood := { row := tokensBackUptoRow, standIns := [], harness := (true, "3ef93ec05ef8dc725a5a4f19eeb238697d9b7aa81698fba25074ef9fc0357c24"), looks := true }, kinds := [], alts := [], laidByText := true, laidKinds := [.data, .pinned], laidTests := true, laidLooks := .later }
def TokensBackUptoCardSaid : Prop := Claim7.holds Tryd.pinned (.plain (OpenSpec.upto tokensBackSpec)) tokensBackUptoCard

/-- THE SECOND FORM's CARD OF 'muslinlaw02.UtfBack'. -/
def utfBackUptoCard : Claim7 := { stood := { row := utfBackUptoRow, standIns := [], harness := (true, "3ef93ec05ef8dc725a5a4f19eeb238697d9b7aa81698fba25074ef9fc0357c24"), looks := true }, kinds := [], alts := [], laidByText := true, laidKinds := [.data, .pinned], laidTests := true, laidLooks := .later }
def UtfBackUptoCardSaid : Prop := Claim7.holds Tryd.pinned (.plain (OpenSpec.upto utfBackSpec)) utfBackUptoCard

/-- THE SECOND FORM's CARD OF 'muslinlaw02.UtfOwn'. -/
def utfOwnUptoCard : Claim7 := { stood := { row := utfOwnUptoRow, standIns := [], harness := (true, "3ef93ec05ef8dc725a5a4f19eeb238697d9b7aa81698fba25074ef9fc0357c24"), looks := true }, kinds := [], alts := [], laidByText := true, laidKinds := [.data, .pinned], laidTests := true, laidLooks := .later }
def UtfOwnUptoCardSaid : Prop := Claim7.holds Tryd.pinned (.plain (OpenSpec.upto utfOwnSpec)) utfOwnUptoCard

/-- THE SECOND FORM's CARD OF 'muslinlaw02.UtfTells'. -/
def utfTellsUptoCard : Claim7 := { stood := { row := utfTellsUptoRow, standIns := [], harness := (true, "3ef93ec05ef8dc725a5a4f19eeb238697d9b7aa81698fba25074ef9fc0357c24"), looks := true }, kinds := [], alts := [], laidByText := true, laidKinds := [.data, .pinned], laidTests := true, laidLooks := .later }
def UtfTellsUptoCardSaid : Prop := Claim7.holds Tryd.pinned (.plain (OpenSpec.upto utfTellsSpec)) utfTellsUptoCard

/-- THE SECOND FORM's CARD OF 'muslinlaw02.UtfRepairs'. -/
def utfRepairsUptoCard : Claim7 := { stood := { row := utfRepairsUptoRow, standIns := [], harness := (true, "3ef93ec05ef8dc725a5a4f19eeb238697d9b7aa81698fba25074ef9fc0357c24"), looks := true }, kinds := [], alts := [], laidByText := true, laidKinds := [.data, .pinned], laidTests := true, laidLooks := .later }
def UtfRepairsUptoCardSaid : Prop := Claim7.holds Tryd.pinned (.plain (OpenSpec.upto utfRepairsSpec)) utfRepairsUptoCard

/-- THE SECOND FORM's CARD OF 'muslinlaw06.RefsParts'. -/
def refsPartsUptoCard : Claim7 := { stood := { row := refsPartsUptoRow, standIns := [], harness := (true, "3ef93ec05ef8dc725a5a4f19eeb238697d9b7aa81698fba25074ef9fc0357c24"), looks := true }, kinds := [], alts := [], laidByText := true, laidKinds := [.data, .pinned], laidTests := true, laidLooks := .later }
def RefsPartsUptoCardSaid : Prop := Claim7.holds Tryd.pinned (.plain (OpenSpec.upto refsPartsSpec)) refsPartsUptoCard

/-- THE SECOND FORM's CARD OF 'muslinlaw06.RefsNumbers'. -/
def refsNumbersUptoCard : Claim7 := { stood := { row := refsNumbersUptoRow, standIns := [], harness := (true, "3ef93ec05ef8dc725a5a4f19eeb238697d9b7aa81698fba25074ef9fc0357c24"), looks := true }, kinds := [], alts := [], laidByText := true, laidKinds := [.data, .pinned], laidTests := true, laidLooks := .later }
def RefsNumbersUptoCardSaid : Prop := Claim7.holds Tryd.pinned (.plain (OpenSpec.upto refsNumbersSpec)) refsNumbersUptoCard

/-- THE SECOND FORM's CARD OF 'muslinlaw06.RefsBack'. -/
def refsBackUptoCard : Claim7 := { stood := { row := refsBackUptoRow, standIns := [], harness := (true, "3ef93ec05ef8dc725a5a4f19eeb238697d9b7aa81698fba25074ef9fc0357c24"), looks := true }, kinds := [], alts := [], laidByText := true, laidKinds := [.data, .pinned], laidTests := true, laidLooks := .later }
def RefsBackUptoCardSaid : Prop := Claim7.holds Tryd.pinned (.plain (OpenSpec.upto refsBackSpec)) refsBackUptoCard

/-- THE SECOND FORM's CARD OF 'muslinlaw06.RefsWaits'. -/
def refsWaitsUptoCard : Claim7 := { stood := { row := refsWaitsUptoRow, standIns := [], harness := (true, "3ef93ec05ef8dc725a5a4f19eeb238697d9b7aa81698fba25074ef9fc0357c24"), looks := true }, kinds := [], alts := [], laidByText := true, laidKinds := [.data, .pinned], laidTests := true, laidLooks := .later }
def RefsWaitsUptoCardSaid : Prop := Claim7.holds Tryd.pinned (.plain (OpenSpec.upto refsWaitsSpec)) refsWaitsUptoCard

/-- THE SECOND FORM's CARD OF 'muslinlaw06.RefsTells'. -/
def refsTellsUptoCard : Claim7 := { stood := { row := refsTellsUptoRow, standIns := [], harness := (true, "3ef93ec05ef8dc725a5a4f19eeb238697d9b7aa81698fba25074ef9fc0357c24"), looks := true }, kinds := [], alts := [], laidByText := true, laidKinds := [.data, .pinned], laidTests := true, laidLooks := .later }
def RefsTellsUptoCardSaid : Prop := Claim7.holds Tryd.pinned (.plain (OpenSpec.upto refsTellsSpec)) refsTellsUptoCard
end Rows
end Go.Proofs.YtihgmgpcdodknaaDoor
