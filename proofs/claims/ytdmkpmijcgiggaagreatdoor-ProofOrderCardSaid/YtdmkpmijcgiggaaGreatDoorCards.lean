/-
  DERIVED. GIVEN WITH THE SEED: THE CARDS: each row of YtdmkpmijcgiggaaGreatDoorRows.lean that lists a variable, with what it lists TIED to the program's text (the seventh form; the later family's looks); each row that meets fmt, with fmt's text TOLD by the authors' own Lean function (tested against real Go, not proved from fmt's source: count such statements apart). THE CARD IS WHAT COUNTS. Prove the row's statement (the work); the ties are given (YtdmkpmijcgiggaaGreatDoorTie.lean); close each card by the builder's one call (the guide's Derived/Test/ToyasCard.lean, 'card_holds'). Laid BY PROGRAM, IN A SANDBOX (cutbox-door.mjs). By AI agents, Wed Nov 11 2026. No macro, syntax, notation, axiom, sorry.
-/
import Derived.Test.YtdmkpmijcgiggaaGreatDoorRows
import GoSem.ClaimSeven
namespace Go.Proofs.YtdmkpmijcgiggaaGreatDoor
namespace Rows

/-- THE TIED CARD OF 'codicillaw12.ProofMakes'. -/
def proofMakesCard : Claim7 := { stood := { row := proofMakesRow, standIns := [], harness := (true, "7d98d3382be76e1ec7f1dfce49e87954d134957bb483c58d66fcdf25ac256fb8"), looks := false }, kinds := [], alts := [], laidByText := true, laidKinds := [.data, .pinned], laidTests := true, laidLooks := .later }
def ProofMakesCardSaid : Prop := Claim7.holds Tryz.pinned (.plain (OpenSpec.ofChange proofMakesSpec)) proofMakesCard

/-- THE TIED CARD OF 'codicillaw12.ProofOrder'. -/
def proofOrderCard : Claim7 := { stood := { row := proofOrderRow, standIns := [], harness := (true, "7d98d3382be76e1ec7f1dfce49e87954d134957bb483c58d66fcdf25ac256fb8"), looks := false }, kinds := [], alts := [], laidByText := true, laidKinds := [.data, .pinned], laidTests := true, laidLooks := .later }
def ProofOrderCardSaid : Prop := Claim7.holds Tryz.pinned (.plain (OpenSpec.ofChange proofOrderSpec)) proofOrderCard

/-- THE TIED CARD OF 'codicillaw12.ProofApart'. -/
def proofApartCard : Claim7 := { stood := { row := proofApartRow, standIns := [], harness := (true, "7d98d3382be76e1ec7f1dfce49e87954d134957bb483c58d66fcdf25ac256fb8"), looks := false }, kinds := [], alts := [], laidByText := true, laidKinds := [.data, .pinned], laidTests := true, laidLooks := .later }
def ProofApartCardSaid : Prop := Claim7.holds Tryz.pinned (.plain (OpenSpec.ofChange proofApartSpec)) proofApartCard

/-- THE TIED CARD OF 'codicillaw11.EntryReads'. -/
def entryReadsCard : Claim7 := { stood := { row := entryReadsRow, standIns := [], harness := (true, "7d98d3382be76e1ec7f1dfce49e87954d134957bb483c58d66fcdf25ac256fb8"), looks := false }, kinds := [], alts := [], laidByText := true, laidKinds := [.data, .pinned], laidTests := true, laidLooks := .later }
def EntryReadsCardSaid : Prop := Claim7.holds Tryz.pinned (.plain (OpenSpec.ofChange entryReadsSpec)) entryReadsCard

/-- THE TIED CARD OF 'codicillaw11.EntryBent'. -/
def entryBentCard : Claim7 := { stood := { row := entryBentRow, standIns := [], harness := (true, "7d98d3382be76e1ec7f1dfce49e87954d134957bb483c58d66fcdf25ac256fb8"), looks := false }, kinds := [], alts := [], laidByText := true, laidKinds := [.data, .pinned], laidTests := true, laidLooks := .later }
def EntryBentCardSaid : Prop := Claim7.holds Tryz.pinned (.plain (OpenSpec.ofChange entryBentSpec)) entryBentCard

/-- THE TIED CARD OF 'codicillaw11.EntryEnds'. -/
def entryEndsCard : Claim7 := { stood := { row := entryEndsRow, standIns := [], harness := (true, "7d98d3382be76e1ec7f1dfce49e87954d134957bb483c58d66fcdf25ac256fb8"), looks := false }, kinds := [], alts := [], laidByText := true, laidKinds := [.data, .pinned], laidTests := true, laidLooks := .later }
def EntryEndsCardSaid : Prop := Claim7.holds Tryz.pinned (.plain (OpenSpec.ofChange entryEndsSpec)) entryEndsCard

/-- THE TIED CARD OF 'codicillaw11.EntryLinks'. -/
def entryLinksCard : Claim7 := { stood := { row := entryLinksRow, standIns := [], harness := (true, "7d98d3382be76e1ec7f1dfce49e87954d134957bb483c58d66fcdf25ac256fb8"), looks := false }, kinds := [], alts := [], laidByText := true, laidKinds := [.data, .pinned], laidTests := true, laidLooks := .later }
def EntryLinksCardSaid : Prop := Claim7.holds Tryz.pinned (.plain (OpenSpec.ofChange entryLinksSpec)) entryLinksCard

/-- THE TIED CARD OF 'codicillaw11.EntryBody'. -/
def entryBodyCard : Claim7 := { stood := { row := entryBodyRow, standIns := [], harness := (true, "7d98d3382be76e1ec7f1dfce49e87954d134957bb483c58d66fcdf25ac256fb8"), looks := false }, kinds := [], alts := [], laidByText := true, laidKinds := [.data, .pinned], laidTests := true, laidLooks := .later }
def EntryBodyCardSaid : Prop := Claim7.holds Tryz.pinned (.plain (OpenSpec.ofChange entryBodySpec)) entryBodyCard

/-- THE TIED CARD OF 'codicillaw11.EntryExact'. -/
def entryExactCard : Claim7 := { stood := { row := entryExactRow, standIns := [], harness := (true, "7d98d3382be76e1ec7f1dfce49e87954d134957bb483c58d66fcdf25ac256fb8"), looks := false }, kinds := [], alts := [], laidByText := true, laidKinds := [.data, .pinned], laidTests := true, laidLooks := .later }
def EntryExactCardSaid : Prop := Claim7.holds Tryz.pinned (.plain (OpenSpec.ofChange entryExactSpec)) entryExactCard

/-- THE TIED CARD OF 'codicillaw11.EntryId'. -/
def entryIdCard : Claim7 := { stood := { row := entryIdRow, standIns := [], harness := (true, "7d98d3382be76e1ec7f1dfce49e87954d134957bb483c58d66fcdf25ac256fb8"), looks := false }, kinds := [], alts := [], laidByText := true, laidKinds := [.data, .pinned], laidTests := true, laidLooks := .later }
def EntryIdCardSaid : Prop := Claim7.holds Tryz.pinned (.plain (OpenSpec.ofChange entryIdSpec)) entryIdCard

/-- THE TIED CARD OF 'codicillaw12.ProofReads'. -/
def proofReadsCard : Claim7 := { stood := { row := proofReadsRow, standIns := [], harness := (true, "7d98d3382be76e1ec7f1dfce49e87954d134957bb483c58d66fcdf25ac256fb8"), looks := false }, kinds := [], alts := [], laidByText := true, laidKinds := [.data, .pinned], laidTests := true, laidLooks := .later }
def ProofReadsCardSaid : Prop := Claim7.holds Tryz.pinned (.plain (OpenSpec.ofChange proofReadsSpec)) proofReadsCard

/-- THE TIED CARD OF 'codicillaw12.ProofCuts'. -/
def proofCutsCard : Claim7 := { stood := { row := proofCutsRow, standIns := [], harness := (true, "7d98d3382be76e1ec7f1dfce49e87954d134957bb483c58d66fcdf25ac256fb8"), looks := false }, kinds := [], alts := [], laidByText := true, laidKinds := [.data, .pinned], laidTests := true, laidLooks := .later }
def ProofCutsCardSaid : Prop := Claim7.holds Tryz.pinned (.plain (OpenSpec.ofChange proofCutsSpec)) proofCutsCard

/-- THE SECOND FORM's CARD OF 'codicillaw12.ProofMakes'. -/
def proofMakesUptoCard : Claim7 := { stood := { row := proofMakesUptoRow, standIns := [], harness := (true, "7d98d3382be76e1ec7f1dfce49e87954d134957bb483c58d66fcdf25ac256fb8"), looks := false }, kinds := [], alts := [], laidByText := true, laidKinds := [.data, .pinned], laidTests := true, laidLooks := .later }
def ProofMakesUptoCardSaid : Prop := Claim7.holds Tryz.pinned (.plain (OpenSpec.upto proofMakesSpec)) proofMakesUptoCard

/-- THE SECOND FORM's CARD OF 'codicillaw12.ProofOrder'. -/
def proofOrderUptoCard : Claim7 := { stood := { row := proofOrderUptoRow, standIns := [], harness := (true, "7d98d3382be76e1ec7f1dfce49e87954d134957bb483c58d66fcdf25ac256fb8"), looks := false }, kinds := [], alts := [], laidByText := true, laidKinds := [.data, .pinned], laidTests := true, laidLooks := .later }
def ProofOrderUptoCardSaid : Prop := Claim7.holds Tryz.pinned (.plain (OpenSpec.upto proofOrderSpec)) proofOrderUptoCard

/-- THE SECOND FORM's CARD OF 'codicillaw12.ProofApart'. -/
def proofApartUptoCard : Claim7 := { stood := { row := proofApartUptoRow, standIns := [], harness := (true, "7d98d3382be76e1ec7f1dfce49e87954d134957bb483c58d66fcdf25ac256fb8"), looks := false }, kinds := [], alts := [], laidByText := true, laidKinds := [.data, .pinned], laidTests := true, laidLooks := .later }
def ProofApartUptoCardSaid : Prop := Claim7.holds Tryz.pinned (.plain (OpenSpec.upto proofApartSpec)) proofApartUptoCard

/-- THE SECOND FORM's CARD OF 'codicillaw11.EntryReads'. -/
def entryReadsUptoCard : Claim7 := { stood := { row := entryReadsUptoRow, standIns := [], harness := (true, "7d98d3382be76e1ec7f1dfce49e87954d134957bb483c58d66fcdf25ac256fb8"), looks := false }, kinds := [], alts := [], laidByText := true, laidKinds := [.data, .pinned], laidTests := true, laidLooks := .later }
def EntryReadsUptoCardSaid : Prop := Claim7.holds Tryz.pinned (.plain (OpenSpec.upto entryReadsSpec)) entryReadsUptoCard

/-- THE SECOND FORM's CARD OF 'codicillaw11.EntryBent'. -/
def entryBentUptoCard : Claim7 := { stood := { row := entryBentUptoRow, standIns := [], harness := (true, "7d98d3382be76e1ec7f1dfce49e87954d134957bb483c58d66fcdf25ac256fb8"), looks := false }, kinds := [], alts := [], laidByText := true, laidKinds := [.data, .pinned], laidTests := true, laidLooks := .later }
def EntryBentUptoCardSaid : Prop := Claim7.holds Tryz.pinned (.plain (OpenSpec.upto entryBentSpec)) entryBentUptoCard

/-- THE SECOND FORM's CARD OF 'codicillaw11.EntryEnds'. -/
def entryEndsUptoCard : Claim7 := { stood := { row := entryEndsUptoRow, standIns := [], harness := (true, "7d98d3382be76e1ec7f1dfce49e87954d134957bb483c58d66fcdf25ac256fb8"), looks := false }, kinds := [], alts := [], laidByText := true, laidKinds := [.data, .pinned], laidTests := true, laidLooks := .later }
def EntryEndsUptoCardSaid : Prop := Claim7.holds Tryz.pinned (.plain (OpenSpec.upto entryEndsSpec)) entryEndsUptoCard

/-- THE SECOND FORM's CARD OF 'codicillaw11.EntryLinks'. -/
def entryLinksUptoCard : Claim7 := { stood := { row := entryLinksUptoRow, standIns := [], harness := (true, "7d98d3382be76e1ec7f1dfce49e87954d134957bb483c58d66fcdf25ac256fb8"), looks := false }, kinds := [], alts := [], laidByText := true, laidKinds := [.data, .pinned], laidTests := true, laidLooks := .later }
def EntryLinksUptoCardSaid : Prop := Claim7.holds Tryz.pinned (.plain (OpenSpec.upto entryLinksSpec)) entryLinksUptoCard

/-- THE SECOND FORM's CARD OF 'codicillaw11.EntryBody'. -/
def entryBodyUptoCard : Claim7 := { stood := { row := entryBodyUptoRow, standIns := [], harness := (true, "7d98d3382be76e1ec7f1dfce49e87954d134957bb483c58d66fcdf25ac256fb8"), looks := false }, kinds := [], alts := [], laidByText := true, laidKinds := [.data, .pinned], laidTests := true, laidLooks := .later }
def EntryBodyUptoCardSaid : Prop := Claim7.holds Tryz.pinned (.plain (OpenSpec.upto entryBodySpec)) entryBodyUptoCard

/-- THE SECOND FORM's CARD OF 'codicillaw11.EntryExact'. -/
def entryExactUptoCard : Claim7 := { stood := { row := entryExactUptoRow, standIns := [], harness := (true, "7d98d3382be76e1ec7f1dfce49e87954d134957bb483c58d66fcdf25ac256fb8"), looks := false }, kinds := [], alts := [], laidByText := true, laidKinds := [.data, .pinned], laidTests := true, laidLooks := .later }
def EntryExactUptoCardSaid : Prop := Claim7.holds Tryz.pinned (.plain (OpenSpec.upto entryExactSpec)) entryExactUptoCard

/-- THE SECOND FORM's CARD OF 'codicillaw11.EntryId'. -/
def entryIdUptoCard : Claim7 := { stood := { row := entryIdUptoRow, standIns := [], harness := (true, "7d98d3382be76e1ec7f1dfce49e87954d134957bb483c58d66fcdf25ac256fb8"), looks := false }, kinds := [], alts := [], laidByText := true, laidKinds := [.data, .pinned], laidTests := true, laidLooks := .later }
def EntryIdUptoCardSaid : Prop := Claim7.holds Tryz.pinned (.plain (OpenSpec.upto entryIdSpec)) entryIdUptoCard

/-- THE SECOND FORM's CARD OF 'codicillaw12.ProofReads'. -/
def proofReadsUptoCard : Claim7 := { stood := { row := proofReadsUptoRow, standIns := [], harness := (true, "7d98d3382be76e1ec7f1dfce49e87954d134957bb483c58d66fcdf25ac256fb8"), looks := false }, kinds := [], alts := [], laidByText := true, laidKinds := [.data, .pinned], laidTests := true, laidLooks := .later }
def ProofReadsUptoCardSaid : Prop := Claim7.holds Tryz.pinned (.plain (OpenSpec.upto proofReadsSpec)) proofReadsUptoCard

/-- THE SECOND FORM's CARD OF 'codicillaw12.ProofCuts'. -/
def proofCutsUptoCard : Claim7 := { stood := { row := proofCutsUptoRow, standIns := [], harness := (true, "7d98d3382be76e1ec7f1dfce49e87954d134957bb483c58d66fcdf25ac256fb8"), looks := false }, kinds := [], alts := [], laidByText := true, laidKinds := [.data, .pinned], laidTests := true, laidLooks := .later }
def ProofCutsUptoCardSaid : Prop := Claim7.holds Tryz.pinned (.plain (OpenSpec.upto proofCutsSpec)) proofCutsUptoCard
end Rows
end Go.Proofs.YtdmkpmijcgiggaaGreatDoor
