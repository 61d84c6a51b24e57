/-
  DERIVED. GIVEN WITH THE SEED: THE CARDS: each row of YtbkclacjamlebaaGreatDoorRows.lean that lists a variable, with what it lists TIED to the program's text (the seventh form; the later family's looks); each row that meets fmt, with fmt's text TOLD by the authors' own Lean function (tested against real Go, not proved from fmt's source: count such statements apart). THE CARD IS WHAT COUNTS. Prove the row's statement (the work); the ties are given (YtbkclacjamlebaaGreatDoorTie.lean); close each card by the builder's one call (the guide's Derived/Test/ToyasCard.lean, 'card_holds'). Laid BY PROGRAM, IN A SANDBOX (cutbox-door.mjs). By AI agents, Wed Nov 11 2026. No macro, syntax, notation, axiom, sorry.
-/
import Derived.Test.YtbkclacjamlebaaGreatDoorRows
import GoSem.ClaimSeven
namespace Go.Proofs.YtbkclacjamlebaaGreatDoor
namespace Rows

/-- THE TIED CARD OF 'codicillaw12.ProofMakes'. -/
def proofMakesCard : Claim7 := { stood := { row := proofMakesRow, standIns := [], harness := (true, "c99c952065f7b128e2cab0a40cd5a9c5bc0c4cfbe8a8b2769001823ab9b5760e"), looks := false }, kinds := [], alts := [], laidByText := true, laidKinds := [.data, .pinned], laidTests := true, laidLooks := .later }
def ProofMakesCardSaid : Prop := Claim7.holds Tryz.pinned (.plain (OpenSpec.ofChange proofMakesSpec)) proofMakesCard

/-- THE TIED CARD OF 'codicillaw11.EntryExact'. -/
def entryExactCard : Claim7 := { stood := { row := entryExactRow, standIns := [], harness := (true, "c99c952065f7b128e2cab0a40cd5a9c5bc0c4cfbe8a8b2769001823ab9b5760e"), looks := false }, kinds := [], alts := [], laidByText := true, laidKinds := [.data, .pinned], laidTests := true, laidLooks := .later }
def EntryExactCardSaid : Prop := Claim7.holds Tryz.pinned (.plain (OpenSpec.ofChange entryExactSpec)) entryExactCard

/-- THE TIED CARD OF 'codicillaw17.FeedGrows'. -/
def feedGrowsCard : Claim7 := { stood := { row := feedGrowsRow, standIns := [], harness := (true, "c99c952065f7b128e2cab0a40cd5a9c5bc0c4cfbe8a8b2769001823ab9b5760e"), looks := false }, kinds := [], alts := [], laidByText := true, laidKinds := [.data, .pinned], laidTests := true, laidLooks := .later }
def FeedGrowsCardSaid : Prop := Claim7.holds Tryz.pinned (.plain (OpenSpec.ofChange feedGrowsSpec)) feedGrowsCard

/-- THE TIED CARD OF 'codicillaw17.FeedErrors'. -/
def feedErrorsCard : Claim7 := { stood := { row := feedErrorsRow, standIns := [], harness := (true, "c99c952065f7b128e2cab0a40cd5a9c5bc0c4cfbe8a8b2769001823ab9b5760e"), looks := false }, kinds := [], alts := [], laidByText := true, laidKinds := [.data, .pinned], laidTests := true, laidLooks := .later }
def FeedErrorsCardSaid : Prop := Claim7.holds Tryz.pinned (.plain (OpenSpec.ofChange feedErrorsSpec)) feedErrorsCard

/-- THE TIED CARD OF 'codicillaw17.FeedShut'. -/
def feedShutCard : Claim7 := { stood := { row := feedShutRow, standIns := [], harness := (true, "c99c952065f7b128e2cab0a40cd5a9c5bc0c4cfbe8a8b2769001823ab9b5760e"), looks := false }, kinds := [], alts := [], laidByText := true, laidKinds := [.data, .pinned], laidTests := true, laidLooks := .later }
def FeedShutCardSaid : Prop := Claim7.holds Tryz.pinned (.plain (OpenSpec.ofChange feedShutSpec)) feedShutCard

/-- THE TIED CARD OF 'codicillaw17.FeedExact'. -/
def feedExactCard : Claim7 := { stood := { row := feedExactRow, standIns := [], harness := (true, "c99c952065f7b128e2cab0a40cd5a9c5bc0c4cfbe8a8b2769001823ab9b5760e"), looks := false }, kinds := [], alts := [], laidByText := true, laidKinds := [.data, .pinned], laidTests := true, laidLooks := .later }
def FeedExactCardSaid : Prop := Claim7.holds Tryz.pinned (.plain (OpenSpec.ofChange feedExactSpec)) feedExactCard

/-- THE TIED CARD OF 'codicillaw17.FeedBeginnings'. -/
def feedBeginningsCard : Claim7 := { stood := { row := feedBeginningsRow, standIns := [], harness := (true, "c99c952065f7b128e2cab0a40cd5a9c5bc0c4cfbe8a8b2769001823ab9b5760e"), looks := false }, kinds := [], alts := [], laidByText := true, laidKinds := [.data, .pinned], laidTests := true, laidLooks := .later }
def FeedBeginningsCardSaid : Prop := Claim7.holds Tryz.pinned (.plain (OpenSpec.ofChange feedBeginningsSpec)) feedBeginningsCard

/-- THE SECOND FORM's CARD OF 'codicillaw12.ProofMakes'. -/
def proofMakesUptoCard : Claim7 := { stood := { row := proofMakesUptoRow, standIns := [], harness := (true, "c99c952065f7b128e2cab0a40cd5a9c5bc0c4cfbe8a8b2769001823ab9b5760e"), looks := false }, kinds := [], alts := [], laidByText := true, laidKinds := [.data, .pinned], laidTests := true, laidLooks := .later }
def ProofMakesUptoCardSaid : Prop := Claim7.holds Tryz.pinned (.plain (OpenSpec.upto proofMakesSpec)) proofMakesUptoCard

/-- THE SECOND FORM's CARD OF 'codicillaw11.EntryExact'. -/
def entryExactUptoCard : Claim7 := { stood := { row := entryExactUptoRow, standIns := [], harness := (true, "c99c952065f7b128e2cab0a40cd5a9c5bc0c4cfbe8a8b2769001823ab9b5760e"), looks := false }, kinds := [], alts := [], laidByText := true, laidKinds := [.data, .pinned], laidTests := true, laidLooks := .later }
def EntryExactUptoCardSaid : Prop := Claim7.holds Tryz.pinned (.plain (OpenSpec.upto entryExactSpec)) entryExactUptoCard

/-- THE SECOND FORM's CARD OF 'codicillaw17.FeedGrows'. -/
def feedGrowsUptoCard : Claim7 := { stood := { row := feedGrowsUptoRow, standIns := [], harness := (true, "c99c952065f7b128e2cab0a40cd5a9c5bc0c4cfbe8a8b2769001823ab9b5760e"), looks := false }, kinds := [], alts := [], laidByText := true, laidKinds := [.data, .pinned], laidTests := true, laidLooks := .later }
def FeedGrowsUptoCardSaid : Prop := Claim7.holds Tryz.pinned (.plain (OpenSpec.upto feedGrowsSpec)) feedGrowsUptoCard

/-- THE SECOND FORM's CARD OF 'codicillaw17.FeedErrors'. -/
def feedErrorsUptoCard : Claim7 := { stood := { row := feedErrorsUptoRow, standIns := [], harness := (true, "c99c952065f7b128e2cab0a40cd5a9c5bc0c4cfbe8a8b2769001823ab9b5760e"), looks := false }, kinds := [], alts := [], laidByText := true, laidKinds := [.data, .pinned], laidTests := true, laidLooks := .later }
def FeedErrorsUptoCardSaid : Prop := Claim7.holds Tryz.pinned (.plain (OpenSpec.upto feedErrorsSpec)) feedErrorsUptoCard

/-- THE SECOND FORM's CARD OF 'codicillaw17.FeedShut'. -/
def feedShutUptoCard : Claim7 := { stood := { row := feedShutUptoRow, standIns := [], harness := (true, "c99c952065f7b128e2cab0a40cd5a9c5bc0c4cfbe8a8b2769001823ab9b5760e"), looks := false }, kinds := [], alts := [], laidByText := true, laidKinds := [.data, .pinned], laidTests := true, laidLooks := .later }
def FeedShutUptoCardSaid : Prop := Claim7.holds Tryz.pinned (.plain (OpenSpec.upto feedShutSpec)) feedShutUptoCard

/-- THE SECOND FORM's CARD OF 'codicillaw17.FeedExact'. -/
def feedExactUptoCard : Claim7 := { stood := { row := feedExactUptoRow, standIns := [], harness := (true, "c99c952065f7b128e2cab0a40cd5a9c5bc0c4cfbe8a8b2769001823ab9b5760e"), looks := false }, kinds := [], alts := [], laidByText := true, laidKinds := [.data, .pinned], laidTests := true, laidLooks := .later }
def FeedExactUptoCardSaid : Prop := Claim7.holds Tryz.pinned (.plain (OpenSpec.upto feedExactSpec)) feedExactUptoCard

/-- THE SECOND FORM's CARD OF 'codicillaw17.FeedBeginnings'. -/
def feedBeginningsUptoCard : Claim7 := { stood := { row := feedBeginningsUptoRow, standIns := [], harness := (true, "c99c952065f7b128e2cab0a40cd5a9c5bc0c4cfbe8a8b2769001823ab9b5760e"), looks := false }, kinds := [], alts := [], laidByText := true, laidKinds := [.data, .pinned], laidTests := true, laidLooks := .later }
def FeedBeginningsUptoCardSaid : Prop := Claim7.holds Tryz.pinned (.plain (OpenSpec.upto feedBeginningsSpec)) feedBeginningsUptoCard
end Rows
end Go.Proofs.YtbkclacjamlebaaGreatDoor
