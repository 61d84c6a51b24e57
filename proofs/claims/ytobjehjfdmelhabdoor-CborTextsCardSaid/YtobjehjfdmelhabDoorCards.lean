/-
  DERIVED. GIVEN WITH THE SEED: THE CARDS: each row of YtobjehjfdmelhabDoorRows.lean that lists a variable, with what it lists TIED to the program's text (the seventh form; the later family's looks); each row that meets fmt, with fmt's text TOLD by the authors' own Lean function (tested against real Go, not proved from fmt's source: count such statements apart). THE CARD IS WHAT COUNTS. Prove the row's statement (the work); the ties are given (YtobjehjfdmelhabDoorTie.lean); close each card by the builder's one call (the guide's Derived/Test/ToyasCard.lean, 'card_holds'). Laid BY PROGRAM, IN A SANDBOX (cutbox-door.mjs). By AI agents, Wed Nov 11 2026. No macro, syntax, notation, axiom, sorry.
-/
import Derived.Test.YtobjehjfdmelhabDoorRows
import GoSem.ClaimSeven
namespace Go.Proofs.YtobjehjfdmelhabDoor
namespace Rows

/-- THE TIED CARD OF 'codicillaw10.CborMany'. -/
def cborManyCard : Claim7 := { stood := { row := cborManyRow, standIns := [], harness := (true, "a8387c4bb88e1ed4b066c2297a440e9d280a4f3fb25a543b380fcf612291c486"), looks := false }, kinds := [], alts := [], laidByText := true, laidKinds := [.data, .pinned], laidTests := true, laidLooks := .later }
def CborManyCardSaid : Prop := Claim7.holds Tryd.pinned (.plain (OpenSpec.ofChange cborManySpec)) cborManyCard

/-- THE TIED CARD OF 'codicillaw10.CborLongest'. -/
def cborLongestCard : Claim7 := { stood := { row := cborLongestRow, standIns := [], harness := (true, "a8387c4bb88e1ed4b066c2297a440e9d280a4f3fb25a543b380fcf612291c486"), looks := false }, kinds := [], alts := [], laidByText := true, laidKinds := [.data, .pinned], laidTests := true, laidLooks := .later }
def CborLongestCardSaid : Prop := Claim7.holds Tryd.pinned (.plain (OpenSpec.ofChange cborLongestSpec)) cborLongestCard

/-- THE TIED CARD OF 'codicillaw10.CborExact'. -/
def cborExactCard : Claim7 := { stood := { row := cborExactRow, standIns := [], harness := (true, "a8387c4bb88e1ed4b066c2297a440e9d280a4f3fb25a543b380fcf612291c486"), looks := false }, kinds := [], alts := [], laidByText := true, laidKinds := [.data, .pinned], laidTests := true, laidLooks := .later }
def CborExactCardSaid : Prop := Claim7.holds Tryd.pinned (.plain (OpenSpec.ofChange cborExactSpec)) cborExactCard

/-- THE TIED CARD OF 'codicillaw10.CborMaps'. -/
def cborMapsCard : Claim7 := { stood := { row := cborMapsRow, standIns := [], harness := (true, "a8387c4bb88e1ed4b066c2297a440e9d280a4f3fb25a543b380fcf612291c486"), looks := false }, kinds := [], alts := [], laidByText := true, laidKinds := [.data, .pinned], laidTests := true, laidLooks := .later }
def CborMapsCardSaid : Prop := Claim7.holds Tryd.pinned (.plain (OpenSpec.ofChange cborMapsSpec)) cborMapsCard

/-- THE TIED CARD OF 'codicillaw10.CborTexts'. -/
def cborTextsCard : Claim7 := { stood := { row := cborTextsRow, standIns := [], harness := (true, "a8387c4bb88e1ed4b066c2297a440e9d280a4f3fb25a543b380fcf612291c486"), looks := false }, kinds := [], alts := [], laidByText := true, laidKinds := [.data, .pinned], laidTests := true, laidLooks := .later }
def CborTextsCardSaid : Prop := Claim7.holds Tryd.pinned (.plain (OpenSpec.ofChange cborTextsSpec)) cborTextsCard

/-- THE TIED CARD OF 'codicillaw10.CborShort'. -/
def cborShortCard : Claim7 := { stood := { row := cborShortRow, standIns := [], harness := (true, "a8387c4bb88e1ed4b066c2297a440e9d280a4f3fb25a543b380fcf612291c486"), looks := false }, kinds := [], alts := [], laidByText := true, laidKinds := [.data, .pinned], laidTests := true, laidLooks := .later }
def CborShortCardSaid : Prop := Claim7.holds Tryd.pinned (.plain (OpenSpec.ofChange cborShortSpec)) cborShortCard

/-- THE SECOND FORM's CARD OF 'codicillaw10.CborMany'. -/
def cborManyUptoCard : Claim7 := { stood := { row := cborManyUptoRow, standIns := [], harness := (true, "a8387c4bb88e1ed4b066c2297a440e9d280a4f3fb25a543b380fcf612291c486"), looks := false }, kinds := [], alts := [], laidByText := true, laidKinds := [.data, .pinned], laidTests := true, laidLooks := .later }
def CborManyUptoCardSaid : Prop := Claim7.holds Tryd.pinned (.plain (OpenSpec.upto cborManySpec)) cborManyUptoCard

/-- THE SECOND FORM's CARD OF 'codicillaw10.CborLongest'. -/
def cborLongestUptoCard : Claim7 := { stood := { row := cborLongestUptoRow, standIns := [], harness := (true, "a8387c4bb88e1ed4b066c2297a440e9d280a4f3fb25a543b380fcf612291c486"), looks := false }, kinds := [], alts := [], laidByText := true, laidKinds := [.data, .pinned], laidTests := true, laidLooks := .later }
def CborLongestUptoCardSaid : Prop := Claim7.holds Tryd.pinned (.plain (OpenSpec.upto cborLongestSpec)) cborLongestUptoCard

/-- THE SECOND FORM's CARD OF 'codicillaw10.CborExact'. -/
def cborExactUptoCard : Claim7 := { stood := { row := cborExactUptoRow, standIns := [], harness := (true, "a8387c4bb88e1ed4b066c2297a440e9d280a4f3fb25a543b380fcf612291c486"), looks := false }, kinds := [], alts := [], laidByText := true, laidKinds := [.data, .pinned], laidTests := true, laidLooks := .later }
def CborExactUptoCardSaid : Prop := Claim7.holds Tryd.pinned (.plain (OpenSpec.upto cborExactSpec)) cborExactUptoCard

/-- THE SECOND FORM's CARD OF 'codicillaw10.CborMaps'. -/
def cborMapsUptoCard : Claim7 := { stood := { row := cborMapsUptoRow, standIns := [], harness := (true, "a8387c4bb88e1ed4b066c2297a440e9d280a4f3fb25a543b380fcf612291c486"), looks := false }, kinds := [], alts := [], laidByText := true, laidKinds := [.data, .pinned], laidTests := true, laidLooks := .later }
def CborMapsUptoCardSaid : Prop := Claim7.holds Tryd.pinned (.plain (OpenSpec.upto cborMapsSpec)) cborMapsUptoCard

/-- THE SECOND FORM's CARD OF 'codicillaw10.CborTexts'. -/
def cborTextsUptoCard : Claim7 := { stood := { row := cborTextsUptoRow, standIns := [], harness := (true, "a8387c4bb88e1ed4b066c2297a440e9d280a4f3fb25a543b380fcf612291c486"), looks := false }, kinds := [], alts := [], laidByText := true, laidKinds := [.data, .pinned], laidTests := true, laidLooks := .later }
def CborTextsUptoCardSaid : Prop := Claim7.holds Tryd.pinned (.plain (OpenSpec.upto cborTextsSpec)) cborTextsUptoCard

/-- THE SECOND FORM's CARD OF 'codicillaw10.CborShort'. -/
def cborShortUptoCard : Claim7 := { stood := { row := cborShortUptoRow, standIns := [], harness := (true, "a8387c4bb88e1ed4b066c2297a440e9d280a4f3fb25a543b380fcf612291c486"), looks := false }, kinds := [], alts := [], laidByText := true, laidKinds := [.data, .pinned], laidTests := true, laidLooks := .later }
def CborShortUptoCardSaid : Prop := Claim7.holds Tryd.pinned (.plain (OpenSpec.upto cborShortSpec)) cborShortUptoCard
end Rows
end Go.Proofs.YtobjehjfdmelhabDoor
