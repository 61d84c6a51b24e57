/-
  DERIVED. GIVEN WITH THE SEED: THE CARDS: each row of YtobjehjfdmelhaaDoorRows.lean that lists a variable, with what it lists TIED to the program's text (the seventh form; the later family's looks); each row that meets fmt, with fmt's text TOLD by the authors' own Lean function (tested against real Go, not proved from fmt's source: count such statements apart). THE CARD IS WHAT COUNTS. Prove the row's statement (the work); the ties are given (YtobjehjfdmelhaaDoorTie.lean); close each card by the builder's one call (the guide's Derived/Test/ToyasCard.lean, 'card_holds'). Laid BY PROGRAM, IN A SANDBOX (cutbox-door.mjs). By AI agents, Wed Nov 11 2026. No macro, syntax, notation, axiom, sorry.
-/
import Derived.Test.YtobjehjfdmelhaaDoorRows
import GoSem.ClaimSeven
namespace Go.Proofs.YtobjehjfdmelhaaDoor
namespace Rows

/-- THE TIED CARD OF 'codicillaw10.CborReads'. -/
def cborReadsCard : Claim7 := { stood := { row := cborReadsRow, standIns := [], harness := (true, "b2619b6392df5b047e91519415014f563fa691233174b37f4c7f108c787f7674"), looks := false }, kinds := [], alts := [], laidByText := true, laidKinds := [.data, .pinned], laidTests := true, laidLooks := .later }
def CborReadsCardSaid : Prop := Claim7.holds Tryd.pinned (.plain (OpenSpec.ofChange cborReadsSpec)) cborReadsCard

/-- THE TIED CARD OF 'codicillaw10.CborUtf8'. -/
def cborUtf8Card : Claim7 := { stood := { row := cborUtf8Row, standIns := [], harness := (true, "b2619b6392df5b047e91519415014f563fa691233174b37f4c7f108c787f7674"), looks := false }, kinds := [], alts := [], laidByText := true, laidKinds := [.data, .pinned], laidTests := true, laidLooks := .later }
def CborUtf8CardSaid : Prop := Claim7.holds Tryd.pinned (.plain (OpenSpec.ofChange cborUtf8Spec)) cborUtf8Card

/-- THE TIED CARD OF 'codicillaw10.CborUnlike'. -/
def cborUnlikeCard : Claim7 := { stood := { row := cborUnlikeRow, standIns := [], harness := (true, "b2619b6392df5b047e91519415014f563fa691233174b37f4c7f108c787f7674"), looks := false }, kinds := [], alts := [], laidByText := true, laidKinds := [.data, .pinned], laidTests := true, laidLooks := .later }
def CborUnlikeCardSaid : Prop := Claim7.holds Tryd.pinned (.plain (OpenSpec.ofChange cborUnlikeSpec)) cborUnlikeCard

/-- THE TIED CARD OF 'codicillaw10.CborNests'. -/
def cborNestsCard : Claim7 := { stood := { row := cborNestsRow, standIns := [], harness := (true, "b2619b6392df5b047e91519415014f563fa691233174b37f4c7f108c787f7674"), looks := false }, kinds := [], alts := [], laidByText := true, laidKinds := [.data, .pinned], laidTests := true, laidLooks := .later }
def CborNestsCardSaid : Prop := Claim7.holds Tryd.pinned (.plain (OpenSpec.ofChange cborNestsSpec)) cborNestsCard

/-- THE TIED CARD OF 'codicillaw10.CborInside'. -/
def cborInsideCard : Claim7 := { stood := { row := cborInsideRow, standIns := [], harness := (true, "b2619b6392df5b047e91519415014f563fa691233174b37f4c7f108c787f7674"), looks := false }, kinds := [], alts := [], laidByText := true, laidKinds := [.data, .pinned], laidTests := true, laidLooks := .later }
def CborInsideCardSaid : Prop := Claim7.holds Tryd.pinned (.plain (OpenSpec.ofChange cborInsideSpec)) cborInsideCard

/-- THE TIED CARD OF 'codicillaw10.CborKinds'. -/
def cborKindsCard : Claim7 := { stood := { row := cborKindsRow, standIns := [], harness := (true, "b2619b6392df5b047e91519415014f563fa691233174b37f4c7f108c787f7674"), looks := false }, kinds := [], alts := [], laidByText := true, laidKinds := [.data, .pinned], laidTests := true, laidLooks := .later }
def CborKindsCardSaid : Prop := Claim7.holds Tryd.pinned (.plain (OpenSpec.ofChange cborKindsSpec)) cborKindsCard

/-- THE SECOND FORM's CARD OF 'codicillaw10.CborReads'. -/
def cborReadsUptoCard : Claim7 := { stood := { row := cborReadsUptoRow, standIns := [], harness := (true, "b2619b6392df5b047e91519415014f563fa691233174b37f4c7f108c787f7674"), looks := false }, kinds := [], alts := [], laidByText := true, laidKinds := [.data, .pinned], laidTests := true, laidLooks := .later }
def CborReadsUptoCardSaid : Prop := Claim7.holds Tryd.pinned (.plain (OpenSpec.upto cborReadsSpec)) cborReadsUptoCard

/-- THE SECOND FORM's CARD OF 'codicillaw10.CborUtf8'. -/
def cborUtf8UptoCard : Claim7 := { stood := { row := cborUtf8UptoRow, standIns := [], harness := (true, "b2619b6392df5b047e91519415014f563fa691233174b37f4c7f108c787f7674"), looks := false }, kinds := [], alts := [], laidByText := true, laidKinds := [.data, .pinned], laidTests := true, laidLooks := .later }
def CborUtf8UptoCardSaid : Prop := Claim7.holds Tryd.pinned (.plain (OpenSpec.upto cborUtf8Spec)) cborUtf8UptoCard

/-- THE SECOND FORM's CARD OF 'codicillaw10.CborUnlike'. -/
def cborUnlikeUptoCard : Claim7 := { stood := { row := cborUnlikeUptoRow, standIns := [], harness := (true, "b2619b6392df5b047e91519415014f563fa691233174b37f4c7f108c787f7674"), looks := false }, kinds := [], alts := [], laidByText := true, laidKinds := [.data, .pinned], laidTests := true, laidLooks := .later }
def CborUnlikeUptoCardSaid : Prop := Claim7.holds Tryd.pinned (.plain (OpenSpec.upto cborUnlikeSpec)) cborUnlikeUptoCard

/-- THE SECOND FORM's CARD OF 'codicillaw10.CborNests'. -/
def cborNestsUptoCard : Claim7 := { stood := { row := cborNestsUptoRow, standIns := [], harness := (true, "b2619b6392df5b047e91519415014f563fa691233174b37f4c7f108c787f7674"), looks := false }, kinds := [], alts := [], laidByText := true, laidKinds := [.data, .pinned], laidTests := true, laidLooks := .later }
def CborNestsUptoCardSaid : Prop := Claim7.holds Tryd.pinned (.plain (OpenSpec.upto cborNestsSpec)) cborNestsUptoCard

/-- THE SECOND FORM's CARD OF 'codicillaw10.CborInside'. -/
def cborInsideUptoCard : Claim7 := { stood := { row := cborInsideUptoRow, standIns := [], harness := (true, "b2619b6392df5b047e91519415014f563fa691233174b37f4c7f108c787f7674"), looks := false }, kinds := [], alts := [], laidByText := true, laidKinds := [.data, .pinned], laidTests := true, laidLooks := .later }
def CborInsideUptoCardSaid : Prop := Claim7.holds Tryd.pinned (.plain (OpenSpec.upto cborInsideSpec)) cborInsideUptoCard

/-- THE SECOND FORM's CARD OF 'codicillaw10.CborKinds'. -/
def cborKindsUptoCard : Claim7 := { stood := { row := cborKindsUptoRow, standIns := [], harness := (true, "b2619b6392df5b047e91519415014f563fa691233174b37f4c7f108c787f7674"), looks := false }, kinds := [], alts := [], laidByText := true, laidKinds := [.data, .pinned], laidTests := true, laidLooks := .later }
def CborKindsUptoCardSaid : Prop := Claim7.holds Tryd.pinned (.plain (OpenSpec.upto cborKindsSpec)) cborKindsUptoCard
end Rows
end Go.Proofs.YtobjehjfdmelhaaDoor
