/-
  DERIVED. GIVEN WITH THE SEED: THE CARDS: each row of YtelnlfhdaelfdaaDoorRows.lean that lists a variable, with what it lists TIED to the program's text (the seventh form; the later family's looks); each row that meets fmt, with fmt's text TOLD by the authors' own Lean function (tested against real Go, not proved from fmt's source: count such statements apart). THE CARD IS WHAT COUNTS. Prove the row's statement (the work); the ties are given (YtelnlfhdaelfdaaDoorTie.lean); close each card by the builder's one call (the guide's Derived/Test/ToyasCard.lean, 'card_holds'). Laid BY PROGRAM, IN A SANDBOX (cutbox-door.mjs). By AI agents, Wed Nov 11 2026. No macro, syntax, notation, axiom, sorry.
-/
import Derived.Test.YtelnlfhdaelfdaaDoorRows
import GoSem.ClaimSeven
namespace Go.Proofs.YtelnlfhdaelfdaaDoor
namespace Rows

/-- THE TIED CARD OF 'codicillaw24.NetExact'. -/
def netExactCard : Claim7 := { stood := { row := netExactRow, standIns := [], harness := (true, "891155d96ca261d6dec426f9a893f0765c918b26fb9e2bfab3eb0523fb6b23ea"), looks := false }, kinds := [], alts := [], laidByText := true, laidKinds := [.data, .pinned], laidTests := true, laidLooks := .later }
def NetExactCardSaid : Prop := Claim7.holds Tryd.pinned (.plain (OpenSpec.ofChange netExactSpec)) netExactCard

/-- THE TIED CARD OF 'codicillaw24.NetRoom'. -/
def netRoomCard : Claim7 := { stood := { row := netRoomRow, standIns := [], harness := (true, "891155d96ca261d6dec426f9a893f0765c918b26fb9e2bfab3eb0523fb6b23ea"), looks := false }, kinds := [], alts := [], laidByText := true, laidKinds := [.data, .pinned], laidTests := true, laidLooks := .later }
def NetRoomCardSaid : Prop := Claim7.holds Tryd.pinned (.plain (OpenSpec.ofChange netRoomSpec)) netRoomCard

/-- THE TIED CARD OF 'codicillaw24.NetStays'. -/
def netStaysCard : Claim7 := { stood := { row := netStaysRow, standIns := [], harness := (true, "891155d96ca261d6dec426f9a893f0765c918b26fb9e2bfab3eb0523fb6b23ea"), looks := false }, kinds := [], alts := [], laidByText := true, laidKinds := [.data, .pinned], laidTests := true, laidLooks := .later }
def NetStaysCardSaid : Prop := Claim7.holds Tryd.pinned (.plain (OpenSpec.ofChange netStaysSpec)) netStaysCard

/-- THE TIED CARD OF 'codicillaw13.WireExact'. -/
def wireExactCard : Claim7 := { stood := { row := wireExactRow, standIns := [], harness := (true, "891155d96ca261d6dec426f9a893f0765c918b26fb9e2bfab3eb0523fb6b23ea"), looks := false }, kinds := [], alts := [], laidByText := true, laidKinds := [.data, .pinned], laidTests := true, laidLooks := .later }
def WireExactCardSaid : Prop := Claim7.holds Tryd.pinned (.plain (OpenSpec.ofChange wireExactSpec)) wireExactCard

/-- THE TIED CARD OF 'codicillaw13.WireReads'. -/
def wireReadsCard : Claim7 := { stood := { row := wireReadsRow, standIns := [], harness := (true, "891155d96ca261d6dec426f9a893f0765c918b26fb9e2bfab3eb0523fb6b23ea"), looks := false }, kinds := [], alts := [], laidByText := true, laidKinds := [.data, .pinned], laidTests := true, laidLooks := .later }
def WireReadsCardSaid : Prop := Claim7.holds Tryd.pinned (.plain (OpenSpec.ofChange wireReadsSpec)) wireReadsCard

/-- THE TIED CARD OF 'codicillaw13.WireUnlike'. -/
def wireUnlikeCard : Claim7 := { stood := { row := wireUnlikeRow, standIns := [], harness := (true, "891155d96ca261d6dec426f9a893f0765c918b26fb9e2bfab3eb0523fb6b23ea"), looks := false }, kinds := [], alts := [], laidByText := true, laidKinds := [.data, .pinned], laidTests := true, laidLooks := .later }
def WireUnlikeCardSaid : Prop := Claim7.holds Tryd.pinned (.plain (OpenSpec.ofChange wireUnlikeSpec)) wireUnlikeCard

/-- THE TIED CARD OF 'codicillaw13.WireBent'. -/
def wireBentCard : Claim7 := { stood := { row := wireBentRow, standIns := [], harness := (true, "891155d96ca261d6dec426f9a893f0765c918b26fb9e2bfab3eb0523fb6b23ea"), looks := false }, kinds := [], alts := [], laidByText := true, laidKinds := [.data, .pinned], laidTests := true, laidLooks := .later }
def WireBentCardSaid : Prop := Claim7.holds Tryd.pinned (.plain (OpenSpec.ofChange wireBentSpec)) wireBentCard

/-- THE TIED CARD OF 'codicillaw13.WireBatch'. -/
def wireBatchCard : Claim7 := { stood := { row := wireBatchRow, standIns := [], harness := (true, "891155d96ca261d6dec426f9a893f0765c918b26fb9e2bfab3eb0523fb6b23ea"), looks := false }, kinds := [], alts := [], laidByText := true, laidKinds := [.data, .pinned], laidTests := true, laidLooks := .later }
def WireBatchCardSaid : Prop := Claim7.holds Tryd.pinned (.plain (OpenSpec.ofChange wireBatchSpec)) wireBatchCard

/-- THE TIED CARD OF 'codicillaw13.WireHeads'. -/
def wireHeadsCard : Claim7 := { stood := { row := wireHeadsRow, standIns := [], harness := (true, "891155d96ca261d6dec426f9a893f0765c918b26fb9e2bfab3eb0523fb6b23ea"), looks := false }, kinds := [], alts := [], laidByText := true, laidKinds := [.data, .pinned], laidTests := true, laidLooks := .later }
def WireHeadsCardSaid : Prop := Claim7.holds Tryd.pinned (.plain (OpenSpec.ofChange wireHeadsSpec)) wireHeadsCard

/-- THE TIED CARD OF 'codicillaw13.WireWho'. -/
def wireWhoCard : Claim7 := { stood := { row := wireWhoRow, standIns := [], harness := (true, "891155d96ca261d6dec426f9a893f0765c918b26fb9e2bfab3eb0523fb6b23ea"), looks := false }, kinds := [], alts := [], laidByText := true, laidKinds := [.data, .pinned], laidTests := true, laidLooks := .later }
def WireWhoCardSaid : Prop := Claim7.holds Tryd.pinned (.plain (OpenSpec.ofChange wireWhoSpec)) wireWhoCard

/-- THE TIED CARD OF 'codicillaw24.NetMany'. -/
def netManyCard : Claim7 := { stood := { row := netManyRow, standIns := [], harness := (true, "891155d96ca261d6dec426f9a893f0765c918b26fb9e2bfab3eb0523fb6b23ea"), looks := false }, kinds := [], alts := [], laidByText := true, laidKinds := [.data, .pinned], laidTests := true, laidLooks := .later }
def NetManyCardSaid : Prop := Claim7.holds Tryd.pinned (.plain (OpenSpec.ofChange netManySpec)) netManyCard

/-- THE TIED CARD OF 'codicillaw24.NetBack'. -/
def netBackCard : Claim7 := { stood := { row := netBackRow, standIns := [], harness := (true, "891155d96ca261d6dec426f9a893f0765c918b26fb9e2bfab3eb0523fb6b23ea"), looks := false }, kinds := [], alts := [], laidByText := true, laidKinds := [.data, .pinned], laidTests := true, laidLooks := .later }
def NetBackCardSaid : Prop := Claim7.holds Tryd.pinned (.plain (OpenSpec.ofChange netBackSpec)) netBackCard

/-- THE SECOND FORM's CARD OF 'codicillaw24.NetExact'. -/
def netExactUptoCard : Claim7 := { stood := { row := netExactUptoRow, standIns := [], harness := (true, "891155d96ca261d6dec426f9a893f0765c918b26fb9e2bfab3eb0523fb6b23ea"), looks := false }, kinds := [], alts := [], laidByText := true, laidKinds := [.data, .pinned], laidTests := true, laidLooks := .later }
def NetExactUptoCardSaid : Prop := Claim7.holds Tryd.pinned (.plain (OpenSpec.upto netExactSpec)) netExactUptoCard

/-- THE SECOND FORM's CARD OF 'codicillaw24.NetRoom'. -/
def netRoomUptoCard : Claim7 := { stood := { row := netRoomUptoRow, standIns := [], harness := (true, "891155d96ca261d6dec426f9a893f0765c918b26fb9e2bfab3eb0523fb6b23ea"), looks := false }, kinds := [], alts := [], laidByText := true, laidKinds := [.data, .pinned], laidTests := true, laidLooks := .later }
def NetRoomUptoCardSaid : Prop := Claim7.holds Tryd.pinned (.plain (OpenSpec.upto netRoomSpec)) netRoomUptoCard

/-- THE SECOND FORM's CARD OF 'codicillaw24.NetStays'. -/
def netStaysUptoCard : Claim7 := { stood := { row := netStaysUptoRow, standIns := [], harness := (true, "891155d96ca261d6dec426f9a893f0765c918b26fb9e2bfab3eb0523fb6b23ea"), looks := false }, kinds := [], alts := [], laidByText := true, laidKinds := [.data, .pinned], laidTests := true, laidLooks := .later }
def NetStaysUptoCardSaid : Prop := Claim7.holds Tryd.pinned (.plain (OpenSpec.upto netStaysSpec)) netStaysUptoCard

/-- THE SECOND FORM's CARD OF 'codicillaw13.WireExact'. -/
def wireExactUptoCard : Claim7 := { stood := { row := wireExactUptoRow, standIns := [], harness := (true, "891155d96ca261d6dec426f9a893f0765c918b26fb9e2bfab3eb0523fb6b23ea"), looks := false }, kinds := [], alts := [], laidByText := true, laidKinds := [.data, .pinned], laidTests := true, laidLooks := .later }
def WireExactUptoCardSaid : Prop := Claim7.holds Tryd.pinned (.plain (OpenSpec.upto wireExactSpec)) wireExactUptoCard

/-- THE SECOND FORM's CARD OF 'codicillaw13.WireReads'. -/
def wireReadsUptoCard : Claim7 := { stood := { row := wireReadsUptoRow, standIns := [], harness := (true, "891155d96ca261d6dec426f9a893f0765c918b26fb9e2bfab3eb0523fb6b23ea"), looks := false }, kinds := [], alts := [], laidByText := true, laidKinds := [.data, .pinned], laidTests := true, laidLooks := .later }
def WireReadsUptoCardSaid : Prop := Claim7.holds Tryd.pinned (.plain (OpenSpec.upto wireReadsSpec)) wireReadsUptoCard

/-- THE SECOND FORM's CARD OF 'codicillaw13.WireUnlike'. -/
def wireUnlikeUptoCard : Claim7 := { stood := { row := wireUnlikeUptoRow, standIns := [], harness := (true, "891155d96ca261d6dec426f9a893f0765c918b26fb9e2bfab3eb0523fb6b23ea"), looks := false }, kinds := [], alts := [], laidByText := true, laidKinds := [.data, .pinned], laidTests := true, laidLooks := .later }
def WireUnlikeUptoCardSaid : Prop := Claim7.holds Tryd.pinned (.plain (OpenSpec.upto wireUnlikeSpec)) wireUnlikeUptoCard

/-- THE SECOND FORM's CARD OF 'codicillaw13.WireBent'. -/
def wireBentUptoCard : Claim7 := { stood := { row := wireBentUptoRow, standIns := [], harness := (true, "891155d96ca261d6dec426f9a893f0765c918b26fb9e2bfab3eb0523fb6b23ea"), looks := false }, kinds := [], alts := [], laidByText := true, laidKinds := [.data, .pinned], laidTests := true, laidLooks := .later }
def WireBentUptoCardSaid : Prop := Claim7.holds Tryd.pinned (.plain (OpenSpec.upto wireBentSpec)) wireBentUptoCard

/-- THE SECOND FORM's CARD OF 'codicillaw13.WireBatch'. -/
def wireBatchUptoCard : Claim7 := { stood := { row := wireBatchUptoRow, standIns := [], harness := (true, "891155d96ca261d6dec426f9a893f0765c918b26fb9e2bfab3eb0523fb6b23ea"), looks := false }, kinds := [], alts := [], laidByText := true, laidKinds := [.data, .pinned], laidTests := true, laidLooks := .later }
def WireBatchUptoCardSaid : Prop := Claim7.holds Tryd.pinned (.plain (OpenSpec.upto wireBatchSpec)) wireBatchUptoCard

/-- THE SECOND FORM's CARD OF 'codicillaw13.WireHeads'. -/
def wireHeadsUptoCard : Claim7 := { stood := { row := wireHeadsUptoRow, standIns := [], harness := (true, "891155d96ca261d6dec426f9a893f0765c918b26fb9e2bfab3eb0523fb6b23ea"), looks := false }, kinds := [], alts := [], laidByText := true, laidKinds := [.data, .pinned], laidTests := true, laidLooks := .later }
def WireHeadsUptoCardSaid : Prop := Claim7.holds Tryd.pinned (.plain (OpenSpec.upto wireHeadsSpec)) wireHeadsUptoCard

/-- THE SECOND FORM's CARD OF 'codicillaw13.WireWho'. -/
def wireWhoUptoCard : Claim7 := { stood := { row := wireWhoUptoRow, standIns := [], harness := (true, "891155d96ca261d6dec426f9a893f0765c918b26fb9e2bfab3eb0523fb6b23ea"), looks := false }, kinds := [], alts := [], laidByText := true, laidKinds := [.data, .pinned], laidTests := true, laidLooks := .later }
def WireWhoUptoCardSaid : Prop := Claim7.holds Tryd.pinned (.plain (OpenSpec.upto wireWhoSpec)) wireWhoUptoCard

/-- THE SECOND FORM's CARD OF 'codicillaw24.NetMany'. -/
def netManyUptoCard : Claim7 := { stood := { row := netManyUptoRow, standIns := [], harness := (true, "891155d96ca261d6dec426f9a893f0765c918b26fb9e2bfab3eb0523fb6b23ea"), looks := false }, kinds := [], alts := [], laidByText := true, laidKinds := [.data, .pinned], laidTests := true, laidLooks := .later }
def NetManyUptoCardSaid : Prop := Claim7.holds Tryd.pinned (.plain (OpenSpec.upto netManySpec)) netManyUptoCard

/-- THE SECOND FORM's CARD OF 'codicillaw24.NetBack'. -/
def netBackUptoCard : Claim7 := { stood := { row := netBackUptoRow, standIns := [], harness := (true, "891155d96ca261d6dec426f9a893f0765c918b26fb9e2bfab3eb0523fb6b23ea"), looks := false }, kinds := [], alts := [], laidByText := true, laidKinds := [.data, .pinned], laidTests := true, laidLooks := .later }
def NetBackUptoCardSaid : Prop := Claim7.holds Tryd.pinned (.plain (OpenSpec.upto netBackSpec)) netBackUptoCard
end Rows
end Go.Proofs.YtelnlfhdaelfdaaDoor
