/-
  DERIVED. GIVEN WITH THE SEED: THE CARDS: each row of YtbpdbajcmagomaaDoorRows.lean that lists a variable, with what it lists TIED to the program's text (the seventh form; the later family's looks); each row that meets fmt, with fmt's text TOLD by the authors' own Lean function (tested against real Go, not proved from fmt's source: count such statements apart). THE CARD IS WHAT COUNTS. Prove the row's statement (the work); the ties are given (YtbpdbajcmagomaaDoorTie.lean); close each card by the builder's one call (the guide's Derived/Test/ToyasCard.lean, 'card_holds'). Laid BY PROGRAM, IN A SANDBOX (cutbox-door.mjs). By AI agents, Wed Nov 11 2026. No macro, syntax, notation, axiom, sorry.
-/
import Derived.Test.YtbpdbajcmagomaaDoorRows
import GoSem.ClaimSeven
namespace Go.Proofs.YtbpdbajcmagomaaDoor
namespace Rows

/-- THE TIED CARD OF 'codicillaw24.NetExact'. -/
def netExactCard : Claim7 := { stood := { row := netExactRow, standIns := [], harness := (true, "da6824edda0ed4ba5fc2e78b92fee423cf3e611a27642dce64384f17745cfcce"), looks := false }, kinds := [], alts := [], laidByText := true, laidKinds := [.data, .pinned], laidTests := true, laidLooks := .later }
def NetExactCardSaid : Prop := Claim7.holds Tryd.pinned (.plain (OpenSpec.ofChange netExactSpec)) netExactCard

/-- THE TIED CARD OF 'codicillaw24.NetRoom'. -/
def netRoomCard : Claim7 := { stood := { row := netRoomRow, standIns := [], harness := (true, "da6824edda0ed4ba5fc2e78b92fee423cf3e611a27642dce64384f17745cfcce"), looks := false }, kinds := [], alts := [], laidByText := true, laidKinds := [.data, .pinned], laidTests := true, laidLooks := .later }
def NetRoomCardSaid : Prop := Claim7.holds Tryd.pinned (.plain (OpenSpec.ofChange netRoomSpec)) netRoomCard

/-- THE TIED CARD OF 'codicillaw24.NetStays'. -/
def netStaysCard : Claim7 := { stood := { row := netStaysRow, standIns := [], harness := (true, "da6824edda0ed4ba5fc2e78b92fee423cf3e611a27642dce64384f17745cfcce"), looks := false }, kinds := [], alts := [], laidByText := true, laidKinds := [.data, .pinned], laidTests := true, laidLooks := .later }
def NetStaysCardSaid : Prop := Claim7.holds Tryd.pinned (.plain (OpenSpec.ofChange netStaysSpec)) netStaysCard

/-- THE TIED CARD OF 'codicillaw13.WireHeads'. -/
def wireHeadsCard : Claim7 := { stood := { row := wireHeadsRow, standIns := [], harness := (true, "da6824edda0ed4ba5fc2e78b92fee423cf3e611a27642dce64384f17745cfcce"), looks := false }, kinds := [], alts := [], laidByText := true, laidKinds := [.data, .pinned], laidTests := true, laidLooks := .later }
def WireHeadsCardSaid : Prop := Claim7.holds Tryd.pinned (.plain (OpenSpec.ofChange wireHeadsSpec)) wireHeadsCard

/-- THE TIED CARD OF 'codicillaw24.NetMany'. -/
def netManyCard : Claim7 := { stood := { row := netManyRow, standIns := [], harness := (true, "da6824edda0ed4ba5fc2e78b92fee423cf3e611a27642dce64384f17745cfcce"), looks := false }, kinds := [], alts := [], laidByText := true, laidKinds := [.data, .pinned], laidTests := true, laidLooks := .later }
def NetManyCardSaid : Prop := Claim7.holds Tryd.pinned (.plain (OpenSpec.ofChange netManySpec)) netManyCard

/-- THE TIED CARD OF 'codicillaw24.NetBack'. -/
def netBackCard : Claim7 := { stood := { row := netBackRow, standIns := [], harness := (true, "da6824edda0ed4ba5fc2e78b92fee423cf3e611a27642dce64384f17745cfcce"), looks := false }, kinds := [], alts := [], laidByText := true, laidKinds := [.data, .pinned], laidTests := true, laidLooks := .later }
def NetBackCardSaid : Prop := Claim7.holds Tryd.pinned (.plain (OpenSpec.ofChange netBackSpec)) netBackCard

/-- THE SECOND FORM's CARD OF 'codicillaw24.NetExact'. -/
def netExactUptoCard : Claim7 := { stood := { row := netExactUptoRow, standIns := [], harness := (true, "da6824edda0ed4ba5fc2e78b92fee423cf3e611a27642dce64384f17745cfcce"), looks := false }, kinds := [], alts := [], laidByText := true, laidKinds := [.data, .pinned], laidTests := true, laidLooks := .later }
def NetExactUptoCardSaid : Prop := Claim7.holds Tryd.pinned (.plain (OpenSpec.upto netExactSpec)) netExactUptoCard

/-- THE SECOND FORM's CARD OF 'codicillaw24.NetRoom'. -/
def netRoomUptoCard : Claim7 := { stood := { row := netRoomUptoRow, standIns := [], harness := (true, "da6824edda0ed4ba5fc2e78b92fee423cf3e611a27642dce64384f17745cfcce"), looks := false }, kinds := [], alts := [], laidByText := true, laidKinds := [.data, .pinned], laidTests := true, laidLooks := .later }
def NetRoomUptoCardSaid : Prop := Claim7.holds Tryd.pinned (.plain (OpenSpec.upto netRoomSpec)) netRoomUptoCard

/-- THE SECOND FORM's CARD OF 'codicillaw24.NetStays'. -/
def netStaysUptoCard : Claim7 := { stood := { row := netStaysUptoRow, standIns := [], harness := (true, "da6824edda0ed4ba5fc2e78b92fee423cf3e611a27642dce64384f17745cfcce"), looks := false }, kinds := [], alts := [], laidByText := true, laidKinds := [.data, .pinned], laidTests := true, laidLooks := .later }
def NetStaysUptoCardSaid : Prop := Claim7.holds Tryd.pinned (.plain (OpenSpec.upto netStaysSpec)) netStaysUptoCard

/-- THE SECOND FORM's CARD OF 'codicillaw13.WireHeads'. -/
def wireHeadsUptoCard : Claim7 := { stood := { row := wireHeadsUptoRow, standIns := [], harness := (true, "da6824edda0ed4ba5fc2e78b92fee423cf3e611a27642dce64384f17745cfcce"), looks := false }, kinds := [], alts := [], laidByText := true, laidKinds := [.data, .pinned], laidTests := true, laidLooks := .later }
def WireHeadsUptoCardSaid : Prop := Claim7.holds Tryd.pinned (.plain (OpenSpec.upto wireHeadsSpec)) wireHeadsUptoCard

/-- THE SECOND FORM's CARD OF 'codicillaw24.NetMany'. -/
def netManyUptoCard : Claim7 := { stood := { row := netManyUptoRow, standIns := [], harness := (true, "da6824edda0ed4ba5fc2e78b92fee423cf3e611a27642dce64384f17745cfcce"), looks := false }, kinds := [], alts := [], laidByText := true, laidKinds := [.data, .pinned], laidTests := true, laidLooks := .later }
def NetManyUptoCardSaid : Prop := Claim7.holds Tryd.pinned (.plain (OpenSpec.upto netManySpec)) netManyUptoCard

/-- THE SECOND FORM's CARD OF 'codicillaw24.NetBack'. -/
def netBackUptoCard : Claim7 := { stood := { row := netBackUptoRow, standIns := [], harness := (true, "da6824edda0ed4ba5fc2e78b92fee423cf3e611a27642dce64384f17745cfcce"), looks := false }, kinds := [], alts := [], laidByText := true, laidKinds := [.data, .pinned], laidTests := true, laidLooks := .later }
def NetBackUptoCardSaid : Prop := Claim7.holds Tryd.pinned (.plain (OpenSpec.upto netBackSpec)) netBackUptoCard
end Rows
end Go.Proofs.YtbpdbajcmagomaaDoor
