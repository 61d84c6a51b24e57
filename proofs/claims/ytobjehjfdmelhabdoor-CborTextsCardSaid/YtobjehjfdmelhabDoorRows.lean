/-
  NARROWER THAN 'FOR EVERY INPUT', by the rows' own cells (each row's printed sentence says how): CborMany: laid · CborLongest: laid · CborExact: laid · CborMaps: laid · CborTexts: laid · CborShort: laid.
  DERIVED. THE GIVEN ROWS OF THIS SEAT. 6 by the template 'for every input the law returns true; each argument reads behind the call as it read before'; 0 by the template 'total and deterministic' (their statements: YtobjehjfdmelhabDoorTotals.lean).
  GIVEN WITH THE SEED: the statements are not yours to turn. If you find one false, say at which input.
  Laid BY PROGRAM, IN A SANDBOX (cutbox-rows.mjs): the forced cells as the released guide's own fill.sh prints them over the translation 38510e0d7f524352… (all of the seat's roots in one cut). By AI agents, Wed Nov 11 2026. No macro, syntax, notation, axiom, sorry.
-/
import Derived.Test.YtobjehjfdmelhabDoorChecked
import GoSem.PinnedTables
import GoSem.Claim
import GoSem.ClaimJoined
import GoSem.ClaimMapViews
import Derived.JoinedTies
import Derived.KernelRfl
namespace Go.Proofs.YtobjehjfdmelhabDoor
/- THE CELL 'sum', in the pinned program and in every row, IS THE sha256 OF THE DUMP (.gsa) THAT YtobjehjfdmelhabDoorProg.lean LOADS. Nothing in Lean hashes anything: it is a label: what it is worth is what the hold of that sum in a sandbox is worth. -/
noncomputable def Tryd.pinned : Pinned := { name := "ytobjehjfdmelhabdoor", sum := "38510e0d7f5243525c814b0141c55b8161b2fb8492ce26295cf501568e686cf2", checked := Tryd.checked }
namespace Rows
def none {H : Type} : Left H := { results := [], args := [] }

/- WHAT THE LISTED PACKAGE-LEVEL VARIABLES READ AS WHEN THE CALL BEGINS. Each datum BY PROGRAM (the guide's laid-datum.mjs) off the statement by which the dump's own 'gosem.cut.vars' lays the variable. In a bare row this is a premise. The card (YtobjehjfdmelhabDoorCards.lean) ties it to the program's text. -/
def laid_unicode_utf8_acceptRanges {H : Type} : DataW H := .agg [.agg [.lit (.int .u8 128), .lit (.int .u8 191)], .agg [.lit (.int .u8 160), .lit (.int .u8 191)], .agg [.lit (.int .u8 128), .lit (.int .u8 159)], .agg [.lit (.int .u8 144), .lit (.int .u8 191)], .agg [.lit (.int .u8 128), .lit (.int .u8 143)], .agg [.lit (.int .u8 0), .lit (.int .u8 0)], .agg [.lit (.int .u8 0), .lit (.int .u8 0)], .agg [.lit (.int .u8 0), .lit (.int .u8 0)], .agg [.lit (.int .u8 0), .lit (.int .u8 0)], .agg [.lit (.int .u8 0), .lit (.int .u8 0)], .agg [.lit (.int .u8 0), .lit (.int .u8 0)], .agg [.lit (.int .u8 0), .lit (.int .u8 0)], .agg [.lit (.int .u8 0), .lit (.int .u8 0)], .agg [.lit (.int .u8 0), .lit (.int .u8 0)], .agg [.lit (.int .u8 0), .lit (.int .u8 0)], .agg [.lit (.int .u8 0), .lit (.int .u8 0)]]
/-- One of Go's own tables, pinned by name: the form's constant. -/
def laid_unicode_utf8_first : DataW Unit := Go.Pinned.utf8First

/-- 'codicillaw10.CborMany': WHATEVER THE INPUT: true; the input reads as it did. -/
def cborManySpec : ChangeSpec := { name := "cborMany", fn := fun _ => fun
  | [d] => { results := [.lit (.bool true)], args := [d] }
  | _ => none }
def cborManyRow : OpenClaim := { program := "ytobjehjfdmelhabdoor", sum := "38510e0d7f5243525c814b0141c55b8161b2fb8492ce26295cf501568e686cf2", func := "codicil/codicillaw10.CborMany", spec := "cborMany", inPlace := ["internal/bytealg.Compare"], recurses := true, named := ["unicode/utf8.first", "unicode/utf8.acceptRanges"], apart := false, laid := [("unicode/utf8.acceptRanges", laid_unicode_utf8_acceptRanges), ("unicode/utf8.first", laid_unicode_utf8_first)] }
def CborManySaid : Prop := cborManyRow.holds Tryd.pinned (OpenSpec.ofChange cborManySpec)

/-- ITS FALSE NEIGHBOUR: 'it returns false'. Refute it at one input. -/
def cborManyWrong : ChangeSpec := { name := "cborMany", fn := fun _ => fun
  | [d] => { results := [.lit (.bool false)], args := [d] }
  | _ => none }
def CborManyWrongFalsely : Prop := cborManyRow.holds Tryd.pinned (OpenSpec.ofChange cborManyWrong)

/-- 'codicillaw10.CborLongest': WHATEVER THE INPUT: true; the input reads as it did. -/
def cborLongestSpec : ChangeSpec := { name := "cborLongest", fn := fun _ => fun
  | [d] => { results := [.lit (.bool true)], args := [d] }
  | _ => none }
def cborLongestRow : OpenClaim := { program := "ytobjehjfdmelhabdoor", sum := "38510e0d7f5243525c814b0141c55b8161b2fb8492ce26295cf501568e686cf2", func := "codicil/codicillaw10.CborLongest", spec := "cborLongest", inPlace := ["internal/bytealg.Compare"], recurses := true, named := ["unicode/utf8.first", "unicode/utf8.acceptRanges"], apart := false, laid := [("unicode/utf8.acceptRanges", laid_unicode_utf8_acceptRanges), ("unicode/utf8.first", laid_unicode_utf8_first)] }
def CborLongestSaid : Prop := cborLongestRow.holds Tryd.pinned (OpenSpec.ofChange cborLongestSpec)

/-- ITS FALSE NEIGHBOUR: 'it returns false'. Refute it at one input. -/
def cborLongestWrong : ChangeSpec := { name := "cborLongest", fn := fun _ => fun
  | [d] => { results := [.lit (.bool false)], args := [d] }
  | _ => none }
def CborLongestWrongFalsely : Prop := cborLongestRow.holds Tryd.pinned (OpenSpec.ofChange cborLongestWrong)

/-- 'codicillaw10.CborExact': WHATEVER THE INPUT: true; the input reads as it did. -/
def cborExactSpec : ChangeSpec := { name := "cborExact", fn := fun _ => fun
  | [d] => { results := [.lit (.bool true)], args := [d] }
  | _ => none }
def cborExactRow : OpenClaim := { program := "ytobjehjfdmelhabdoor", sum := "38510e0d7f5243525c814b0141c55b8161b2fb8492ce26295cf501568e686cf2", func := "codicil/codicillaw10.CborExact", spec := "cborExact", inPlace := ["internal/bytealg.Compare"], recurses := true, named := ["unicode/utf8.first", "unicode/utf8.acceptRanges"], apart := false, laid := [("unicode/utf8.acceptRanges", laid_unicode_utf8_acceptRanges), ("unicode/utf8.first", laid_unicode_utf8_first)] }
def CborExactSaid : Prop := cborExactRow.holds Tryd.pinned (OpenSpec.ofChange cborExactSpec)

/-- ITS FALSE NEIGHBOUR: 'it returns false'. Refute it at one input. -/
def cborExactWrong : ChangeSpec := { name := "cborExact", fn := fun _ => fun
  | [d] => { results := [.lit (.bool false)], args := [d] }
  | _ => none }
def CborExactWrongFalsely : Prop := cborExactRow.holds Tryd.pinned (OpenSpec.ofChange cborExactWrong)

/-- 'codicillaw10.CborMaps': WHATEVER THE INPUT: true; the input reads as it did. -/
def cborMapsSpec : ChangeSpec := { name := "cborMaps", fn := fun _ => fun
  | [d1, d2, d3] => { results := [.lit (.bool true)], args := [d1, d2, d3] }
  | _ => none }
def cborMapsRow : OpenClaim := { program := "ytobjehjfdmelhabdoor", sum := "38510e0d7f5243525c814b0141c55b8161b2fb8492ce26295cf501568e686cf2", func := "codicil/codicillaw10.CborMaps", spec := "cborMaps", inPlace := ["internal/bytealg.Compare"], recurses := true, named := ["unicode/utf8.first", "unicode/utf8.acceptRanges"], apart := false, laid := [("unicode/utf8.acceptRanges", laid_unicode_utf8_acceptRanges), ("unicode/utf8.first", laid_unicode_utf8_first)] }
def CborMapsSaid : Prop := cborMapsRow.holds Tryd.pinned (OpenSpec.ofChange cborMapsSpec)

/-- ITS FALSE NEIGHBOUR: 'it returns false'. Refute it at one input. -/
def cborMapsWrong : ChangeSpec := { name := "cborMaps", fn := fun _ => fun
  | [d1, d2, d3] => { results := [.lit (.bool false)], args := [d1, d2, d3] }
  | _ => none }
def CborMapsWrongFalsely : Prop := cborMapsRow.holds Tryd.pinned (OpenSpec.ofChange cborMapsWrong)

/-- 'codicillaw10.CborTexts': WHATEVER THE INPUT: true; the input reads as it did. -/
def cborTextsSpec : ChangeSpec := { name := "cborTexts", fn := fun _ => fun
  | [d1, d2] => { results := [.lit (.bool true)], args := [d1, d2] }
  | _ => none }
def cborTextsRow : OpenClaim := { program := "ytobjehjfdmelhabdoor", sum := "38510e0d7f5243525c814b0141c55b8161b2fb8492ce26295cf501568e686cf2", func := "codicil/codicillaw10.CborTexts", spec := "cborTexts", inPlace := ["internal/bytealg.Compare"], recurses := true, named := ["unicode/utf8.first", "unicode/utf8.acceptRanges"], apart := false, laid := [("unicode/utf8.acceptRanges", laid_unicode_utf8_acceptRanges), ("unicode/utf8.first", laid_unicode_utf8_first)] }
def CborTextsSaid : Prop := cborTextsRow.holds Tryd.pinned (OpenSpec.ofChange cborTextsSpec)

/-- ITS FALSE NEIGHBOUR: 'it returns false'. Refute it at one input. -/
def cborTextsWrong : ChangeSpec := { name := "cborTexts", fn := fun _ => fun
  | [d1, d2] => { results := [.lit (.bool false)], args := [d1, d2] }
  | _ => none }
def CborTextsWrongFalsely : Prop := cborTextsRow.holds Tryd.pinned (OpenSpec.ofChange cborTextsWrong)

/-- 'codicillaw10.CborShort': WHATEVER THE INPUT: true; the input reads as it did. -/
def cborShortSpec : ChangeSpec := { name := "cborShort", fn := fun _ => fun
  | [d1, d2] => { results := [.lit (.bool true)], args := [d1, d2] }
  | _ => none }
def cborShortRow : OpenClaim := { program := "ytobjehjfdmelhabdoor", sum := "38510e0d7f5243525c814b0141c55b8161b2fb8492ce26295cf501568e686cf2", func := "codicil/codicillaw10.CborShort", spec := "cborShort", inPlace := ["internal/bytealg.Compare"], recurses := true, named := ["unicode/utf8.first", "unicode/utf8.acceptRanges"], apart := false, laid := [("unicode/utf8.acceptRanges", laid_unicode_utf8_acceptRanges), ("unicode/utf8.first", laid_unicode_utf8_first)] }
def CborShortSaid : Prop := cborShortRow.holds Tryd.pinned (OpenSpec.ofChange cborShortSpec)

/-- ITS FALSE NEIGHBOUR: 'it returns false'. Refute it at one input. -/
def cborShortWrong : ChangeSpec := { name := "cborShort", fn := fun _ => fun
  | [d1, d2] => { results := [.lit (.bool false)], args := [d1, d2] }
  | _ => none }
def CborShortWrongFalsely : Prop := cborShortRow.holds Tryd.pinned (OpenSpec.ofChange cborShortWrong)

/- THE SECOND FORM. 'bulk': how many values and letters a reading holds, each counted each time it is reached (what is shared counts as often as it is met; a slice's spare places count too). A statement '..UptoSaid' is the law's where the arguments, and the package variables that the reading takes, are together of bulk at most 1048576: NARROWER than '..Said'. Prove '..Said' where nothing that the law and all that it calls make is longer than what came in: it says more and counts as full. Else prove '..UptoSaid'. A law counts once. -/
mutual
def uptoBulk {H : Type} : DataW H → Nat
  | .lit (.string bytes) => bytes.length + 1
  | .lit _ => 1
  | .nil => 1
  | .ptr d => uptoBulk d + 1
  | .slice elems spare => uptoBulkAll elems + uptoBulkAll spare + 1
  | .agg parts => uptoBulkAll parts + 1
  | .iface _ d => uptoBulk d + 1
  | .map entries => uptoBulkEntries entries + 1
  | .held _ => 1
def uptoBulkAll {H : Type} : List (DataW H) → Nat
  | [] => 0
  | d :: r => uptoBulk d + uptoBulkAll r
def uptoBulkEntries {H : Type} : List (Lit × DataW H) → Nat
  | [] => 0
  | x :: r => uptoBulkEntry x + uptoBulkEntries r
def uptoBulkEntry {H : Type} : Lit × DataW H → Nat
  | (.string bytes, d) => bytes.length + uptoBulk d + 1
  | (_, d) => uptoBulk d + 1
 end
def uptoSmall : (H : Type) → List (DataW H) → Bool := fun _ ds => decide (uptoBulkAll ds ≤ 1048576)
def OpenSpec.upto (s : _root_.Go.ChangeSpec) : _root_.Go.OpenSpec := { _root_.Go.OpenSpec.ofChange s with cond := some uptoSmall }

/-- 'codicillaw10.CborMany', WHERE WHAT IT READS IS OF BULK AT MOST 1048576: true; the input reads as it did. -/
def cborManyUptoRow : OpenClaim := { program := "ytobjehjfdmelhabdoor", sum := "38510e0d7f5243525c814b0141c55b8161b2fb8492ce26295cf501568e686cf2", func := "codicil/codicillaw10.CborMany", spec := "cborMany", inPlace := ["internal/bytealg.Compare"], recurses := true, named := ["unicode/utf8.first", "unicode/utf8.acceptRanges"], apart := false, laid := [("unicode/utf8.acceptRanges", laid_unicode_utf8_acceptRanges), ("unicode/utf8.first", laid_unicode_utf8_first)], narrowed := true }
def CborManyUptoSaid : Prop := cborManyUptoRow.holds Tryd.pinned (OpenSpec.upto cborManySpec)

/-- 'codicillaw10.CborLongest', WHERE WHAT IT READS IS OF BULK AT MOST 1048576: true; the input reads as it did. -/
def cborLongestUptoRow : OpenClaim := { program := "ytobjehjfdmelhabdoor", sum := "38510e0d7f5243525c814b0141c55b8161b2fb8492ce26295cf501568e686cf2", func := "codicil/codicillaw10.CborLongest", spec := "cborLongest", inPlace := ["internal/bytealg.Compare"], recurses := true, named := ["unicode/utf8.first", "unicode/utf8.acceptRanges"], apart := false, laid := [("unicode/utf8.acceptRanges", laid_unicode_utf8_acceptRanges), ("unicode/utf8.first", laid_unicode_utf8_first)], narrowed := true }
def CborLongestUptoSaid : Prop := cborLongestUptoRow.holds Tryd.pinned (OpenSpec.upto cborLongestSpec)

/-- 'codicillaw10.CborExact', WHERE WHAT IT READS IS OF BULK AT MOST 1048576: true; the input reads as it did. -/
def cborExactUptoRow : OpenClaim := { program := "ytobjehjfdmelhabdoor", sum := "38510e0d7f5243525c814b0141c55b8161b2fb8492ce26295cf501568e686cf2", func := "codicil/codicillaw10.CborExact", spec := "cborExact", inPlace := ["internal/bytealg.Compare"], recurses := true, named := ["unicode/utf8.first", "unicode/utf8.acceptRanges"], apart := false, laid := [("unicode/utf8.acceptRanges", laid_unicode_utf8_acceptRanges), ("unicode/utf8.first", laid_unicode_utf8_first)], narrowed := true }
def CborExactUptoSaid : Prop := cborExactUptoRow.holds Tryd.pinned (OpenSpec.upto cborExactSpec)

/-- 'codicillaw10.CborMaps', WHERE WHAT IT READS IS OF BULK AT MOST 1048576: true; the input reads as it did. -/
def cborMapsUptoRow : OpenClaim := { program := "ytobjehjfdmelhabdoor", sum := "38510e0d7f5243525c814b0141c55b8161b2fb8492ce26295cf501568e686cf2", func := "codicil/codicillaw10.CborMaps", spec := "cborMaps", inPlace := ["internal/bytealg.Compare"], recurses := true, named := ["unicode/utf8.first", "unicode/utf8.acceptRanges"], apart := false, laid := [("unicode/utf8.acceptRanges", laid_unicode_utf8_acceptRanges), ("unicode/utf8.first", laid_unicode_utf8_first)], narrowed := true }
def CborMapsUptoSaid : Prop := cborMapsUptoRow.holds Tryd.pinned (OpenSpec.upto cborMapsSpec)

/-- 'codicillaw10.CborTexts', WHERE WHAT IT READS IS OF BULK AT MOST 1048576: true; the input reads as it did. -/
def cborTextsUptoRow : OpenClaim := { program := "ytobjehjfdmelhabdoor", sum := "38510e0d7f5243525c814b0141c55b8161b2fb8492ce26295cf501568e686cf2", func := "codicil/codicillaw10.CborTexts", spec := "cborTexts", inPlace := ["internal/bytealg.Compare"], recurses := true, named := ["unicode/utf8.first", "unicode/utf8.acceptRanges"], apart := false, laid := [("unicode/utf8.acceptRanges", laid_unicode_utf8_acceptRanges), ("unicode/utf8.first", laid_unicode_utf8_first)], narrowed := true }
def CborTextsUptoSaid : Prop := cborTextsUptoRow.holds Tryd.pinned (OpenSpec.upto cborTextsSpec)

/-- 'codicillaw10.CborShort', WHERE WHAT IT READS IS OF BULK AT MOST 1048576: true; the input reads as it did. -/
def cborShortUptoRow : OpenClaim := { program := "ytobjehjfdmelhabdoor", sum := "38510e0d7f5243525c814b0141c55b8161b2fb8492ce26295cf501568e686cf2", func := "codicil/codicillaw10.CborShort", spec := "cborShort", inPlace := ["internal/bytealg.Compare"], recurses := true, named := ["unicode/utf8.first", "unicode/utf8.acceptRanges"], apart := false, laid := [("unicode/utf8.acceptRanges", laid_unicode_utf8_acceptRanges), ("unicode/utf8.first", laid_unicode_utf8_first)], narrowed := true }
def CborShortUptoSaid : Prop := cborShortUptoRow.holds Tryd.pinned (OpenSpec.upto cborShortSpec)

end Rows
end Go.Proofs.YtobjehjfdmelhabDoor
