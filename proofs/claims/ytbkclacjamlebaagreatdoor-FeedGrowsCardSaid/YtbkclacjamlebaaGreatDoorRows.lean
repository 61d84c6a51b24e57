/-
  NARROWER THAN 'FOR EVERY INPUT', by the rows' own cells (each row's printed sentence says how): ProofMakes: laid · EntryExact: laid · FeedGrows: laid · FeedErrors: laid · FeedShut: laid · FeedExact: laid · FeedBeginnings: laid.
  DERIVED. THE GIVEN ROWS OF THIS SEAT. 7 by the template 'for every input the law returns true; each argument reads behind the call as it read before'; 0 by the template 'total and deterministic' (their statements: YtbkclacjamlebaaGreatDoorTotals.lean).
  GIVEN WITH THE SEED: the statements are not yours to turn. If you find one false, say at which input.
  Laid BY PROGRAM, IN A SANDBOX (cutbox-rows.mjs): the forced cells as the released guide's own fill.sh prints them over the translation 871411e57b94b708… (all of the seat's roots in one cut). By AI agents, Wed Nov 11 2026. No macro, syntax, notation, axiom, sorry.
-/
import Derived.Test.YtbkclacjamlebaaGreatDoorChecked
import GoSem.PinnedTables
import GoSem.Claim
import GoSem.ClaimJoined
import GoSem.ClaimMapViews
import Derived.JoinedTies
import Derived.KernelRfl
namespace Go.Proofs.YtbkclacjamlebaaGreatDoor
/- THE CELL 'sum', in the pinned program and in every row, IS THE sha256 OF THE DUMP (.gsa) THAT YtbkclacjamlebaaGreatDoorProg.lean LOADS. Nothing in Lean hashes anything: it is a label: what it is worth is what the hold of that sum in a sandbox is worth. -/
noncomputable def Tryz.pinned : Pinned := { name := "ytbkclacjamlebaagreatdoor", sum := "871411e57b94b70852961b3b1650f38c5d59c68286ce7181edbccebfdca1d33c", checked := Tryz.checked }
namespace Rows
def none {H : Type} : Left H := { results := [], args := [] }

/- WHAT THE LISTED PACKAGE-LEVEL VARIABLES READ AS WHEN THE CALL BEGINS. Each datum BY PROGRAM (the guide's laid-datum.mjs) off the statement by which the dump's own 'gosem.cut.vars' lays the variable. In a bare row this is a premise. The card (YtbkclacjamlebaaGreatDoorCards.lean) ties it to the program's text. -/
def laid_unicode_utf8_acceptRanges {H : Type} : DataW H := .agg [.agg [.lit (.int .u8 128), .lit (.int .u8 191)], .agg [.lit (.int .u8 160), .lit (.int .u8 191)], .agg [.lit (.int .u8 128), .lit (.int .u8 159)], .agg [.lit (.int .u8 144), .lit (.int .u8 191)], .agg [.lit (.int .u8 128), .lit (.int .u8 143)], .agg [.lit (.int .u8 0), .lit (.int .u8 0)], .agg [.lit (.int .u8 0), .lit (.int .u8 0)], .agg [.lit (.int .u8 0), .lit (.int .u8 0)], .agg [.lit (.int .u8 0), .lit (.int .u8 0)], .agg [.lit (.int .u8 0), .lit (.int .u8 0)], .agg [.lit (.int .u8 0), .lit (.int .u8 0)], .agg [.lit (.int .u8 0), .lit (.int .u8 0)], .agg [.lit (.int .u8 0), .lit (.int .u8 0)], .agg [.lit (.int .u8 0), .lit (.int .u8 0)], .agg [.lit (.int .u8 0), .lit (.int .u8 0)], .agg [.lit (.int .u8 0), .lit (.int .u8 0)]]
/-- One of Go's own tables, pinned by name: the form's constant. -/
def laid_unicode_utf8_first : DataW Unit := Go.Pinned.utf8First

/-- 'codicillaw12.ProofMakes': WHATEVER THE INPUT: true; the input reads as it did. -/
def proofMakesSpec : ChangeSpec := { name := "proofMakes", fn := fun _ => fun
  | [d1, d2] => { results := [.lit (.bool true)], args := [d1, d2] }
  | _ => none }
def proofMakesRow : OpenClaim := { program := "ytbkclacjamlebaagreatdoor", sum := "871411e57b94b70852961b3b1650f38c5d59c68286ce7181edbccebfdca1d33c", func := "codicil/codicillaw12.ProofMakes", spec := "proofMakes", inPlace := ["internal/bytealg.Compare", "math/bits.Add64", "math/bits.Sub64"], recurses := true, named := ["unicode/utf8.first", "unicode/utf8.acceptRanges"], apart := false, laid := [("unicode/utf8.acceptRanges", laid_unicode_utf8_acceptRanges), ("unicode/utf8.first", laid_unicode_utf8_first)] }
def ProofMakesSaid : Prop := proofMakesRow.holds Tryz.pinned (OpenSpec.ofChange proofMakesSpec)

/-- ITS FALSE NEIGHBOUR: 'it returns false'. Refute it at one input. -/
def proofMakesWrong : ChangeSpec := { name := "proofMakes", fn := fun _ => fun
  | [d1, d2] => { results := [.lit (.bool false)], args := [d1, d2] }
  | _ => none }
def ProofMakesWrongFalsely : Prop := proofMakesRow.holds Tryz.pinned (OpenSpec.ofChange proofMakesWrong)

/-- 'codicillaw11.EntryExact': WHATEVER THE INPUT: true; the input reads as it did. -/
def entryExactSpec : ChangeSpec := { name := "entryExact", fn := fun _ => fun
  | [d] => { results := [.lit (.bool true)], args := [d] }
  | _ => none }
def entryExactRow : OpenClaim := { program := "ytbkclacjamlebaagreatdoor", sum := "871411e57b94b70852961b3b1650f38c5d59c68286ce7181edbccebfdca1d33c", func := "codicil/codicillaw11.EntryExact", spec := "entryExact", inPlace := ["internal/bytealg.Compare", "math/bits.Add64", "math/bits.Sub64"], recurses := true, named := ["unicode/utf8.first", "unicode/utf8.acceptRanges"], apart := false, laid := [("unicode/utf8.acceptRanges", laid_unicode_utf8_acceptRanges), ("unicode/utf8.first", laid_unicode_utf8_first)] }
def EntryExactSaid : Prop := entryExactRow.holds Tryz.pinned (OpenSpec.ofChange entryExactSpec)

/-- ITS FALSE NEIGHBOUR: 'it returns false'. Refute it at one input. -/
def entryExactWrong : ChangeSpec := { name := "entryExact", fn := fun _ => fun
  | [d] => { results := [.lit (.bool false)], args := [d] }
  | _ => none }
def EntryExactWrongFalsely : Prop := entryExactRow.holds Tryz.pinned (OpenSpec.ofChange entryExactWrong)

/-- 'codicillaw17.FeedGrows': WHATEVER THE INPUT: true; the input reads as it did. -/
def feedGrowsSpec : ChangeSpec := { name := "feedGrows", fn := fun _ => fun
  | [d1, d2] => { results := [.lit (.bool true)], args := [d1, d2] }
  | _ => none }
def feedGrowsRow : OpenClaim := { program := "ytbkclacjamlebaagreatdoor", sum := "871411e57b94b70852961b3b1650f38c5d59c68286ce7181edbccebfdca1d33c", func := "codicil/codicillaw17.FeedGrows", spec := "feedGrows", inPlace := ["internal/bytealg.Compare", "math/bits.Add64", "math/bits.Sub64"], recurses := true, named := ["unicode/utf8.first", "unicode/utf8.acceptRanges"], apart := false, laid := [("unicode/utf8.acceptRanges", laid_unicode_utf8_acceptRanges), ("unicode/utf8.first", laid_unicode_utf8_first)] }
def FeedGrowsSaid : Prop := feedGrowsRow.holds Tryz.pinned (OpenSpec.ofChange feedGrowsSpec)

/-- ITS FALSE NEIGHBOUR: 'it returns false'. Refute it at one input. -/
def feedGrowsWrong : ChangeSpec := { name := "feedGrows", fn := fun _ => fun
  | [d1, d2] => { results := [.lit (.bool false)], args := [d1, d2] }
  | _ => none }
def FeedGrowsWrongFalsely : Prop := feedGrowsRow.holds Tryz.pinned (OpenSpec.ofChange feedGrowsWrong)

/-- 'codicillaw17.FeedErrors': WHATEVER THE INPUT: true; the input reads as it did. -/
def feedErrorsSpec : ChangeSpec := { name := "feedErrors", fn := fun _ => fun
  | [d1, d2, d3] => { results := [.lit (.bool true)], args := [d1, d2, d3] }
  | _ => none }
def feedErrorsRow : OpenClaim := { program := "ytbkclacjamlebaagreatdoor", sum := "871411e57b94b70852961b3b1650f38c5d59c68286ce7181edbccebfdca1d33c", func := "codicil/codicillaw17.FeedErrors", spec := "feedErrors", inPlace := ["internal/bytealg.Compare", "math/bits.Add64", "math/bits.Sub64"], recurses := true, named := ["unicode/utf8.first", "unicode/utf8.acceptRanges"], apart := false, laid := [("unicode/utf8.acceptRanges", laid_unicode_utf8_acceptRanges), ("unicode/utf8.first", laid_unicode_utf8_first)] }
def FeedErrorsSaid : Prop := feedErrorsRow.holds Tryz.pinned (OpenSpec.ofChange feedErrorsSpec)

/-- ITS FALSE NEIGHBOUR: 'it returns false'. Refute it at one input. -/
def feedErrorsWrong : ChangeSpec := { name := "feedErrors", fn := fun _ => fun
  | [d1, d2, d3] => { results := [.lit (.bool false)], args := [d1, d2, d3] }
  | _ => none }
def FeedErrorsWrongFalsely : Prop := feedErrorsRow.holds Tryz.pinned (OpenSpec.ofChange feedErrorsWrong)

/-- 'codicillaw17.FeedShut': WHATEVER THE INPUT: true; the input reads as it did. -/
def feedShutSpec : ChangeSpec := { name := "feedShut", fn := fun _ => fun
  | [d1, d2, d3] => { results := [.lit (.bool true)], args := [d1, d2, d3] }
  | _ => none }
def feedShutRow : OpenClaim := { program := "ytbkclacjamlebaagreatdoor", sum := "871411e57b94b70852961b3b1650f38c5d59c68286ce7181edbccebfdca1d33c", func := "codicil/codicillaw17.FeedShut", spec := "feedShut", inPlace := ["internal/bytealg.Compare", "math/bits.Add64", "math/bits.Sub64"], recurses := true, named := ["unicode/utf8.first", "unicode/utf8.acceptRanges"], apart := false, laid := [("unicode/utf8.acceptRanges", laid_unicode_utf8_acceptRanges), ("unicode/utf8.first", laid_unicode_utf8_first)] }
def FeedShutSaid : Prop := feedShutRow.holds Tryz.pinned (OpenSpec.ofChange feedShutSpec)

/-- ITS FALSE NEIGHBOUR: 'it returns false'. Refute it at one input. -/
def feedShutWrong : ChangeSpec := { name := "feedShut", fn := fun _ => fun
  | [d1, d2, d3] => { results := [.lit (.bool false)], args := [d1, d2, d3] }
  | _ => none }
def FeedShutWrongFalsely : Prop := feedShutRow.holds Tryz.pinned (OpenSpec.ofChange feedShutWrong)

/-- 'codicillaw17.FeedExact': WHATEVER THE INPUT: true; the input reads as it did. -/
def feedExactSpec : ChangeSpec := { name := "feedExact", fn := fun _ => fun
  | [d1, d2, d3] => { results := [.lit (.bool true)], args := [d1, d2, d3] }
  | _ => none }
def feedExactRow : OpenClaim := { program := "ytbkclacjamlebaagreatdoor", sum := "871411e57b94b70852961b3b1650f38c5d59c68286ce7181edbccebfdca1d33c", func := "codicil/codicillaw17.FeedExact", spec := "feedExact", inPlace := ["internal/bytealg.Compare", "math/bits.Add64", "math/bits.Sub64"], recurses := true, named := ["unicode/utf8.first", "unicode/utf8.acceptRanges"], apart := false, laid := [("unicode/utf8.acceptRanges", laid_unicode_utf8_acceptRanges), ("unicode/utf8.first", laid_unicode_utf8_first)] }
def FeedExactSaid : Prop := feedExactRow.holds Tryz.pinned (OpenSpec.ofChange feedExactSpec)

/-- ITS FALSE NEIGHBOUR: 'it returns false'. Refute it at one input. -/
def feedExactWrong : ChangeSpec := { name := "feedExact", fn := fun _ => fun
  | [d1, d2, d3] => { results := [.lit (.bool false)], args := [d1, d2, d3] }
  | _ => none }
def FeedExactWrongFalsely : Prop := feedExactRow.holds Tryz.pinned (OpenSpec.ofChange feedExactWrong)

/-- 'codicillaw17.FeedBeginnings': WHATEVER THE INPUT: true; the input reads as it did. -/
def feedBeginningsSpec : ChangeSpec := { name := "feedBeginnings", fn := fun _ => fun
  | [d1, d2] => { results := [.lit (.bool true)], args := [d1, d2] }
  | _ => none }
def feedBeginningsRow : OpenClaim := { program := "ytbkclacjamlebaagreatdoor", sum := "871411e57b94b70852961b3b1650f38c5d59c68286ce7181edbccebfdca1d33c", func := "codicil/codicillaw17.FeedBeginnings", spec := "feedBeginnings", inPlace := ["internal/bytealg.Compare", "math/bits.Add64", "math/bits.Sub64"], recurses := true, named := ["unicode/utf8.first", "unicode/utf8.acceptRanges"], apart := false, laid := [("unicode/utf8.acceptRanges", laid_unicode_utf8_acceptRanges), ("unicode/utf8.first", laid_unicode_utf8_first)] }
def FeedBeginningsSaid : Prop := feedBeginningsRow.holds Tryz.pinned (OpenSpec.ofChange feedBeginningsSpec)

/-- ITS FALSE NEIGHBOUR: 'it returns false'. Refute it at one input. -/
def feedBeginningsWrong : ChangeSpec := { name := "feedBeginnings", fn := fun _ => fun
  | [d1, d2] => { results := [.lit (.bool false)], args := [d1, d2] }
  | _ => none }
def FeedBeginningsWrongFalsely : Prop := feedBeginningsRow.holds Tryz.pinned (OpenSpec.ofChange feedBeginningsWrong)

/- THE SECOND FORM. 'bulk': how many values and letters a reading holds, each counted each time it is reached (what is shared counts as often as it is met; a slice's spare places count too). A statement '..UptoSaid' is the law's where the arguments, and the package variables that the reading takes, are together of bulk at most 1048576: NARROWER than '..Said'. Prove '..Said' where nothing that the law and all that it calls make is longer than what came in: it says more and counts as full. Else prove '..UptoSaid'. A law counts once. -/
mutual
def uptoBulk {H : Type} : DataW H → Nat
  | .lit (.string bytes) => bytes.length + 1
  | .lit _ => 1
  | .nil => 1
  | .ptr d => uptoBulk d + 1
  | .slice elems spare => uptoBulkAll elems + uptoBulkAll spare + 1
  | .agg parts => uptoBulkAll parts + 1
  | .iface _ d => uptoBulk d + 1
  | .map entries => uptoBulkEntries entries + 1
  | .held _ => 1
def uptoBulkAll {H : Type} : List (DataW H) → Nat
  | [] => 0
  | d :: r => uptoBulk d + uptoBulkAll r
def uptoBulkEntries {H : Type} : List (Lit × DataW H) → Nat
  | [] => 0
  | x :: r => uptoBulkEntry x + uptoBulkEntries r
def uptoBulkEntry {H : Type} : Lit × DataW H → Nat
  | (.string bytes, d) => bytes.length + uptoBulk d + 1
  | (_, d) => uptoBulk d + 1
 end
def uptoSmall : (H : Type) → List (DataW H) → Bool := fun _ ds => decide (uptoBulkAll ds ≤ 1048576)
def OpenSpec.upto (s : _root_.Go.ChangeSpec) : _root_.Go.OpenSpec := { _root_.Go.OpenSpec.ofChange s with cond := some uptoSmall }

/-- 'codicillaw12.ProofMakes', WHERE WHAT IT READS IS OF BULK AT MOST 1048576: true; the input reads as it did. -/
def proofMakesUptoRow : OpenClaim := { program := "ytbkclacjamlebaagreatdoor", sum := "871411e57b94b70852961b3b1650f38c5d59c68286ce7181edbccebfdca1d33c", func := "codicil/codicillaw12.ProofMakes", spec := "proofMakes", inPlace := ["internal/bytealg.Compare", "math/bits.Add64", "math/bits.Sub64"], recurses := true, named := ["unicode/utf8.first", "unicode/utf8.acceptRanges"], apart := false, laid := [("unicode/utf8.acceptRanges", laid_unicode_utf8_acceptRanges), ("unicode/utf8.first", laid_unicode_utf8_first)], narrowed := true }
def ProofMakesUptoSaid : Prop := proofMakesUptoRow.holds Tryz.pinned (OpenSpec.upto proofMakesSpec)

/-- 'codicillaw11.EntryExact', WHERE WHAT IT READS IS OF BULK AT MOST 1048576: true; the input reads as it did. -/
def entryExactUptoRow : OpenClaim := { program := "ytbkclacjamlebaagreatdoor", sum := "871411e57b94b70852961b3b1650f38c5d59c68286ce7181edbccebfdca1d33c", func := "codicil/codicillaw11.EntryExact", spec := "entryExact", inPlace := ["internal/bytealg.Compare", "math/bits.Add64", "math/bits.Sub64"], recurses := true, named := ["unicode/utf8.first", "unicode/utf8.acceptRanges"], apart := false, laid := [("unicode/utf8.acceptRanges", laid_unicode_utf8_acceptRanges), ("unicode/utf8.first", laid_unicode_utf8_first)], narrowed := true }
def EntryExactUptoSaid : Prop := entryExactUptoRow.holds Tryz.pinned (OpenSpec.upto entryExactSpec)

/-- 'codicillaw17.FeedGrows', WHERE WHAT IT READS IS OF BULK AT MOST 1048576: true; the input reads as it did. -/
def feedGrowsUptoRow : OpenClaim := { program := "ytbkclacjamlebaagreatdoor", sum := "871411e57b94b70852961b3b1650f38c5d59c68286ce7181edbccebfdca1d33c", func := "codicil/codicillaw17.FeedGrows", spec := "feedGrows", inPlace := ["internal/bytealg.Compare", "math/bits.Add64", "math/bits.Sub64"], recurses := true, named := ["unicode/utf8.first", "unicode/utf8.acceptRanges"], apart := false, laid := [("unicode/utf8.acceptRanges", laid_unicode_utf8_acceptRanges), ("unicode/utf8.first", laid_unicode_utf8_first)], narrowed := true }
def FeedGrowsUptoSaid : Prop := feedGrowsUptoRow.holds Tryz.pinned (OpenSpec.upto feedGrowsSpec)

/-- 'codicillaw17.FeedErrors', WHERE WHAT IT READS IS OF BULK AT MOST 1048576: true; the input reads as it did. -/
def feedErrorsUptoRow : OpenClaim := { program := "ytbkclacjamlebaagreatdoor", sum := "871411e57b94b70852961b3b1650f38c5d59c68286ce7181edbccebfdca1d33c", func := "codicil/codicillaw17.FeedErrors", spec := "feedErrors", inPlace := ["internal/bytealg.Compare", "math/bits.Add64", "math/bits.Sub64"], recurses := true, named := ["unicode/utf8.first", "unicode/utf8.acceptRanges"], apart := false, laid := [("unicode/utf8.acceptRanges", laid_unicode_utf8_acceptRanges), ("unicode/utf8.first", laid_unicode_utf8_first)], narrowed := true }
def FeedErrorsUptoSaid : Prop := feedErrorsUptoRow.holds Tryz.pinned (OpenSpec.upto feedErrorsSpec)

/-- 'codicillaw17.FeedShut', WHERE WHAT IT READS IS OF BULK AT MOST 1048576: true; the input reads as it did. -/
def feedShutUptoRow : OpenClaim := { program := "ytbkclacjamlebaagreatdoor", sum := "871411e57b94b70852961b3b1650f38c5d59c68286ce7181edbccebfdca1d33c", func := "codicil/codicillaw17.FeedShut", spec := "feedShut", inPlace := ["internal/bytealg.Compare", "math/bits.Add64", "math/bits.Sub64"], recurses := true, named := ["unicode/utf8.first", "unicode/utf8.acceptRanges"], apart := false, laid := [("unicode/utf8.acceptRanges", laid_unicode_utf8_acceptRanges), ("unicode/utf8.first", laid_unicode_utf8_first)], narrowed := true }
def FeedShutUptoSaid : Prop := feedShutUptoRow.holds Tryz.pinned (OpenSpec.upto feedShutSpec)

/-- 'codicillaw17.FeedExact', WHERE WHAT IT READS IS OF BULK AT MOST 1048576: true; the input reads as it did. -/
def feedExactUptoRow : OpenClaim := { program := "ytbkclacjamlebaagreatdoor", sum := "871411e57b94b70852961b3b1650f38c5d59c68286ce7181edbccebfdca1d33c", func := "codicil/codicillaw17.FeedExact", spec := "feedExact", inPlace := ["internal/bytealg.Compare", "math/bits.Add64", "math/bits.Sub64"], recurses := true, named := ["unicode/utf8.first", "unicode/utf8.acceptRanges"], apart := false, laid := [("unicode/utf8.acceptRanges", laid_unicode_utf8_acceptRanges), ("unicode/utf8.first", laid_unicode_utf8_first)], narrowed := true }
def FeedExactUptoSaid : Prop := feedExactUptoRow.holds Tryz.pinned (OpenSpec.upto feedExactSpec)

/-- 'codicillaw17.FeedBeginnings', WHERE WHAT IT READS IS OF BULK AT MOST 1048576: true; the input reads as it did. -/
def feedBeginningsUptoRow : OpenClaim := { program := "ytbkclacjamlebaagreatdoor", sum := "871411e57b94b70852961b3b1650f38c5d59c68286ce7181edbccebfdca1d33c", func := "codicil/codicillaw17.FeedBeginnings", spec := "feedBeginnings", inPlace := ["internal/bytealg.Compare", "math/bits.Add64", "math/bits.Sub64"], recurses := true, named := ["unicode/utf8.first", "unicode/utf8.acceptRanges"], apart := false, laid := [("unicode/utf8.acceptRanges", laid_unicode_utf8_acceptRanges), ("unicode/utf8.first", laid_unicode_utf8_first)], narrowed := true }
def FeedBeginningsUptoSaid : Prop := feedBeginningsUptoRow.holds Tryz.pinned (OpenSpec.upto feedBeginningsSpec)

end Rows
end Go.Proofs.YtbkclacjamlebaaGreatDoor
