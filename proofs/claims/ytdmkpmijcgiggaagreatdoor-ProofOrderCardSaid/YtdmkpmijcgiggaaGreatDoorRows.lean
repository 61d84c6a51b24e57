/-
  NARROWER THAN 'FOR EVERY INPUT', by the rows' own cells (each row's printed sentence says how): ProofMakes: laid · ProofOrder: laid · ProofApart: laid · EntryReads: laid · EntryBent: laid · EntryEnds: laid · EntryLinks: laid · EntryBody: laid · EntryExact: laid · EntryId: laid · ProofReads: laid · ProofCuts: laid.
  DERIVED. THE GIVEN ROWS OF THIS SEAT. 12 by the template 'for every input the law returns true; each argument reads behind the call as it read before'; 0 by the template 'total and deterministic' (their statements: YtdmkpmijcgiggaaGreatDoorTotals.lean).
  GIVEN WITH THE SEED: the statements are not yours to turn. If you find one false, say at which input.
  Laid BY PROGRAM, IN A SANDBOX (cutbox-rows.mjs): the forced cells as the released guide's own fill.sh prints them over the translation 67027ee137959d33… (all of the seat's roots in one cut). By AI agents, Wed Nov 11 2026. No macro, syntax, notation, axiom, sorry.
-/
import Derived.Test.YtdmkpmijcgiggaaGreatDoorChecked
import GoSem.PinnedTables
import GoSem.Claim
import GoSem.ClaimJoined
import GoSem.ClaimMapViews
import Derived.JoinedTies
import Derived.KernelRfl
namespace Go.Proofs.YtdmkpmijcgiggaaGreatDoor
/- THE CELL 'sum', in the pinned program and in every row, IS THE sha256 OF THE DUMP (.gsa) THAT YtdmkpmijcgiggaaGreatDoorProg.lean LOADS. Nothing in Lean hashes anything: it is a label: what it is worth is what the hold of that sum in a sandbox is worth. -/
noncomputable def Tryz.pinned : Pinned := { name := "ytdmkpmijcgiggaagreatdoor", sum := "67027ee137959d33389aa61e042b52f4726d57708c6af8171ed9862fec43be6c", checked := Tryz.checked }
namespace Rows
def none {H : Type} : Left H := { results := [], args := [] }

/- WHAT THE LISTED PACKAGE-LEVEL VARIABLES READ AS WHEN THE CALL BEGINS. Each datum BY PROGRAM (the guide's laid-datum.mjs) off the statement by which the dump's own 'gosem.cut.vars' lays the variable. In a bare row this is a premise. The card (YtdmkpmijcgiggaaGreatDoorCards.lean) ties it to the program's text. -/
def laid_unicode_utf8_acceptRanges {H : Type} : DataW H := .agg [.agg [.lit (.int .u8 128), .lit (.int .u8 191)], .agg [.lit (.int .u8 160), .lit (.int .u8 191)], .agg [.lit (.int .u8 128), .lit (.int .u8 159)], .agg [.lit (.int .u8 144), .lit (.int .u8 191)], .agg [.lit (.int .u8 128), .lit (.int .u8 143)], .agg [.lit (.int .u8 0), .lit (.int .u8 0)], .agg [.lit (.int .u8 0), .lit (.int .u8 0)], .agg [.lit (.int .u8 0), .lit (.int .u8 0)], .agg [.lit (.int .u8 0), .lit (.int .u8 0)], .agg [.lit (.int .u8 0), .lit (.int .u8 0)], .agg [.lit (.int .u8 0), .lit (.int .u8 0)], .agg [.lit (.int .u8 0), .lit (.int .u8 0)], .agg [.lit (.int .u8 0), .lit (.int .u8 0)], .agg [.lit (.int .u8 0), .lit (.int .u8 0)], .agg [.lit (.int .u8 0), .lit (.int .u8 0)], .agg [.lit (.int .u8 0), .lit (.int .u8 0)]]
/-- One of Go's own tables, pinned by name: the form's constant. -/
def laid_unicode_utf8_first : DataW Unit := Go.Pinned.utf8First

/-- 'codicillaw12.ProofMakes': WHATEVER THE INPUT: true; the input reads as it did. -/
def proofMakesSpec : ChangeSpec := { name := "proofMakes", fn := fun _ => fun
  | [d1, d2] => { results := [.lit (.bool true)], args := [d1, d2] }
  | _ => none }
def proofMakesRow : OpenClaim := { program := "ytdmkpmijcgiggaagreatdoor", sum := "67027ee137959d33389aa61e042b52f4726d57708c6af8171ed9862fec43be6c", func := "codicil/codicillaw12.ProofMakes", spec := "proofMakes", inPlace := ["internal/bytealg.Compare", "math/bits.Add64", "math/bits.Sub64"], recurses := true, named := ["unicode/utf8.first", "unicode/utf8.acceptRanges"], apart := false, laid := [("unicode/utf8.acceptRanges", laid_unicode_utf8_acceptRanges), ("unicode/utf8.first", laid_unicode_utf8_first)] }
def ProofMakesSaid : Prop := proofMakesRow.holds Tryz.pinned (OpenSpec.ofChange proofMakesSpec)

/-- ITS FALSE NEIGHBOUR: 'it returns false'. Refute it at one input. -/
def proofMakesWrong : ChangeSpec := { name := "proofMakes", fn := fun _ => fun
  | [d1, d2] => { results := [.lit (.bool false)], args := [d1, d2] }
  | _ => none }
def ProofMakesWrongFalsely : Prop := proofMakesRow.holds Tryz.pinned (OpenSpec.ofChange proofMakesWrong)

/-- 'codicillaw12.ProofOrder': WHATEVER THE INPUT: true; the input reads as it did. -/
def proofOrderSpec : ChangeSpec := { name := "proofOrder", fn := fun _ => fun
  | [d1, d2, d3] => { results := [.lit (.bool true)], args := [d1, d2, d3] }
  | _ => none }
def proofOrderRow : OpenClaim := { program := "ytdmkpmijcgiggaagreatdoor", sum := "67027ee137959d33389aa61e042b52f4726d57708c6af8171ed9862fec43be6c", func := "codicil/codicillaw12.ProofOrder", spec := "proofOrder", inPlace := ["internal/bytealg.Compare", "math/bits.Add64", "math/bits.Sub64"], recurses := true, named := ["unicode/utf8.first", "unicode/utf8.acceptRanges"], apart := false, laid := [("unicode/utf8.acceptRanges", laid_unicode_utf8_acceptRanges), ("unicode/utf8.first", laid_unicode_utf8_first)] }
def ProofOrderSaid : Prop := proofOrderRow.holds Tryz.pinned (OpenSpec.ofChange proofOrderSpec)

/-- ITS FALSE NEIGHBOUR: 'it returns false'. Refute it at one input. -/
def proofOrderWrong : ChangeSpec := { name := "proofOrder", fn := fun _ => fun
  | [d1, d2, d3] => { results := [.lit (.bool false)], args := [d1, d2, d3] }
  | _ => none }
def ProofOrderWrongFalsely : Prop := proofOrderRow.holds Tryz.pinned (OpenSpec.ofChange proofOrderWrong)

/-- 'codicillaw12.ProofApart': WHATEVER THE INPUT: true; the input reads as it did. -/
def proofApartSpec : ChangeSpec := { name := "proofApart", fn := fun _ => fun
  | [d1, d2, d3] => { results := [.lit (.bool true)], args := [d1, d2, d3] }
  | _ => none }
def proofApartRow : OpenClaim := { program := "ytdmkpmijcgiggaagreatdoor", sum := "67027ee137959d33389aa61e042b52f4726d57708c6af8171ed9862fec43be6c", func := "codicil/codicillaw12.ProofApart", spec := "proofApart", inPlace := ["internal/bytealg.Compare", "math/bits.Add64", "math/bits.Sub64"], recurses := true, named := ["unicode/utf8.first", "unicode/utf8.acceptRanges"], apart := false, laid := [("unicode/utf8.acceptRanges", laid_unicode_utf8_acceptRanges), ("unicode/utf8.first", laid_unicode_utf8_first)] }
def ProofApartSaid : Prop := proofApartRow.holds Tryz.pinned (OpenSpec.ofChange proofApartSpec)

/-- ITS FALSE NEIGHBOUR: 'it returns false'. Refute it at one input. -/
def proofApartWrong : ChangeSpec := { name := "proofApart", fn := fun _ => fun
  | [d1, d2, d3] => { results := [.lit (.bool false)], args := [d1, d2, d3] }
  | _ => none }
def ProofApartWrongFalsely : Prop := proofApartRow.holds Tryz.pinned (OpenSpec.ofChange proofApartWrong)

/-- 'codicillaw11.EntryReads': WHATEVER THE INPUT: true; the input reads as it did. -/
def entryReadsSpec : ChangeSpec := { name := "entryReads", fn := fun _ => fun
  | [d] => { results := [.lit (.bool true)], args := [d] }
  | _ => none }
def entryReadsRow : OpenClaim := { program := "ytdmkpmijcgiggaagreatdoor", sum := "67027ee137959d33389aa61e042b52f4726d57708c6af8171ed9862fec43be6c", func := "codicil/codicillaw11.EntryReads", spec := "entryReads", inPlace := ["internal/bytealg.Compare", "math/bits.Add64", "math/bits.Sub64"], recurses := true, named := ["unicode/utf8.first", "unicode/utf8.acceptRanges"], apart := false, laid := [("unicode/utf8.acceptRanges", laid_unicode_utf8_acceptRanges), ("unicode/utf8.first", laid_unicode_utf8_first)] }
def EntryReadsSaid : Prop := entryReadsRow.holds Tryz.pinned (OpenSpec.ofChange entryReadsSpec)

/-- ITS FALSE NEIGHBOUR: 'it returns false'. Refute it at one input. -/
def entryReadsWrong : ChangeSpec := { name := "entryReads", fn := fun _ => fun
  | [d] => { results := [.lit (.bool false)], args := [d] }
  | _ => none }
def EntryReadsWrongFalsely : Prop := entryReadsRow.holds Tryz.pinned (OpenSpec.ofChange entryReadsWrong)

/-- 'codicillaw11.EntryBent': WHATEVER THE INPUT: true; the input reads as it did. -/
def entryBentSpec : ChangeSpec := { name := "entryBent", fn := fun _ => fun
  | [d1, d2] => { results := [.lit (.bool true)], args := [d1, d2] }
  | _ => none }
def entryBentRow : OpenClaim := { program := "ytdmkpmijcgiggaagreatdoor", sum := "67027ee137959d33389aa61e042b52f4726d57708c6af8171ed9862fec43be6c", func := "codicil/codicillaw11.EntryBent", spec := "entryBent", inPlace := ["internal/bytealg.Compare", "math/bits.Sub64", "math/bits.Add64"], recurses := true, named := ["unicode/utf8.first", "unicode/utf8.acceptRanges"], apart := false, laid := [("unicode/utf8.acceptRanges", laid_unicode_utf8_acceptRanges), ("unicode/utf8.first", laid_unicode_utf8_first)] }
def EntryBentSaid : Prop := entryBentRow.holds Tryz.pinned (OpenSpec.ofChange entryBentSpec)

/-- ITS FALSE NEIGHBOUR: 'it returns false'. Refute it at one input. -/
def entryBentWrong : ChangeSpec := { name := "entryBent", fn := fun _ => fun
  | [d1, d2] => { results := [.lit (.bool false)], args := [d1, d2] }
  | _ => none }
def EntryBentWrongFalsely : Prop := entryBentRow.holds Tryz.pinned (OpenSpec.ofChange entryBentWrong)

/-- 'codicillaw11.EntryEnds': WHATEVER THE INPUT: true; the input reads as it did. -/
def entryEndsSpec : ChangeSpec := { name := "entryEnds", fn := fun _ => fun
  | [d1, d2] => { results := [.lit (.bool true)], args := [d1, d2] }
  | _ => none }
def entryEndsRow : OpenClaim := { program := "ytdmkpmijcgiggaagreatdoor", sum := "67027ee137959d33389aa61e042b52f4726d57708c6af8171ed9862fec43be6c", func := "codicil/codicillaw11.EntryEnds", spec := "entryEnds", inPlace := ["internal/bytealg.Compare", "math/bits.Add64", "math/bits.Sub64"], recurses := true, named := ["unicode/utf8.first", "unicode/utf8.acceptRanges"], apart := false, laid := [("unicode/utf8.acceptRanges", laid_unicode_utf8_acceptRanges), ("unicode/utf8.first", laid_unicode_utf8_first)] }
def EntryEndsSaid : Prop := entryEndsRow.holds Tryz.pinned (OpenSpec.ofChange entryEndsSpec)

/-- ITS FALSE NEIGHBOUR: 'it returns false'. Refute it at one input. -/
def entryEndsWrong : ChangeSpec := { name := "entryEnds", fn := fun _ => fun
  | [d1, d2] => { results := [.lit (.bool false)], args := [d1, d2] }
  | _ => none }
def EntryEndsWrongFalsely : Prop := entryEndsRow.holds Tryz.pinned (OpenSpec.ofChange entryEndsWrong)

/-- 'codicillaw11.EntryLinks': WHATEVER THE INPUT: true; the input reads as it did. -/
def entryLinksSpec : ChangeSpec := { name := "entryLinks", fn := fun _ => fun
  | [d1, d2] => { results := [.lit (.bool true)], args := [d1, d2] }
  | _ => none }
def entryLinksRow : OpenClaim := { program := "ytdmkpmijcgiggaagreatdoor", sum := "67027ee137959d33389aa61e042b52f4726d57708c6af8171ed9862fec43be6c", func := "codicil/codicillaw11.EntryLinks", spec := "entryLinks", inPlace := ["internal/bytealg.Compare", "math/bits.Add64", "math/bits.Sub64"], recurses := true, named := ["unicode/utf8.first", "unicode/utf8.acceptRanges"], apart := false, laid := [("unicode/utf8.acceptRanges", laid_unicode_utf8_acceptRanges), ("unicode/utf8.first", laid_unicode_utf8_first)] }
def EntryLinksSaid : Prop := entryLinksRow.holds Tryz.pinned (OpenSpec.ofChange entryLinksSpec)

/-- ITS FALSE NEIGHBOUR: 'it returns false'. Refute it at one input. -/
def entryLinksWrong : ChangeSpec := { name := "entryLinks", fn := fun _ => fun
  | [d1, d2] => { results := [.lit (.bool false)], args := [d1, d2] }
  | _ => none }
def EntryLinksWrongFalsely : Prop := entryLinksRow.holds Tryz.pinned (OpenSpec.ofChange entryLinksWrong)

/-- 'codicillaw11.EntryBody': WHATEVER THE INPUT: true; the input reads as it did. -/
def entryBodySpec : ChangeSpec := { name := "entryBody", fn := fun _ => fun
  | [d1, d2] => { results := [.lit (.bool true)], args := [d1, d2] }
  | _ => none }
def entryBodyRow : OpenClaim := { program := "ytdmkpmijcgiggaagreatdoor", sum := "67027ee137959d33389aa61e042b52f4726d57708c6af8171ed9862fec43be6c", func := "codicil/codicillaw11.EntryBody", spec := "entryBody", inPlace := ["internal/bytealg.Compare", "math/bits.Add64", "math/bits.Sub64"], recurses := true, named := ["unicode/utf8.first", "unicode/utf8.acceptRanges"], apart := false, laid := [("unicode/utf8.acceptRanges", laid_unicode_utf8_acceptRanges), ("unicode/utf8.first", laid_unicode_utf8_first)] }
def EntryBodySaid : Prop := entryBodyRow.holds Tryz.pinned (OpenSpec.ofChange entryBodySpec)

/-- ITS FALSE NEIGHBOUR: 'it returns false'. Refute it at one input. -/
def entryBodyWrong : ChangeSpec := { name := "entryBody", fn := fun _ => fun
  | [d1, d2] => { results := [.lit (.bool false)], args := [d1, d2] }
  | _ => none }
def EntryBodyWrongFalsely : Prop := entryBodyRow.holds Tryz.pinned (OpenSpec.ofChange entryBodyWrong)

/-- 'codicillaw11.EntryExact': WHATEVER THE INPUT: true; the input reads as it did. -/
def entryExactSpec : ChangeSpec := { name := "entryExact", fn := fun _ => fun
  | [d] => { results := [.lit (.bool true)], args := [d] }
  | _ => none }
def entryExactRow : OpenClaim := { program := "ytdmkpmijcgiggaagreatdoor", sum := "67027ee137959d33389aa61e042b52f4726d57708c6af8171ed9862fec43be6c", func := "codicil/codicillaw11.EntryExact", spec := "entryExact", inPlace := ["internal/bytealg.Compare", "math/bits.Add64", "math/bits.Sub64"], recurses := true, named := ["unicode/utf8.first", "unicode/utf8.acceptRanges"], apart := false, laid := [("unicode/utf8.acceptRanges", laid_unicode_utf8_acceptRanges), ("unicode/utf8.first", laid_unicode_utf8_first)] }
def EntryExactSaid : Prop := entryExactRow.holds Tryz.pinned (OpenSpec.ofChange entryExactSpec)

/-- ITS FALSE NEIGHBOUR: 'it returns false'. Refute it at one input. -/
def entryExactWrong : ChangeSpec := { name := "entryExact", fn := fun _ => fun
  | [d] => { results := [.lit (.bool false)], args := [d] }
  | _ => none }
def EntryExactWrongFalsely : Prop := entryExactRow.holds Tryz.pinned (OpenSpec.ofChange entryExactWrong)

/-- 'codicillaw11.EntryId': WHATEVER THE INPUT: true; the input reads as it did. -/
def entryIdSpec : ChangeSpec := { name := "entryId", fn := fun _ => fun
  | [d1, d2, d3] => { results := [.lit (.bool true)], args := [d1, d2, d3] }
  | _ => none }
def entryIdRow : OpenClaim := { program := "ytdmkpmijcgiggaagreatdoor", sum := "67027ee137959d33389aa61e042b52f4726d57708c6af8171ed9862fec43be6c", func := "codicil/codicillaw11.EntryId", spec := "entryId", inPlace := ["internal/bytealg.Compare", "math/bits.Add64", "math/bits.Sub64"], recurses := true, named := ["unicode/utf8.first", "unicode/utf8.acceptRanges"], apart := false, laid := [("unicode/utf8.acceptRanges", laid_unicode_utf8_acceptRanges), ("unicode/utf8.first", laid_unicode_utf8_first)] }
def EntryIdSaid : Prop := entryIdRow.holds Tryz.pinned (OpenSpec.ofChange entryIdSpec)

/-- ITS FALSE NEIGHBOUR: 'it returns false'. Refute it at one input. -/
def entryIdWrong : ChangeSpec := { name := "entryId", fn := fun _ => fun
  | [d1, d2, d3] => { results := [.lit (.bool false)], args := [d1, d2, d3] }
  | _ => none }
def EntryIdWrongFalsely : Prop := entryIdRow.holds Tryz.pinned (OpenSpec.ofChange entryIdWrong)

/-- 'codicillaw12.ProofReads': WHATEVER THE INPUT: true; the input reads as it did. -/
def proofReadsSpec : ChangeSpec := { name := "proofReads", fn := fun _ => fun
  | [d] => { results := [.lit (.bool true)], args := [d] }
  | _ => none }
def proofReadsRow : OpenClaim := { program := "ytdmkpmijcgiggaagreatdoor", sum := "67027ee137959d33389aa61e042b52f4726d57708c6af8171ed9862fec43be6c", func := "codicil/codicillaw12.ProofReads", spec := "proofReads", inPlace := ["internal/bytealg.Compare", "math/bits.Add64", "math/bits.Sub64"], recurses := true, named := ["unicode/utf8.first", "unicode/utf8.acceptRanges"], apart := false, laid := [("unicode/utf8.acceptRanges", laid_unicode_utf8_acceptRanges), ("unicode/utf8.first", laid_unicode_utf8_first)] }
def ProofReadsSaid : Prop := proofReadsRow.holds Tryz.pinned (OpenSpec.ofChange proofReadsSpec)

/-- ITS FALSE NEIGHBOUR: 'it returns false'. Refute it at one input. -/
def proofReadsWrong : ChangeSpec := { name := "proofReads", fn := fun _ => fun
  | [d] => { results := [.lit (.bool false)], args := [d] }
  | _ => none }
def ProofReadsWrongFalsely : Prop := proofReadsRow.holds Tryz.pinned (OpenSpec.ofChange proofReadsWrong)

/-- 'codicillaw12.ProofCuts': WHATEVER THE INPUT: true; the input reads as it did. -/
def proofCutsSpec : ChangeSpec := { name := "proofCuts", fn := fun _ => fun
  | [d1, d2, d3] => { results := [.lit (.bool true)], args := [d1, d2, d3] }
  | _ => none }
def proofCutsRow : OpenClaim := { program := "ytdmkpmijcgiggaagreatdoor", sum := "67027ee137959d33389aa61e042b52f4726d57708c6af8171ed9862fec43be6c", func := "codicil/codicillaw12.ProofCuts", spec := "proofCuts", inPlace := ["internal/bytealg.Compare", "math/bits.Add64", "math/bits.Sub64"], recurses := true, named := ["unicode/utf8.first", "unicode/utf8.acceptRanges"], apart := false, laid := [("unicode/utf8.acceptRanges", laid_unicode_utf8_acceptRanges), ("unicode/utf8.first", laid_unicode_utf8_first)] }
def ProofCutsSaid : Prop := proofCutsRow.holds Tryz.pinned (OpenSpec.ofChange proofCutsSpec)

/-- ITS FALSE NEIGHBOUR: 'it returns false'. Refute it at one input. -/
def proofCutsWrong : ChangeSpec := { name := "proofCuts", fn := fun _ => fun
  | [d1, d2, d3] => { results := [.lit (.bool false)], args := [d1, d2, d3] }
  | _ => none }
def ProofCutsWrongFalsely : Prop := proofCutsRow.holds Tryz.pinned (OpenSpec.ofChange proofCutsWrong)

/- THE SECOND FORM. 'bulk': how many values and letters a reading holds, each counted each time it is reached (what is shared counts as often as it is met; a slice's spare places count too). A statement '..UptoSaid' is the law's where the arguments, and the package variables that the reading takes, are together of bulk at most 1048576: NARROWER than '..Said'. Prove '..Said' where nothing that the law and all that it calls make is longer than what came in: it says more and counts as full. Else prove '..UptoSaid'. A law counts once. -/
mutual
def uptoBulk {H : Type} : DataW H → Nat
  | .lit (.string bytes) => bytes.length + 1
  | .lit _ => 1
  | .nil => 1
  | .ptr d => uptoBulk d + 1
  | .slice elems spare => uptoBulkAll elems + uptoBulkAll spare + 1
  | .agg parts => uptoBulkAll parts + 1
  | .iface _ d => uptoBulk d + 1
  | .map entries => uptoBulkEntries entries + 1
  | .held _ => 1
def uptoBulkAll {H : Type} : List (DataW H) → Nat
  | [] => 0
  | d :: r => uptoBulk d + uptoBulkAll r
def uptoBulkEntries {H : Type} : List (Lit × DataW H) → Nat
  | [] => 0
  | x :: r => uptoBulkEntry x + uptoBulkEntries r
def uptoBulkEntry {H : Type} : Lit × DataW H → Nat
  | (.string bytes, d) => bytes.length + uptoBulk d + 1
  | (_, d) => uptoBulk d + 1
 end
def uptoSmall : (H : Type) → List (DataW H) → Bool := fun _ ds => decide (uptoBulkAll ds ≤ 1048576)
def OpenSpec.upto (s : _root_.Go.ChangeSpec) : _root_.Go.OpenSpec := { _root_.Go.OpenSpec.ofChange s with cond := some uptoSmall }

/-- 'codicillaw12.ProofMakes', WHERE WHAT IT READS IS OF BULK AT MOST 1048576: true; the input reads as it did. -/
def proofMakesUptoRow : OpenClaim := { program := "ytdmkpmijcgiggaagreatdoor", sum := "67027ee137959d33389aa61e042b52f4726d57708c6af8171ed9862fec43be6c", func := "codicil/codicillaw12.ProofMakes", spec := "proofMakes", inPlace := ["internal/bytealg.Compare", "math/bits.Add64", "math/bits.Sub64"], recurses := true, named := ["unicode/utf8.first", "unicode/utf8.acceptRanges"], apart := false, laid := [("unicode/utf8.acceptRanges", laid_unicode_utf8_acceptRanges), ("unicode/utf8.first", laid_unicode_utf8_first)], narrowed := true }
def ProofMakesUptoSaid : Prop := proofMakesUptoRow.holds Tryz.pinned (OpenSpec.upto proofMakesSpec)

/-- 'codicillaw12.ProofOrder', WHERE WHAT IT READS IS OF BULK AT MOST 1048576: true; the input reads as it did. -/
def proofOrderUptoRow : OpenClaim := { program := "ytdmkpmijcgiggaagreatdoor", sum := "67027ee137959d33389aa61e042b52f4726d57708c6af8171ed9862fec43be6c", func := "codicil/codicillaw12.ProofOrder", spec := "proofOrder", inPlace := ["internal/bytealg.Compare", "math/bits.Add64", "math/bits.Sub64"], recurses := true, named := ["unicode/utf8.first", "unicode/utf8.acceptRanges"], apart := false, laid := [("unicode/utf8.acceptRanges", laid_unicode_utf8_acceptRanges), ("unicode/utf8.first", laid_unicode_utf8_first)], narrowed := true }
def ProofOrderUptoSaid : Prop := proofOrderUptoRow.holds Tryz.pinned (OpenSpec.upto proofOrderSpec)

/-- 'codicillaw12.ProofApart', WHERE WHAT IT READS IS OF BULK AT MOST 1048576: true; the input reads as it did. -/
def proofApartUptoRow : OpenClaim := { program := "ytdmkpmijcgiggaagreatdoor", sum := "67027ee137959d33389aa61e042b52f4726d57708c6af8171ed9862fec43be6c", func := "codicil/codicillaw12.ProofApart", spec := "proofApart", inPlace := ["internal/bytealg.Compare", "math/bits.Add64", "math/bits.Sub64"], recurses := true, named := ["unicode/utf8.first", "unicode/utf8.acceptRanges"], apart := false, laid := [("unicode/utf8.acceptRanges", laid_unicode_utf8_acceptRanges), ("unicode/utf8.first", laid_unicode_utf8_first)], narrowed := true }
def ProofApartUptoSaid : Prop := proofApartUptoRow.holds Tryz.pinned (OpenSpec.upto proofApartSpec)

/-- 'codicillaw11.EntryReads', WHERE WHAT IT READS IS OF BULK AT MOST 1048576: true; the input reads as it did. -/
def entryReadsUptoRow : OpenClaim := { program := "ytdmkpmijcgiggaagreatdoor", sum := "67027ee137959d33389aa61e042b52f4726d57708c6af8171ed9862fec43be6c", func := "codicil/codicillaw11.EntryReads", spec := "entryReads", inPlace := ["internal/bytealg.Compare", "math/bits.Add64", "math/bits.Sub64"], recurses := true, named := ["unicode/utf8.first", "unicode/utf8.acceptRanges"], apart := false, laid := [("unicode/utf8.acceptRanges", laid_unicode_utf8_acceptRanges), ("unicode/utf8.first", laid_unicode_utf8_first)], narrowed := true }
def EntryReadsUptoSaid : Prop := entryReadsUptoRow.holds Tryz.pinned (OpenSpec.upto entryReadsSpec)

/-- 'codicillaw11.EntryBent', WHERE WHAT IT READS IS OF BULK AT MOST 1048576: true; the input reads as it did. -/
def entryBentUptoRow : OpenClaim := { program := "ytdmkpmijcgiggaagreatdoor", sum := "67027ee137959d33389aa61e042b52f4726d57708c6af8171ed9862fec43be6c", func := "codicil/codicillaw11.EntryBent", spec := "entryBent", inPlace := ["internal/bytealg.Compare", "math/bits.Sub64", "math/bits.Add64"], recurses := true, named := ["unicode/utf8.first", "unicode/utf8.acceptRanges"], apart := false, laid := [("unicode/utf8.acceptRanges", laid_unicode_utf8_acceptRanges), ("unicode/utf8.first", laid_unicode_utf8_first)], narrowed := true }
def EntryBentUptoSaid : Prop := entryBentUptoRow.holds Tryz.pinned (OpenSpec.upto entryBentSpec)

/-- 'codicillaw11.EntryEnds', WHERE WHAT IT READS IS OF BULK AT MOST 1048576: true; the input reads as it did. -/
def entryEndsUptoRow : OpenClaim := { program := "ytdmkpmijcgiggaagreatdoor", sum := "67027ee137959d33389aa61e042b52f4726d57708c6af8171ed9862fec43be6c", func := "codicil/codicillaw11.EntryEnds", spec := "entryEnds", inPlace := ["internal/bytealg.Compare", "math/bits.Add64", "math/bits.Sub64"], recurses := true, named := ["unicode/utf8.first", "unicode/utf8.acceptRanges"], apart := false, laid := [("unicode/utf8.acceptRanges", laid_unicode_utf8_acceptRanges), ("unicode/utf8.first", laid_unicode_utf8_first)], narrowed := true }
def EntryEndsUptoSaid : Prop := entryEndsUptoRow.holds Tryz.pinned (OpenSpec.upto entryEndsSpec)

/-- 'codicillaw11.EntryLinks', WHERE WHAT IT READS IS OF BULK AT MOST 1048576: true; the input reads as it did. -/
def entryLinksUptoRow : OpenClaim := { program := "ytdmkpmijcgiggaagreatdoor", sum := "67027ee137959d33389aa61e042b52f4726d57708c6af8171ed9862fec43be6c", func := "codicil/codicillaw11.EntryLinks", spec := "entryLinks", inPlace := ["internal/bytealg.Compare", "math/bits.Add64", "math/bits.Sub64"], recurses := true, named := ["unicode/utf8.first", "unicode/utf8.acceptRanges"], apart := false, laid := [("unicode/utf8.acceptRanges", laid_unicode_utf8_acceptRanges), ("unicode/utf8.first", laid_unicode_utf8_first)], narrowed := true }
def EntryLinksUptoSaid : Prop := entryLinksUptoRow.holds Tryz.pinned (OpenSpec.upto entryLinksSpec)

/-- 'codicillaw11.EntryBody', WHERE WHAT IT READS IS OF BULK AT MOST 1048576: true; the input reads as it did. -/
def entryBodyUptoRow : OpenClaim := { program := "ytdmkpmijcgiggaagreatdoor", sum := "67027ee137959d33389aa61e042b52f4726d57708c6af8171ed9862fec43be6c", func := "codicil/codicillaw11.EntryBody", spec := "entryBody", inPlace := ["internal/bytealg.Compare", "math/bits.Add64", "math/bits.Sub64"], recurses := true, named := ["unicode/utf8.first", "unicode/utf8.acceptRanges"], apart := false, laid := [("unicode/utf8.acceptRanges", laid_unicode_utf8_acceptRanges), ("unicode/utf8.first", laid_unicode_utf8_first)], narrowed := true }
def EntryBodyUptoSaid : Prop := entryBodyUptoRow.holds Tryz.pinned (OpenSpec.upto entryBodySpec)

/-- 'codicillaw11.EntryExact', WHERE WHAT IT READS IS OF BULK AT MOST 1048576: true; the input reads as it did. -/
def entryExactUptoRow : OpenClaim := { program := "ytdmkpmijcgiggaagreatdoor", sum := "67027ee137959d33389aa61e042b52f4726d57708c6af8171ed9862fec43be6c", func := "codicil/codicillaw11.EntryExact", spec := "entryExact", inPlace := ["internal/bytealg.Compare", "math/bits.Add64", "math/bits.Sub64"], recurses := true, named := ["unicode/utf8.first", "unicode/utf8.acceptRanges"], apart := false, laid := [("unicode/utf8.acceptRanges", laid_unicode_utf8_acceptRanges), ("unicode/utf8.first", laid_unicode_utf8_first)], narrowed := true }
def EntryExactUptoSaid : Prop := entryExactUptoRow.holds Tryz.pinned (OpenSpec.upto entryExactSpec)

/-- 'codicillaw11.EntryId', WHERE WHAT IT READS IS OF BULK AT MOST 1048576: true; the input reads as it did. -/
def entryIdUptoRow : OpenClaim := { program := "ytdmkpmijcgiggaagreatdoor", sum := "67027ee137959d33389aa61e042b52f4726d57708c6af8171ed9862fec43be6c", func := "codicil/codicillaw11.EntryId", spec := "entryId", inPlace := ["internal/bytealg.Compare", "math/bits.Add64", "math/bits.Sub64"], recurses := true, named := ["unicode/utf8.first", "unicode/utf8.acceptRanges"], apart := false, laid := [("unicode/utf8.acceptRanges", laid_unicode_utf8_acceptRanges), ("unicode/utf8.first", laid_unicode_utf8_first)], narrowed := true }
def EntryIdUptoSaid : Prop := entryIdUptoRow.holds Tryz.pinned (OpenSpec.upto entryIdSpec)

/-- 'codicillaw12.ProofReads', WHERE WHAT IT READS IS OF BULK AT MOST 1048576: true; the input reads as it did. -/
def proofReadsUptoRow : OpenClaim := { program := "ytdmkpmijcgiggaagreatdoor", sum := "67027ee137959d33389aa61e042b52f4726d57708c6af8171ed9862fec43be6c", func := "codicil/codicillaw12.ProofReads", spec := "proofReads", inPlace := ["internal/bytealg.Compare", "math/bits.Add64", "math/bits.Sub64"], recurses := true, named := ["unicode/utf8.first", "unicode/utf8.acceptRanges"], apart := false, laid := [("unicode/utf8.acceptRanges", laid_unicode_utf8_acceptRanges), ("unicode/utf8.first", laid_unicode_utf8_first)], narrowed := true }
def ProofReadsUptoSaid : Prop := proofReadsUptoRow.holds Tryz.pinned (OpenSpec.upto proofReadsSpec)

/-- 'codicillaw12.ProofCuts', WHERE WHAT IT READS IS OF BULK AT MOST 1048576: true; the input reads as it did. -/
def proofCutsUptoRow : OpenClaim := { program := "ytdmkpmijcgiggaagreatdoor", sum := "67027ee137959d33389aa61e042b52f4726d57708c6af8171ed9862fec43be6c", func := "codicil/codicillaw12.ProofCuts", spec := "proofCuts", inPlace := ["internal/bytealg.Compare", "math/bits.Add64", "math/bits.Sub64"], recurses := true, named := ["unicode/utf8.first", "unicode/utf8.acceptRanges"], apart := false, laid := [("unicode/utf8.acceptRanges", laid_unicode_utf8_acceptRanges), ("unicode/utf8.first", laid_unicode_utf8_first)], narrowed := true }
def ProofCutsUptoSaid : Prop := proofCutsUptoRow.holds Tryz.pinned (OpenSpec.upto proofCutsSpec)

end Rows
end Go.Proofs.YtdmkpmijcgiggaaGreatDoor
