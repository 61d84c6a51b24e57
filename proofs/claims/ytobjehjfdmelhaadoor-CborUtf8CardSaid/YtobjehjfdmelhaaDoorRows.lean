/-
  NARROWER THAN 'FOR EVERY INPUT', by the rows' own cells (each row's printed sentence says how): CborReads: laid · CborUtf8: laid · CborUnlike: laid · CborNests: laid · CborInside: laid · CborKinds: laid.
  DERIVED. THE GIVEN ROWS OF THIS SEAT. 6 by the template 'for every input the law returns true; each argument reads behind the call as it read before'; 0 by the template 'total and deterministic' (their statements: YtobjehjfdmelhaaDoorTotals.lean).
  GIVEN WITH THE SEED: the statements are not yours to turn. If you find one false, say at which input.
  Laid BY PROGRAM, IN A SANDBOX (cutbox-rows.mjs): the forced cells as the released guide's own fill.sh prints them over the translation e4ec1010c30d60ac… (all of the seat's roots in one cut). By AI agents, Wed Nov 11 2026. No macro, syntax, notation, axiom, sorry.
-/
import Derived.Test.YtobjehjfdmelhaaDoorChecked
import GoSem.PinnedTables
import GoSem.Claim
import GoSem.ClaimJoined
import GoSem.ClaimMapViews
import Derived.JoinedTies
import Derived.KernelRfl
namespace Go.Proofs.YtobjehjfdmelhaaDoor
/- THE CELL 'sum', in the pinned program and in every row, IS THE sha256 OF THE DUMP (.gsa) THAT YtobjehjfdmelhaaDoorProg.lean LOADS. Nothing in Lean hashes anything: it is a label: what it is worth is what the hold of that sum in a sandbox is worth. -/
noncomputable def Tryd.pinned : Pinned := { name := "ytobjehjfdmelhaadoor", sum := "e4ec1010c30d60ac6502db40edfb9b72755569967e01cd43916affe85582086b", checked := Tryd.checked }
namespace Rows
def none {H : Type} : Left H := { results := [], args := [] }

/- WHAT THE LISTED PACKAGE-LEVEL VARIABLES READ AS WHEN THE CALL BEGINS. Each datum BY PROGRAM (the guide's laid-datum.mjs) off the statement by which the dump's own 'gosem.cut.vars' lays the variable. In a bare row this is a premise. The card (YtobjehjfdmelhaaDoorCards.lean) ties it to the program's text. -/
def laid_unicode_utf8_acceptRanges {H : Type} : DataW H := .agg [.agg [.lit (.int .u8 128), .lit (.int .u8 191)], .agg [.lit (.int .u8 160), .lit (.int .u8 191)], .agg [.lit (.int .u8 128), .lit (.int .u8 159)], .agg [.lit (.int .u8 144), .lit (.int .u8 191)], .agg [.lit (.int .u8 128), .lit (.int .u8 143)], .agg [.lit (.int .u8 0), .lit (.int .u8 0)], .agg [.lit (.int .u8 0), .lit (.int .u8 0)], .agg [.lit (.int .u8 0), .lit (.int .u8 0)], .agg [.lit (.int .u8 0), .lit (.int .u8 0)], .agg [.lit (.int .u8 0), .lit (.int .u8 0)], .agg [.lit (.int .u8 0), .lit (.int .u8 0)], .agg [.lit (.int .u8 0), .lit (.int .u8 0)], .agg [.lit (.int .u8 0), .lit (.int .u8 0)], .agg [.lit (.int .u8 0), .lit (.int .u8 0)], .agg [.lit (.int .u8 0), .lit (.int .u8 0)], .agg [.lit (.int .u8 0), .lit (.int .u8 0)]]
/-- One of Go's own tables, pinned by name: the form's constant. -/
def laid_unicode_utf8_first : DataW Unit := Go.Pinned.utf8First

/-- 'codicillaw10.CborReads': WHATEVER THE INPUT: true; the input reads as it did. -/
def cborReadsSpec : ChangeSpec := { name := "cborReads", fn := fun _ => fun
  | [d] => { results := [.lit (.bool true)], args := [d] }
  | _ => none }
def cborReadsRow : OpenClaim := { program := "ytobjehjfdmelhaadoor", sum := "e4ec1010c30d60ac6502db40edfb9b72755569967e01cd43916affe85582086b", func := "codicil/codicillaw10.CborReads", spec := "cborReads", inPlace := ["internal/bytealg.Compare"], recurses := true, named := ["unicode/utf8.first", "unicode/utf8.acceptRanges"], apart := false, laid := [("unicode/utf8.acceptRanges", laid_unicode_utf8_acceptRanges), ("unicode/utf8.first", laid_unicode_utf8_first)] }
def CborReadsSaid : Prop := cborReadsRow.holds Tryd.pinned (OpenSpec.ofChange cborReadsSpec)

/-- ITS FALSE NEIGHBOUR: 'it returns false'. Refute it at one input. -/
def cborReadsWrong : ChangeSpec := { name := "cborReads", fn := fun _ => fun
  | [d] => { results := [.lit (.bool false)], args := [d] }
  | _ => none }
def CborReadsWrongFalsely : Prop := cborReadsRow.holds Tryd.pinned (OpenSpec.ofChange cborReadsWrong)

/-- 'codicillaw10.CborUtf8': WHATEVER THE INPUT: true; the input reads as it did. -/
def cborUtf8Spec : ChangeSpec := { name := "cborUtf8", fn := fun _ => fun
  | [d1, d2, d3] => { results := [.lit (.bool true)], args := [d1, d2, d3] }
  | _ => none }
def cborUtf8Row : OpenClaim := { program := "ytobjehjfdmelhaadoor", sum := "e4ec1010c30d60ac6502db40edfb9b72755569967e01cd43916affe85582086b", func := "codicil/codicillaw10.CborUtf8", spec := "cborUtf8", inPlace := ["internal/bytealg.Compare"], recurses := true, named := ["unicode/utf8.first", "unicode/utf8.acceptRanges"], apart := false, laid := [("unicode/utf8.acceptRanges", laid_unicode_utf8_acceptRanges), ("unicode/utf8.first", laid_unicode_utf8_first)] }
def CborUtf8Said : Prop := cborUtf8Row.holds Tryd.pinned (OpenSpec.ofChange cborUtf8Spec)

/-- ITS FALSE NEIGHBOUR: 'it returns false'. Refute it at one input. -/
def cborUtf8Wrong : ChangeSpec := { name := "cborUtf8", fn := fun _ => fun
  | [d1, d2, d3] => { results := [.lit (.bool false)], args := [d1, d2, d3] }
  | _ => none }
def CborUtf8WrongFalsely : Prop := cborUtf8Row.holds Tryd.pinned (OpenSpec.ofChange cborUtf8Wrong)

/-- 'codicillaw10.CborUnlike': WHATEVER THE INPUT: true; the input reads as it did. -/
def cborUnlikeSpec : ChangeSpec := { name := "cborUnlike", fn := fun _ => fun
  | [d1, d2, d3, d4] => { results := [.lit (.bool true)], args := [d1, d2, d3, d4] }
  | _ => none }
def cborUnlikeRow : OpenClaim := { program := "ytobjehjfdmelhaadoor", sum := "e4ec1010c30d60ac6502db40edfb9b72755569967e01cd43916affe85582086b", func := "codicil/codicillaw10.CborUnlike", spec := "cborUnlike", inPlace := ["internal/bytealg.Compare"], recurses := true, named := ["unicode/utf8.first", "unicode/utf8.acceptRanges"], apart := false, laid := [("unicode/utf8.acceptRanges", laid_unicode_utf8_acceptRanges), ("unicode/utf8.first", laid_unicode_utf8_first)] }
def CborUnlikeSaid : Prop := cborUnlikeRow.holds Tryd.pinned (OpenSpec.ofChange cborUnlikeSpec)

/-- ITS FALSE NEIGHBOUR: 'it returns false'. Refute it at one input. -/
def cborUnlikeWrong : ChangeSpec := { name := "cborUnlike", fn := fun _ => fun
  | [d1, d2, d3, d4] => { results := [.lit (.bool false)], args := [d1, d2, d3, d4] }
  | _ => none }
def CborUnlikeWrongFalsely : Prop := cborUnlikeRow.holds Tryd.pinned (OpenSpec.ofChange cborUnlikeWrong)

/-- 'codicillaw10.CborNests': WHATEVER THE INPUT: true; the input reads as it did. -/
def cborNestsSpec : ChangeSpec := { name := "cborNests", fn := fun _ => fun
  | [d1, d2, d3] => { results := [.lit (.bool true)], args := [d1, d2, d3] }
  | _ => none }
def cborNestsRow : OpenClaim := { program := "ytobjehjfdmelhaadoor", sum := "e4ec1010c30d60ac6502db40edfb9b72755569967e01cd43916affe85582086b", func := "codicil/codicillaw10.CborNests", spec := "cborNests", inPlace := ["internal/bytealg.Compare"], recurses := true, named := ["unicode/utf8.first", "unicode/utf8.acceptRanges"], apart := false, laid := [("unicode/utf8.acceptRanges", laid_unicode_utf8_acceptRanges), ("unicode/utf8.first", laid_unicode_utf8_first)] }
def CborNestsSaid : Prop := cborNestsRow.holds Tryd.pinned (OpenSpec.ofChange cborNestsSpec)

/-- ITS FALSE NEIGHBOUR: 'it returns false'. Refute it at one input. -/
def cborNestsWrong : ChangeSpec := { name := "cborNests", fn := fun _ => fun
  | [d1, d2, d3] => { results := [.lit (.bool false)], args := [d1, d2, d3] }
  | _ => none }
def CborNestsWrongFalsely : Prop := cborNestsRow.holds Tryd.pinned (OpenSpec.ofChange cborNestsWrong)

/-- 'codicillaw10.CborInside': WHATEVER THE INPUT: true; the input reads as it did. -/
def cborInsideSpec : ChangeSpec := { name := "cborInside", fn := fun _ => fun
  | [d1, d2, d3] => { results := [.lit (.bool true)], args := [d1, d2, d3] }
  | _ => none }
def cborInsideRow : OpenClaim := { program := "ytobjehjfdmelhaadoor", sum := "e4ec1010c30d60ac6502db40edfb9b72755569967e01cd43916affe85582086b", func := "codicil/codicillaw10.CborInside", spec := "cborInside", inPlace := ["internal/bytealg.Compare"], recurses := true, named := ["unicode/utf8.first", "unicode/utf8.acceptRanges"], apart := false, laid := [("unicode/utf8.acceptRanges", laid_unicode_utf8_acceptRanges), ("unicode/utf8.first", laid_unicode_utf8_first)] }
def CborInsideSaid : Prop := cborInsideRow.holds Tryd.pinned (OpenSpec.ofChange cborInsideSpec)

/-- ITS FALSE NEIGHBOUR: 'it returns false'. Refute it at one input. -/
def cborInsideWrong : ChangeSpec := { name := "cborInside", fn := fun _ => fun
  | [d1, d2, d3] => { results := [.lit (.bool false)], args := [d1, d2, d3] }
  | _ => none }
def CborInsideWrongFalsely : Prop := cborInsideRow.holds Tryd.pinned (OpenSpec.ofChange cborInsideWrong)

/-- 'codicillaw10.CborKinds': WHATEVER THE INPUT: true; the input reads as it did. -/
def cborKindsSpec : ChangeSpec := { name := "cborKinds", fn := fun _ => fun
  | [d1, d2] => { results := [.lit (.bool true)], args := [d1, d2] }
  | _ => none }
def cborKindsRow : OpenClaim := { program := "ytobjehjfdmelhaadoor", sum := "e4ec1010c30d60ac6502db40edfb9b72755569967e01cd43916affe85582086b", func := "codicil/codicillaw10.CborKinds", spec := "cborKinds", inPlace := ["internal/bytealg.Compare"], recurses := true, named := ["unicode/utf8.first", "unicode/utf8.acceptRanges"], apart := false, laid := [("unicode/utf8.acceptRanges", laid_unicode_utf8_acceptRanges), ("unicode/utf8.first", laid_unicode_utf8_first)] }
def CborKindsSaid : Prop := cborKindsRow.holds Tryd.pinned (OpenSpec.ofChange cborKindsSpec)

/-- ITS FALSE NEIGHBOUR: 'it returns false'. Refute it at one input. -/
def cborKindsWrong : ChangeSpec := { name := "cborKinds", fn := fun _ => fun
  | [d1, d2] => { results := [.lit (.bool false)], args := [d1, d2] }
  | _ => none }
def CborKindsWrongFalsely : Prop := cborKindsRow.holds Tryd.pinned (OpenSpec.ofChange cborKindsWrong)

/- THE SECOND FORM. 'bulk': how many values and letters a reading holds, each counted each time it is reached (what is shared counts as often as it is met; a slice's spare places count too). A statement '..UptoSaid' is the law's where the arguments, and the package variables that the reading takes, are together of bulk at most 1048576: NARROWER than '..Said'. Prove '..Said' where nothing that the law and all that it calls make is longer than what came in: it says more and counts as full. Else prove '..UptoSaid'. A law counts once. -/
mutual
def uptoBulk {H : Type} : DataW H → Nat
  | .lit (.string bytes) => bytes.length + 1
  | .lit _ => 1
  | .nil => 1
  | .ptr d => uptoBulk d + 1
  | .slice elems spare => uptoBulkAll elems + uptoBulkAll spare + 1
  | .agg parts => uptoBulkAll parts + 1
  | .iface _ d => uptoBulk d + 1
  | .map entries => uptoBulkEntries entries + 1
  | .held _ => 1
def uptoBulkAll {H : Type} : List (DataW H) → Nat
  | [] => 0
  | d :: r => uptoBulk d + uptoBulkAll r
def uptoBulkEntries {H : Type} : List (Lit × DataW H) → Nat
  | [] => 0
  | x :: r => uptoBulkEntry x + uptoBulkEntries r
def uptoBulkEntry {H : Type} : Lit × DataW H → Nat
  | (.string bytes, d) => bytes.length + uptoBulk d + 1
  | (_, d) => uptoBulk d + 1
 end
def uptoSmall : (H : Type) → List (DataW H) → Bool := fun _ ds => decide (uptoBulkAll ds ≤ 1048576)
def OpenSpec.upto (s : _root_.Go.ChangeSpec) : _root_.Go.OpenSpec := { _root_.Go.OpenSpec.ofChange s with cond := some uptoSmall }

/-- 'codicillaw10.CborReads', WHERE WHAT IT READS IS OF BULK AT MOST 1048576: true; the input reads as it did. -/
def cborReadsUptoRow : OpenClaim := { program := "ytobjehjfdmelhaadoor", sum := "e4ec1010c30d60ac6502db40edfb9b72755569967e01cd43916affe85582086b", func := "codicil/codicillaw10.CborReads", spec := "cborReads", inPlace := ["internal/bytealg.Compare"], recurses := true, named := ["unicode/utf8.first", "unicode/utf8.acceptRanges"], apart := false, laid := [("unicode/utf8.acceptRanges", laid_unicode_utf8_acceptRanges), ("unicode/utf8.first", laid_unicode_utf8_first)], narrowed := true }
def CborReadsUptoSaid : Prop := cborReadsUptoRow.holds Tryd.pinned (OpenSpec.upto cborReadsSpec)

/-- 'codicillaw10.CborUtf8', WHERE WHAT IT READS IS OF BULK AT MOST 1048576: true; the input reads as it did. -/
def cborUtf8UptoRow : OpenClaim := { program := "ytobjehjfdmelhaadoor", sum := "e4ec1010c30d60ac6502db40edfb9b72755569967e01cd43916affe85582086b", func := "codicil/codicillaw10.CborUtf8", spec := "cborUtf8", inPlace := ["internal/bytealg.Compare"], recurses := true, named := ["unicode/utf8.first", "unicode/utf8.acceptRanges"], apart := false, laid := [("unicode/utf8.acceptRanges", laid_unicode_utf8_acceptRanges), ("unicode/utf8.first", laid_unicode_utf8_first)], narrowed := true }
def CborUtf8UptoSaid : Prop := cborUtf8UptoRow.holds Tryd.pinned (OpenSpec.upto cborUtf8Spec)

/-- 'codicillaw10.CborUnlike', WHERE WHAT IT READS IS OF BULK AT MOST 1048576: true; the input reads as it did. -/
def cborUnlikeUptoRow : OpenClaim := { program := "ytobjehjfdmelhaadoor", sum := "e4ec1010c30d60ac6502db40edfb9b72755569967e01cd43916affe85582086b", func := "codicil/codicillaw10.CborUnlike", spec := "cborUnlike", inPlace := ["internal/bytealg.Compare"], recurses := true, named := ["unicode/utf8.first", "unicode/utf8.acceptRanges"], apart := false, laid := [("unicode/utf8.acceptRanges", laid_unicode_utf8_acceptRanges), ("unicode/utf8.first", laid_unicode_utf8_first)], narrowed := true }
def CborUnlikeUptoSaid : Prop := cborUnlikeUptoRow.holds Tryd.pinned (OpenSpec.upto cborUnlikeSpec)

/-- 'codicillaw10.CborNests', WHERE WHAT IT READS IS OF BULK AT MOST 1048576: true; the input reads as it did. -/
def cborNestsUptoRow : OpenClaim := { program := "ytobjehjfdmelhaadoor", sum := "e4ec1010c30d60ac6502db40edfb9b72755569967e01cd43916affe85582086b", func := "codicil/codicillaw10.CborNests", spec := "cborNests", inPlace := ["internal/bytealg.Compare"], recurses := true, named := ["unicode/utf8.first", "unicode/utf8.acceptRanges"], apart := false, laid := [("unicode/utf8.acceptRanges", laid_unicode_utf8_acceptRanges), ("unicode/utf8.first", laid_unicode_utf8_first)], narrowed := true }
def CborNestsUptoSaid : Prop := cborNestsUptoRow.holds Tryd.pinned (OpenSpec.upto cborNestsSpec)

/-- 'codicillaw10.CborInside', WHERE WHAT IT READS IS OF BULK AT MOST 1048576: true; the input reads as it did. -/
def cborInsideUptoRow : OpenClaim := { program := "ytobjehjfdmelhaadoor", sum := "e4ec1010c30d60ac6502db40edfb9b72755569967e01cd43916affe85582086b", func := "codicil/codicillaw10.CborInside", spec := "cborInside", inPlace := ["internal/bytealg.Compare"], recurses := true, named := ["unicode/utf8.first", "unicode/utf8.acceptRanges"], apart := false, laid := [("unicode/utf8.acceptRanges", laid_unicode_utf8_acceptRanges), ("unicode/utf8.first", laid_unicode_utf8_first)], narrowed := true }
def CborInsideUptoSaid : Prop := cborInsideUptoRow.holds Tryd.pinned (OpenSpec.upto cborInsideSpec)

/-- 'codicillaw10.CborKinds', WHERE WHAT IT READS IS OF BULK AT MOST 1048576: true; the input reads as it did. -/
def cborKindsUptoRow : OpenClaim := { program := "ytobjehjfdmelhaadoor", sum := "e4ec1010c30d60ac6502db40edfb9b72755569967e01cd43916affe85582086b", func := "codicil/codicillaw10.CborKinds", spec := "cborKinds", inPlace := ["internal/bytealg.Compare"], recurses := true, named := ["unicode/utf8.first", "unicode/utf8.acceptRanges"], apart := false, laid := [("unicode/utf8.acceptRanges", laid_unicode_utf8_acceptRanges), ("unicode/utf8.first", laid_unicode_utf8_first)], narrowed := true }
def CborKindsUptoSaid : Prop := cborKindsUptoRow.holds Tryd.pinned (OpenSpec.upto cborKindsSpec)

end Rows
end Go.Proofs.YtobjehjfdmelhaaDoor
