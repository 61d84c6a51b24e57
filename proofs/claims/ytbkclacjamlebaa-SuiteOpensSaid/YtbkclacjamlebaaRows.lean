/-
  No cell of these rows narrows 'for every input' (looked for: loops, veiled, ifaces, maps, wideKeys, modest, calm, conditions, laid).
  DERIVED. THE GIVEN ROWS OF THIS SEAT. 2 by the template 'for every input the law returns true; each argument reads behind the call as it read before'; 0 by the template 'total and deterministic' (their statements: YtbkclacjamlebaaTotals.lean).
  GIVEN WITH THE SEED: the statements are not yours to turn. If you find one false, say at which input.
  Laid BY PROGRAM, IN A SANDBOX (cutbox-rows.mjs): the forced cells as the released guide's own fill.sh prints them over the translation a8b21bd0b5024c80… (all of the seat's roots in one cut). By AI agents, Wed Nov 11 2026. No macro, syntax, notation, axiom, sorry.
-/
import Derived.Test.YtbkclacjamlebaaChecked
import GoSem.Claim
import GoSem.ClaimJoined
import GoSem.ClaimMapViews
import Derived.JoinedTies
import Derived.KernelRfl
namespace Go.Proofs.Ytbkclacjamlebaa
/- THE CELL 'sum', in the pinned program and in every row, IS THE sha256 OF THE DUMP (.gsa) THAT YtbkclacjamlebaaProg.lean LOADS. Nothing in Lean hashes anything: it is a label: what it is worth is what the hold of that sum in a sandbox is worth. -/
noncomputable def Try.pinned : Pinned := { name := "ytbkclacjamlebaa", sum := "a8b21bd0b5024c80be04656662edfc7ebb525a0f627a875f29d189afcea47a3e", checked := Try.checked }
namespace Rows
def none {H : Type} : Left H := { results := [], args := [] }

/-- 'codicillaw08.SuiteOpens': WHATEVER THE INPUT: true; the input reads as it did. -/
def suiteOpensSpec : ChangeSpec := { name := "suiteOpens", fn := fun _ => fun
  | [d1, d2, d3] => { results := [.lit (.bool true)], args := [d1, d2, d3] }
  | _ => none }
def suiteOpensRow : OpenClaim := { program := "ytbkclacjamlebaa", sum := "a8b21bd0b5024c80be04656662edfc7ebb525a0f627a875f29d189afcea47a3e", func := "codicil/codicillaw08.SuiteOpens", spec := "suiteOpens", inPlace := ["math/bits.Add64", "math/bits.Sub64"], apart := false }
def SuiteOpensSaid : Prop := suiteOpensRow.holds Try.pinned (OpenSpec.ofChange suiteOpensSpec)

/-- ITS FALSE NEIGHBOUR: 'it returns false'. Refute it at one input. -/
def suiteOpensWrong : ChangeSpec := { name := "suiteOpens", fn := fun _ => fun
  | [d1, d2, d3] => { results := [.lit (.bool false)], args := [d1, d2, d3] }
  | _ => none }
def SuiteOpensWrongFalsely : Prop := suiteOpensRow.holds Try.pinned (OpenSpec.ofChange suiteOpensWrong)

/-- 'codicillaw08.SuiteReal': WHATEVER THE INPUT: true; the input reads as it did. -/
def suiteRealSpec : ChangeSpec := { name := "suiteReal", fn := fun _ => fun
  | [d1, d2, d3] => { results := [.lit (.bool true)], args := [d1, d2, d3] }
  | _ => none }
def suiteRealRow : OpenClaim := { program := "ytbkclacjamlebaa", sum := "a8b21bd0b5024c80be04656662edfc7ebb525a0f627a875f29d189afcea47a3e", func := "codicil/codicillaw08.SuiteReal", spec := "suiteReal", inPlace := ["math/bits.Add64", "math/bits.Sub64"], apart := false }
def SuiteRealSaid : Prop := suiteRealRow.holds Try.pinned (OpenSpec.ofChange suiteRealSpec)

/-- ITS FALSE NEIGHBOUR: 'it returns false'. Refute it at one input. -/
def suiteRealWrong : ChangeSpec := { name := "suiteReal", fn := fun _ => fun
  | [d1, d2, d3] => { results := [.lit (.bool false)], args := [d1, d2, d3] }
  | _ => none }
def SuiteRealWrongFalsely : Prop := suiteRealRow.holds Try.pinned (OpenSpec.ofChange suiteRealWrong)

/- THE SECOND FORM. 'bulk': how many values and letters a reading holds, each counted each time it is reached (what is shared counts as often as it is met; a slice's spare places count too). A statement '..UptoSaid' is the law's where the arguments, and the package variables that the reading takes, are together of bulk at most 1048576: NARROWER than '..Said'. Prove '..Said' where nothing that the law and all that it calls make is longer than what came in: it says more and counts as full. Else prove '..UptoSaid'. A law counts once. -/
mutual
def uptoBulk {H : Type} : DataW H → Nat
  | .lit (.string bytes) => bytes.length + 1
  | .lit _ => 1
  | .nil => 1
  | .ptr d => uptoBulk d + 1
  | .slice elems spare => uptoBulkAll elems + uptoBulkAll spare + 1
  | .agg parts => uptoBulkAll parts + 1
  | .iface _ d => uptoBulk d + 1
  | .map entries => uptoBulkEntries entries + 1
  | .held _ => 1
def uptoBulkAll {H : Type} : List (DataW H) → Nat
  | [] => 0
  | d :: r => uptoBulk d + uptoBulkAll r
def uptoBulkEntries {H : Type} : List (Lit × DataW H) → Nat
  | [] => 0
  | x :: r => uptoBulkEntry x + uptoBulkEntries r
def uptoBulkEntry {H : Type} : Lit × DataW H → Nat
  | (.string bytes, d) => bytes.length + uptoBulk d + 1
  | (_, d) => uptoBulk d + 1
 end
def uptoSmall : (H : Type) → List (DataW H) → Bool := fun _ ds => decide (uptoBulkAll ds ≤ 1048576)
def OpenSpec.upto (s : _root_.Go.ChangeSpec) : _root_.Go.OpenSpec := { _root_.Go.OpenSpec.ofChange s with cond := some uptoSmall }

/-- 'codicillaw08.SuiteOpens', WHERE WHAT IT READS IS OF BULK AT MOST 1048576: true; the input reads as it did. -/
def suiteOpensUptoRow : OpenClaim := { program := "ytbkclacjamlebaa", sum := "a8b21bd0b5024c80be04656662edfc7ebb525a0f627a875f29d189afcea47a3e", func := "codicil/codicillaw08.SuiteOpens", spec := "suiteOpens", inPlace := ["math/bits.Add64", "math/bits.Sub64"], apart := false, narrowed := true }
def SuiteOpensUptoSaid : Prop := suiteOpensUptoRow.holds Try.pinned (OpenSpec.upto suiteOpensSpec)

/-- 'codicillaw08.SuiteReal', WHERE WHAT IT READS IS OF BULK AT MOST 1048576: true; the input reads as it did. -/
def suiteRealUptoRow : OpenClaim := { program := "ytbkclacjamlebaa", sum := "a8b21bd0b5024c80be04656662edfc7ebb525a0f627a875f29d189afcea47a3e", func := "codicil/codicillaw08.SuiteReal", spec := "suiteReal", inPlace := ["math/bits.Add64", "math/bits.Sub64"], apart := false, narrowed := true }
def SuiteRealUptoSaid : Prop := suiteRealUptoRow.holds Try.pinned (OpenSpec.upto suiteRealSpec)

end Rows
end Go.Proofs.Ytbkclacjamlebaa
