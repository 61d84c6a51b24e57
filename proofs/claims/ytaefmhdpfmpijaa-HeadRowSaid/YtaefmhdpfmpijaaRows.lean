/-
  No cell of these rows narrows 'for every input' (looked for: loops, veiled, ifaces, maps, wideKeys, modest, calm, conditions, laid).
  DERIVED. THE GIVEN ROWS OF THIS SEAT. 5 by the template 'for every input the law returns true; each argument reads behind the call as it read before'; 0 by the template 'total and deterministic' (their statements: YtaefmhdpfmpijaaTotals.lean).
  GIVEN WITH THE SEED: the statements are not yours to turn. If you find one false, say at which input.
  Laid BY PROGRAM, IN A SANDBOX (cutbox-rows.mjs): the forced cells as the released guide's own fill.sh prints them over the translation 00ba5ea5991d8ec9… (all of the seat's roots in one cut). By AI agents, Wed Nov 11 2026. No macro, syntax, notation, axiom, sorry.
-/
import Derived.Test.YtaefmhdpfmpijaaChecked
import GoSem.Claim
import GoSem.ClaimJoined
import GoSem.ClaimMapViews
import Derived.JoinedTies
import Derived.KernelRfl
namespace Go.Proofs.Ytaefmhdpfmpijaa
/- THE CELL 'sum', in the pinned program and in every row, IS THE sha256 OF THE DUMP (.gsa) THAT YtaefmhdpfmpijaaProg.lean LOADS. Nothing in Lean hashes anything: it is a label: what it is worth is what the hold of that sum in a sandbox is worth. -/
noncomputable def Try.pinned : Pinned := { name := "ytaefmhdpfmpijaa", sum := "00ba5ea5991d8ec90a9105752bab4bc9d075950e98beea3fc12bfb0c7e19b9ef", checked := Try.checked }
namespace Rows
def none {H : Type} : Left H := { results := [], args := [] }

/-- 'codicillaw09.HeadExact': WHATEVER THE INPUT: true; the input reads as it did. -/
def headExactSpec : ChangeSpec := { name := "headExact", fn := fun _ => fun
  | [d1, d2, d3, d4] => { results := [.lit (.bool true)], args := [d1, d2, d3, d4] }
  | _ => none }
def headExactRow : OpenClaim := { program := "ytaefmhdpfmpijaa", sum := "00ba5ea5991d8ec90a9105752bab4bc9d075950e98beea3fc12bfb0c7e19b9ef", func := "codicil/codicillaw09.HeadExact", spec := "headExact", apart := false }
def HeadExactSaid : Prop := headExactRow.holds Try.pinned (OpenSpec.ofChange headExactSpec)

/-- ITS FALSE NEIGHBOUR: 'it returns false'. Refute it at one input. -/
def headExactWrong : ChangeSpec := { name := "headExact", fn := fun _ => fun
  | [d1, d2, d3, d4] => { results := [.lit (.bool false)], args := [d1, d2, d3, d4] }
  | _ => none }
def HeadExactWrongFalsely : Prop := headExactRow.holds Try.pinned (OpenSpec.ofChange headExactWrong)

/-- 'codicillaw09.HeadBack': WHATEVER THE INPUT: true; the input reads as it did. -/
def headBackSpec : ChangeSpec := { name := "headBack", fn := fun _ => fun
  | [d1, d2, d3, d4] => { results := [.lit (.bool true)], args := [d1, d2, d3, d4] }
  | _ => none }
def headBackRow : OpenClaim := { program := "ytaefmhdpfmpijaa", sum := "00ba5ea5991d8ec90a9105752bab4bc9d075950e98beea3fc12bfb0c7e19b9ef", func := "codicil/codicillaw09.HeadBack", spec := "headBack", apart := false }
def HeadBackSaid : Prop := headBackRow.holds Try.pinned (OpenSpec.ofChange headBackSpec)

/-- ITS FALSE NEIGHBOUR: 'it returns false'. Refute it at one input. -/
def headBackWrong : ChangeSpec := { name := "headBack", fn := fun _ => fun
  | [d1, d2, d3, d4] => { results := [.lit (.bool false)], args := [d1, d2, d3, d4] }
  | _ => none }
def HeadBackWrongFalsely : Prop := headBackRow.holds Try.pinned (OpenSpec.ofChange headBackWrong)

/-- 'codicillaw09.HeadShort': WHATEVER THE INPUT: true; the input reads as it did. -/
def headShortSpec : ChangeSpec := { name := "headShort", fn := fun _ => fun
  | [d1, d2, d3] => { results := [.lit (.bool true)], args := [d1, d2, d3] }
  | _ => none }
def headShortRow : OpenClaim := { program := "ytaefmhdpfmpijaa", sum := "00ba5ea5991d8ec90a9105752bab4bc9d075950e98beea3fc12bfb0c7e19b9ef", func := "codicil/codicillaw09.HeadShort", spec := "headShort", apart := false }
def HeadShortSaid : Prop := headShortRow.holds Try.pinned (OpenSpec.ofChange headShortSpec)

/-- ITS FALSE NEIGHBOUR: 'it returns false'. Refute it at one input. -/
def headShortWrong : ChangeSpec := { name := "headShort", fn := fun _ => fun
  | [d1, d2, d3] => { results := [.lit (.bool false)], args := [d1, d2, d3] }
  | _ => none }
def HeadShortWrongFalsely : Prop := headShortRow.holds Try.pinned (OpenSpec.ofChange headShortWrong)

/-- 'codicillaw09.HeadAny': WHATEVER THE INPUT: true; the input reads as it did. -/
def headAnySpec : ChangeSpec := { name := "headAny", fn := fun _ => fun
  | [d1, d2] => { results := [.lit (.bool true)], args := [d1, d2] }
  | _ => none }
def headAnyRow : OpenClaim := { program := "ytaefmhdpfmpijaa", sum := "00ba5ea5991d8ec90a9105752bab4bc9d075950e98beea3fc12bfb0c7e19b9ef", func := "codicil/codicillaw09.HeadAny", spec := "headAny", apart := false }
def HeadAnySaid : Prop := headAnyRow.holds Try.pinned (OpenSpec.ofChange headAnySpec)

/-- ITS FALSE NEIGHBOUR: 'it returns false'. Refute it at one input. -/
def headAnyWrong : ChangeSpec := { name := "headAny", fn := fun _ => fun
  | [d1, d2] => { results := [.lit (.bool false)], args := [d1, d2] }
  | _ => none }
def HeadAnyWrongFalsely : Prop := headAnyRow.holds Try.pinned (OpenSpec.ofChange headAnyWrong)

/-- 'codicillaw09.HeadRow': WHATEVER THE INPUT: true; the input reads as it did. -/
def headRowSpec : ChangeSpec := { name := "headRow", fn := fun _ => fun
  | [d1, d2] => { results := [.lit (.bool true)], args := [d1, d2] }
  | _ => none }
def headRowRow : OpenClaim := { program := "ytaefmhdpfmpijaa", sum := "00ba5ea5991d8ec90a9105752bab4bc9d075950e98beea3fc12bfb0c7e19b9ef", func := "codicil/codicillaw09.HeadRow", spec := "headRow", apart := false }
def HeadRowSaid : Prop := headRowRow.holds Try.pinned (OpenSpec.ofChange headRowSpec)

/-- ITS FALSE NEIGHBOUR: 'it returns false'. Refute it at one input. -/
def headRowWrong : ChangeSpec := { name := "headRow", fn := fun _ => fun
  | [d1, d2] => { results := [.lit (.bool false)], args := [d1, d2] }
  | _ => none }
def HeadRowWrongFalsely : Prop := headRowRow.holds Try.pinned (OpenSpec.ofChange headRowWrong)

/- THE SECOND FORM. 'bulk': how many values and letters a reading holds, each counted each time it is reached (what is shared counts as often as it is met; a slice's spare places count too). A statement '..UptoSaid' is the law's where the arguments, and the package variables that the reading takes, are together of bulk at most 1048576: NARROWER than '..Said'. Prove '..Said' where nothing that the law and all that it calls make is longer than what came in: it says more and counts as full. Else prove '..UptoSaid'. A law counts once. -/
mutual
def uptoBulk {H : Type} : DataW H → Nat
  | .lit (.string bytes) => bytes.length + 1
  | .lit _ => 1
  | .nil => 1
  | .ptr d => uptoBulk d + 1
  | .slice elems spare => uptoBulkAll elems + uptoBulkAll spare + 1
  | .agg parts => uptoBulkAll parts + 1
  | .iface _ d => uptoBulk d + 1
  | .map entries => uptoBulkEntries entries + 1
  | .held _ => 1
def uptoBulkAll {H : Type} : List (DataW H) → Nat
  | [] => 0
  | d :: r => uptoBulk d + uptoBulkAll r
def uptoBulkEntries {H : Type} : List (Lit × DataW H) → Nat
  | [] => 0
  | x :: r => uptoBulkEntry x + uptoBulkEntries r
def uptoBulkEntry {H : Type} : Lit × DataW H → Nat
  | (.string bytes, d) => bytes.length + uptoBulk d + 1
  | (_, d) => uptoBulk d + 1
 end
def uptoSmall : (H : Type) → List (DataW H) → Bool := fun _ ds => decide (uptoBulkAll ds ≤ 1048576)
def OpenSpec.upto (s : _root_.Go.ChangeSpec) : _root_.Go.OpenSpec := { _root_.Go.OpenSpec.ofChange s with cond := some uptoSmall }

/-- 'codicillaw09.HeadExact', WHERE WHAT IT READS IS OF BULK AT MOST 1048576: true; the input reads as it did. -/
def headExactUptoRow : OpenClaim := { program := "ytaefmhdpfmpijaa", sum := "00ba5ea5991d8ec90a9105752bab4bc9d075950e98beea3fc12bfb0c7e19b9ef", func := "codicil/codicillaw09.HeadExact", spec := "headExact", apart := false, narrowed := true }
def HeadExactUptoSaid : Prop := headExactUptoRow.holds Try.pinned (OpenSpec.upto headExactSpec)

/-- 'codicillaw09.HeadBack', WHERE WHAT IT READS IS OF BULK AT MOST 1048576: true; the input reads as it did. -/
def headBackUptoRow : OpenClaim := { program := "ytaefmhdpfmpijaa", sum := "00ba5ea5991d8ec90a9105752bab4bc9d075950e98beea3fc12bfb0c7e19b9ef", func := "codicil/codicillaw09.HeadBack", spec := "headBack", apart := false, narrowed := true }
def HeadBackUptoSaid : Prop := headBackUptoRow.holds Try.pinned (OpenSpec.upto headBackSpec)

/-- 'codicillaw09.HeadShort', WHERE WHAT IT READS IS OF BULK AT MOST 1048576: true; the input reads as it did. -/
def headShortUptoRow : OpenClaim := { program := "ytaefmhdpfmpijaa", sum := "00ba5ea5991d8ec90a9105752bab4bc9d075950e98beea3fc12bfb0c7e19b9ef", func := "codicil/codicillaw09.HeadShort", spec := "headShort", apart := false, narrowed := true }
def HeadShortUptoSaid : Prop := headShortUptoRow.holds Try.pinned (OpenSpec.upto headShortSpec)

/-- 'codicillaw09.HeadAny', WHERE WHAT IT READS IS OF BULK AT MOST 1048576: true; the input reads as it did. -/
def headAnyUptoRow : OpenClaim := { program := "ytaefmhdpfmpijaa", sum := "00ba5ea5991d8ec90a9105752bab4bc9d075950e98beea3fc12bfb0c7e19b9ef", func := "codicil/codicillaw09.HeadAny", spec := "headAny", apart := false, narrowed := true }
def HeadAnyUptoSaid : Prop := headAnyUptoRow.holds Try.pinned (OpenSpec.upto headAnySpec)

/-- 'codicillaw09.HeadRow', WHERE WHAT IT READS IS OF BULK AT MOST 1048576: true; the input reads as it did. -/
def headRowUptoRow : OpenClaim := { program := "ytaefmhdpfmpijaa", sum := "00ba5ea5991d8ec90a9105752bab4bc9d075950e98beea3fc12bfb0c7e19b9ef", func := "codicil/codicillaw09.HeadRow", spec := "headRow", apart := false, narrowed := true }
def HeadRowUptoSaid : Prop := headRowUptoRow.holds Try.pinned (OpenSpec.upto headRowSpec)

end Rows
end Go.Proofs.Ytaefmhdpfmpijaa
