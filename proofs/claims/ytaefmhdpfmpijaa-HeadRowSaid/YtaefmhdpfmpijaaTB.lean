/- The tables of the program that nobody writes: their places, and what stands in them. -/
import Derived.WalkKit
namespace Go.Proofs.Ytaefmhdpfmpijaa.Abs
open Go

def tabs : Nat → Option (IntKind × List Int) := fun _ => none

theorem noTabs (g : Nat) (k : IntKind) (l : List Int) : tabs g ≠ some (k, l) := by simp [tabs]

end Go.Proofs.Ytaefmhdpfmpijaa.Abs
