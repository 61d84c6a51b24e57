/- Strings of bytes, as lists of numbers, among the abstract values. -/
import Derived.Test.YtaefmhdpfmpijaaGC
set_option linter.unusedVariables false
set_option linter.unusedSimpArgs false
namespace Go.Proofs.Ytaefmhdpfmpijaa.Abs
open Go

def bys (l : List Int) : List AV := l.map (AV.int .u8)
def ints (l : List Int) : List AV := l.map (AV.int .i64)

theorem pureL_map (k : IntKind) (l : List Int) : pureL (l.map (AV.int k)) = true := by
  induction l with
  | nil => rfl
  | cons x l ih => simp [pureL, pureV] at ih ⊢; exact ih
theorem pureL_bys (l : List Int) : pureL (bys l) = true := pureL_map _ l
theorem pureL_ints (l : List Int) : pureL (ints l) = true := pureL_map _ l
theorem noRoL_map (k : IntKind) (l : List Int) : noRoL (l.map (AV.int k)) = true := by
  induction l with
  | nil => rfl
  | cons x l ih => simp [noRoL, noRoV] at ih ⊢; exact ih
theorem noRoL_bys (l : List Int) : noRoL (bys l) = true := noRoL_map _ l
@[simp] theorem bys_length (l : List Int) : (bys l).length = l.length := by simp [bys]
@[simp] theorem ints_length (l : List Int) : (ints l).length = l.length := by simp [ints]
theorem ones_bys (l : List Int) : (bys l).all AV.one = true := by simp [bys, AV.one]
theorem ones_ints (l : List Int) : (ints l).all AV.one = true := by simp [ints, AV.one]
theorem bys_append (a b : List Int) : bys a ++ bys b = bys (a ++ b) := by simp [bys]
theorem bys_snoc (a : List Int) (x : Int) : bys a ++ [.int .u8 x] = bys (a ++ [x]) := by simp [bys]
theorem ints_snoc (a : List Int) (x : Int) : ints a ++ [.int .i64 x] = ints (a ++ [x]) := by simp [ints]
theorem bys_take (a : List Int) (n : Nat) : (bys a).take n = bys (a.take n) := by simp [bys]
theorem bys_drop (a : List Int) (n : Nat) : (bys a).drop n = bys (a.drop n) := by simp [bys]
theorem bys_nil {l : List Int} (h : bys l = []) : l = [] := by
  cases l with
  | nil => rfl
  | cons x l => simp [bys] at h
theorem bys_inj {a b : List Int} (h : bys a = bys b) : a = b := by
  induction a generalizing b with
  | nil => cases b with
    | nil => rfl
    | cons y b => simp [bys] at h
  | cons x a ih => cases b with
    | nil => simp [bys] at h
    | cons y b =>
      simp only [bys, List.map_cons, List.cons.injEq, AV.int.injEq] at h
      rw [h.1.2, ih h.2]
theorem bys_get {l : List Int} {j : Nat} (h : j < l.length) : (bys l)[j]? = some (.int .u8 l[j]) := by simp [bys, h]

theorem lesP_map (o : Nat → Option Nat) (k : IntKind) (l : List Int) : lesP o (l.map (AV.int k)) (l.map (AV.int k)) := by
  induction l with
  | nil => simp [lesP]
  | cons x l ih => simp only [List.map_cons, lesP, leP]; exact ⟨⟨trivial, trivial⟩, ih⟩
theorem lesP_bys {o : Nat → Option Nat} {l : List Int} {xs : List AV} (h : xs = bys l) : lesP o (bys l) xs := by
  subst h; exact lesP_map _ _ _
theorem lesP_ints {o : Nat → Option Nat} {l : List Int} {xs : List AV} (h : xs = ints l) : lesP o (ints l) xs := by
  subst h; exact lesP_map _ _ _

theorem wrap_u8 (n : Int) : IntKind.u8.wrap n = n % 256 := by simp [IntKind.wrap, IntKind.bits, IntKind.signed]
theorem wrap_u64 (n : Int) : IntKind.u64.wrap n = n % 18446744073709551616 := by simp [IntKind.wrap, IntKind.bits, IntKind.signed]
theorem wrap_u32 (n : Int) : IntKind.u32.wrap n = n % 4294967296 := by simp [IntKind.wrap, IntKind.bits, IntKind.signed]

def noCut : Nat → Bool := fun _ => false
def cutAt (l : List Nat) : Nat → Bool := fun i => l.any (Nat.beq i)
def takes : List Nat → Plan
  | [] => .done
  | i :: r => .take i (takes r)
def plans : List (Nat × (Bool × Plan)) → Nat → Bool × Plan
  | [], _ => (true, .done)
  | (f, m) :: r, g => cond (Nat.beq g f) m (plans r g)
def modes : List (Nat × List Mode) → FuncId → List Mode
  | [], _ => []
  | (f, m) :: r, g => cond (Nat.beq g f) m (modes r g)

theorem ifB_pos {b : Bool} {A B : Prop} (hb : b = true) (h : A) : ifB b A B := by subst hb; exact ifB_t h
theorem ifB_neg {b : Bool} {A B : Prop} (hb : b = false) (h : B) : ifB b A B := by subst hb; exact ifB_f h

/-- A number of a byte string, read. -/
theorem get_bys {l : List Int} {c : Nat} (h : c < l.length) : ((bys l).drop c)[0]? = some (.int .u8 l[c]) := by
  simp [bys, h]
theorem setN_bys (l : List Int) (c : Nat) (x : Int) (h : c < l.length) : setN (bys l) c [.int .u8 x] = bys (l.set c x) := by
  simp [setN, bys, List.map_set]

/-- Bytes alone. -/
def Byt (l : List Int) : Prop := ∀ x ∈ l, 0 ≤ x ∧ x < 256

end Go.Proofs.Ytaefmhdpfmpijaa.Abs
