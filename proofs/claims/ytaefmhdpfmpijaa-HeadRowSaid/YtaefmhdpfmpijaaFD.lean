/- Binary and unary operations, conversions of numbers, as the evaluator has them: sound. -/
import Derived.Test.YtaefmhdpfmpijaaFC
import Derived.Laws.StructEq
import Derived.Laws.Strings
import Derived.Laws.Cover1
set_option linter.unusedVariables false
set_option linter.unusedSimpArgs false
namespace Go.Proofs.Ytaefmhdpfmpijaa.Abs
open Go

/-- The value that a binary operation has, with its guard. -/
def binS (op : BinOp) (t : TypeId) (xo yo : Operand) (u v : Value) : Sem Value := do eqGuard op t xo yo u v; binOp op t u v

theorem str_eq_iff (a b : ByteArray) : (a.toList == b.toList) = decide (bytesOf a = bytesOf b) := by
  rw [Bool.eq_iff_iff]
  simp only [beq_iff_eq, decide_eq_true_eq]
  constructor
  · intro h
    unfold bytesOf
    rw [← toList_data, ← toList_data, h]
  · intro h
    rw [bytesOf_inj h]

theorem str_lt (a b : ByteArray) : Op.bytesLess a.toList b.toList = bytesLt (bytesOf a) (bytesOf b) := by
  rw [bytesLess_eq, toList_data, toList_data]; rfl

theorem bytesOf_append (a b : ByteArray) : bytesOf (a ++ b) = bytesOf a ++ bytesOf b := by
  simp [bytesOf]

theorem length_bytesOf (a : ByteArray) : (bytesOf a).length = a.size := by
  simp [bytesOf]

theorem shift_shl' (k yk : IntKind) (x y : Int) (h : 0 ≤ y) : Op.shift .shl k x yk y = Pure.pure (.int k (k.wrap (x * 2 ^ min y.toNat k.bits))) := by
  have : ¬ y < 0 := by omega
  simp [Op.shift, this]

theorem shift_shr' (k yk : IntKind) (x y : Int) (h : 0 ≤ y) : Op.shift .shr k x yk y = Pure.pure (.int k (x / 2 ^ min y.toNat k.bits)) := by
  have : ¬ y < 0 := by omega
  have hp : (0 : Int) ≤ 2 ^ min y.toNat k.bits := Int.pow_nonneg (by decide)
  simp [Op.shift, this, Int.fdiv_eq_ediv_of_nonneg _ hp]

theorem bin_int {P : Program} {op : BinOp} {t : TypeId} {xo yo : Operand} {k j : IntKind} {a b : Int} {w : World} {r : Value}
    (h : (binOp op t (.int k a) (.int j b)).run P w = .ok r w) : (binS op t xo yo (.int k a) (.int j b)).run P w = .ok r w := by
  simp [binS, eqGuard_at_int, h]

theorem bin_str {P : Program} {op : BinOp} {t : TypeId} {xo yo : Operand} {a b : ByteArray} {w : World} {r : Value}
    (h : (binOp op t (.string a) (.string b)).run P w = .ok r w) : (binS op t xo yo (.string a) (.string b)).run P w = .ok r w := by
  simp [binS, eqGuard_at_string, h]

theorem binOp_kind (op : BinOp) (t : TypeId) (k j : IntKind) (a b : Int) (h : k ≠ j) (hs : op ≠ .shl) (hr : op ≠ .shr) (P : Program) (w : World) :
    (binOp op t (.int k a) (.int j b)).run P w = .halt (.stuck "BinOp: operands of different kinds") w := by
  cases op <;> simp [binOp, h, stuck] <;> first | exact absurd rfl hs | exact absurd rfl hr

def kNo : IntKind → Nat
  | .i8 => 0 | .i16 => 1 | .i32 => 2 | .i64 => 3 | .u8 => 4 | .u16 => 5 | .u32 => 6 | .u64 => 7
def kEq (k j : IntKind) : Bool := Nat.beq (kNo k) (kNo j)
theorem kEq_eq {k j : IntKind} (h : kEq k j = true) : k = j := by
  cases k <;> cases j <;> first | rfl | (simp [kEq, kNo] at h)

def isShift : BinOp → Bool
  | .shl | .shr => true
  | _ => false

/-- Binary operations ask that both have one kind (but for the shifts). -/
def sameKind (op : BinOp) (x y : AV) : Bool :=
  match x, y with
  | .int k _, .int j _ => isShift op || kEq k j
  | _, _ => true

def binQ (op : BinOp) (x y : AV) (K : AV → Prop) : Prop := cond (sameKind op x y) (binP op x y K) False

theorem rep_int (E : Env) (k : IntKind) (n : Int) : RepV E (.int k n) (.int k n) := by simp only [RepV]
theorem rep_bool (E : Env) (b : Bool) : RepV E (.bool b) (.bool b) := by simp only [RepV]

set_option maxHeartbeats 1000000 in
theorem binP_sound {P : Program} {E : Env} {op : BinOp} {X Y : AV} {u v : Value} {K : AV → Prop} (hu : RepV E X u) (hv : RepV E Y v) (hq : binQ op X Y K) :
    ∃ x r, K x ∧ RepV E x r ∧ ∀ t xo yo w, (binS op t xo yo u v).run P w = .ok r w := by
  unfold binQ at hq
  cases hk : sameKind op X Y with
  | false => rw [hk] at hq; exact hq.elim
  | true =>
  rw [hk] at hq
  have h : binP op X Y K := hq
  clear hq
  unfold binP at h
  split at h <;> simp only [sameKind, isShift, Bool.false_or, Bool.true_or] at hk <;> (try (cases kEq_eq hk))
  all_goals (try simp only [RepV] at hu hv)
  · subst hu; subst hv; exact ⟨_, _, h.elim, rep_int E _ _, fun t xo yo w => bin_int (by simp [binOp_add, Op.intArith])⟩
  · subst hu; subst hv; exact ⟨_, _, h.elim, rep_int E _ _, fun t xo yo w => bin_int (by simp [binOp_sub, Op.intArith])⟩
  · subst hu; subst hv; exact ⟨_, _, h.elim, rep_int E _ _, fun t xo yo w => bin_int (by simp [binOp_mul, Op.intArith])⟩
  · subst hu; subst hv; exact ⟨_, _, h.2.elim, rep_int E _ _, fun t xo yo w => bin_int (by simp [binOp_quo, Op.intDiv, h.1])⟩
  · subst hu; subst hv; exact ⟨_, _, h.2, rep_int E _ _, fun t xo yo w => bin_int (by simp [binOp_rem, Op.intDiv, h.1])⟩
  · subst hu; subst hv; exact ⟨_, _, h, rep_int E _ _, fun t xo yo w => bin_int (by simp [binOp_and, intBits_and])⟩
  · subst hu; subst hv; exact ⟨_, _, h, rep_int E _ _, fun t xo yo w => bin_int (by simp [binOp_or, intBits_or])⟩
  · subst hu; subst hv; exact ⟨_, _, h, rep_int E _ _, fun t xo yo w => bin_int (by simp [binOp_xor, intBits_xor])⟩
  · subst hu; subst hv; exact ⟨_, _, h, rep_int E _ _, fun t xo yo w => bin_int (by simp [binOp_andNot, intBits_andNot])⟩
  · subst hu; subst hv; exact ⟨_, _, h.2.elim, rep_int E _ _, fun t xo yo w => bin_int (by simp [binOp_shl, shift_shl' _ _ _ _ h.1])⟩
  · subst hu; subst hv; exact ⟨_, _, h.2, rep_int E _ _, fun t xo yo w => bin_int (by simp [binOp_shr, shift_shr' _ _ _ _ h.1])⟩
  · subst hu; subst hv; exact ⟨_, _, h, rep_bool E _, fun t xo yo w => bin_int (by simp [binOp_eql]; first | rfl | exact Bool.eq_iff_iff.2 (by simp))⟩
  · subst hu; subst hv; exact ⟨_, _, h, rep_bool E _, fun t xo yo w => bin_int (by simp [binOp_neq]; first | rfl | exact Bool.eq_iff_iff.2 (by simp))⟩
  · subst hu; subst hv; exact ⟨_, _, h, rep_bool E _, fun t xo yo w => bin_int (by simp [binOp_lss])⟩
  · subst hu; subst hv; exact ⟨_, _, h, rep_bool E _, fun t xo yo w => bin_int (by simp [binOp_leq])⟩
  · subst hu; subst hv; exact ⟨_, _, h, rep_bool E _, fun t xo yo w => bin_int (by simp [binOp_gtr])⟩
  · subst hu; subst hv; exact ⟨_, _, h, rep_bool E _, fun t xo yo w => bin_int (by simp [binOp_geq])⟩
  · obtain ⟨a, rfl, rfl⟩ := hu; obtain ⟨b, rfl, rfl⟩ := hv
    simp only [length_bytesOf] at h
    refine ⟨_, .string (a ++ b), h.2, ?_, fun t xo yo w => bin_str ?_⟩
    · simp only [RepV]; exact ⟨_, rfl, bytesOf_append a b⟩
    · have h1 : ¬ (((a.size + b.size : Nat) : Int) > IntKind.i64.max) := by simp only [IntKind.max_i64]; omega
      simp only [binOp, Op.stringOp, if_neg h1, Sem.run_pure]
  · obtain ⟨a, rfl, rfl⟩ := hu; obtain ⟨b, rfl, rfl⟩ := hv
    exact ⟨_, _, h, rep_bool E _, fun t xo yo w => bin_str (by simp [binOp, Op.stringOp, str_eq_iff])⟩
  · obtain ⟨a, rfl, rfl⟩ := hu; obtain ⟨b, rfl, rfl⟩ := hv
    exact ⟨_, _, h, rep_bool E _, fun t xo yo w => bin_str (by simp [binOp, Op.stringOp, str_eq_iff])⟩
  · obtain ⟨a, rfl, rfl⟩ := hu; obtain ⟨b, rfl, rfl⟩ := hv
    exact ⟨_, _, h, rep_bool E _, fun t xo yo w => bin_str (by simp [binOp, Op.stringOp, str_lt])⟩
  · obtain ⟨a, rfl, rfl⟩ := hu; obtain ⟨b, rfl, rfl⟩ := hv
    exact ⟨_, _, h, rep_bool E _, fun t xo yo w => bin_str (by simp [binOp, Op.stringOp, str_eq_iff, str_lt])⟩
  · obtain ⟨a, rfl, rfl⟩ := hu; obtain ⟨b, rfl, rfl⟩ := hv
    exact ⟨_, _, h, rep_bool E _, fun t xo yo w => bin_str (by simp [binOp, Op.stringOp, str_eq_iff, str_lt])⟩
  · obtain ⟨a, rfl, rfl⟩ := hu; obtain ⟨b, rfl, rfl⟩ := hv
    exact ⟨_, _, h, rep_bool E _, fun t xo yo w => bin_str (by simp [binOp, Op.stringOp, str_eq_iff, str_lt])⟩
  · exact h.elim

end Go.Proofs.Ytaefmhdpfmpijaa.Abs
