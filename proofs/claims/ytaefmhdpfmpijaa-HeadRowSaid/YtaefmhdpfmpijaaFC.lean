/- Types as the evaluator knows them, operands, and what an operation does to an abstract state: soundness of the operations that leave memory alone. -/
import Derived.Test.YtaefmhdpfmpijaaFB
import Derived.Lib.Strings
set_option linter.unusedVariables false
set_option linter.unusedSimpArgs false
namespace Go.Proofs.Ytaefmhdpfmpijaa.Abs
open Go

inductive TD where
  | int (k : IntKind) | bool | str
  | slice (e : TypeId) | arr (n : Nat) (e : TypeId) | struct (fs : List (Nat × TypeId)) | ptr (e : TypeId)
  | other

/-- A stretch of cells: from where on, how many, what they are. -/
structure Seg where
  o : Nat
  s : Nat
  cs : List AV

/-- The stretches tell what stands in the cells. -/
def SegsOk (E : Env) (segs : List Seg) (cells : Array Value) : Prop :=
  ∀ g ∈ segs, g.cs.length = g.s ∧ g.o + g.s ≤ cells.size ∧ ∀ (j : Nat) x, g.cs[j]? = some x → ∃ u, cells[g.o + j]? = some u ∧ RepV E x u

def tile : Nat → List Seg → Bool
  | _, [] => true
  | k, g :: r => Nat.beq k g.o && tile (k + g.s) r

/-- What the evaluator knows of a type; `segs`: a struct's or an array's zero value, in its parts. -/
structure TI where
  d : TD
  size : Nat
  bytes : Nat
  zero : AV
  segs : List Seg

abbrev Types := TypeId → Option TI

def TD.of : TD → TypeDesc → Prop
  | .int k, d => d = .int k
  | .bool, d => d = .bool
  | .str, d => d = .string
  | .slice e, d => d = .slice e
  | .arr n e, d => d = .array n e
  | .struct fs, d => ∃ a, d = .struct a ∧ a.toList.map (fun f => (f.offset, f.type)) = fs
  | .ptr e, d => d = .pointer e
  | .other, d => True

def TD.agg : TD → Bool
  | .arr _ _ | .struct _ => true
  | _ => false

def TDesc.isAgg : TypeDesc → Bool
  | .struct _ | .array _ _ => true
  | _ => false

structure TIok (P : Program) (t : TypeId) (i : TI) : Prop where
  und : ∃ d, P.underlying t = some d ∧ i.d.of d ∧ TDesc.isAgg d = i.d.agg
  info : ∃ f, P.info? t = some f ∧ f.size = i.size ∧ f.bytes = i.bytes ∧ ∃ z, f.zero = some z ∧ z.cells.size = i.size ∧ (i.zero = .top ∨ ∀ E, RepV E i.zero z) ∧
    (i.segs = [] ∨ (tile 0 i.segs = true ∧ (i.segs.map (·.s)).sum = z.cells.size ∧ (∀ E, SegsOk E i.segs z.cells) ∧
      match i.d with
      | .struct fs => i.segs.length = fs.length ∧ ∀ (k : Nat) (g : Seg), i.segs[k]? = some g → ∃ ft ff, fs[k]? = some (g.o, ft) ∧ P.info? ft = some ff ∧ ff.size = g.s
      | .arr _ e => ∃ fe, P.info? e = some fe ∧ ∀ (k : Nat) (g : Seg), i.segs[k]? = some g → g.o = k * fe.size ∧ g.s = fe.size
      | _ => False))

def TOK (P : Program) (T : Types) : Prop := ∀ t i, T t = some i → TIok P t i

def avS : Value → AV
  | .int k n => .int k n
  | .bool b => .bool b
  | .string s => .str (bytesOf s)
  | .slice none 0 0 => .nil
  | .pointer none => .nilp
  | _ => .top

def avC : Value → AV
  | .agg cs => .agg (cs.toList.map avS)
  | v => avS v

def evalO (env : Nat → AV) : Operand → AV
  | .tmp t => env t
  | .const v => avC v
  | .func f => .fn (.func f) []
  | .global g => match tabs g with
    | some (k, l) => .rop (l.map (AV.int k))
    | none => .top

theorem rep_avS (E : Env) (v : Value) : RepV E (avS v) v := by
  unfold avS
  split <;> simp [RepV]

theorem rep_map_avS (E : Env) : ∀ l : List Value, RepL E (l.map avS) l
  | [] => by simp [RepL]
  | v :: l => by simp only [List.map_cons, RepL]; exact ⟨v, l, rfl, rep_avS E v, rep_map_avS E l⟩

theorem rep_avC (E : Env) (v : Value) : RepV E (avC v) v := by
  unfold avC
  split
  · simp only [RepV]; exact ⟨_, rfl, rep_map_avS E _⟩
  · exact rep_avS E _

theorem rep_evalO {Z : Nat → Prop} {E : Env} {st : St} {a : Act} (S : Sim Z E st a) (x : Operand) : RepV E (evalO st.env x) (a.eval x) := by
  cases x with
  | tmp t => exact S.env t
  | const v => exact rep_avC E v
  | global g =>
    simp only [evalO]
    split
    · rename_i k l hg
      exact S.heap.tab.rop hg
    · simp [RepV]
  | func f => simp [evalO, RepV, Act.eval, RepL]

/-- A value, worked out as far as its head. -/
def force (x : AV) (K : AV → Prop) : Prop :=
  match x with
  | .top => K .top
  | .int k n => K (.int k n)
  | .bool b => K (.bool b)
  | .anyb => K .anyb
  | .str s => K (.str s)
  | .agg cs => K (.agg cs)
  | .tuple cs => K (.tuple cs)
  | .nil => K .nil
  | .ro len cs => K (.ro len cs)
  | .own len esz cs => K (.own len esz cs)
  | .ref cs => K (.ref cs)
  | .sl id off len esz full => K (.sl id off len esz full)
  | .ptr id off => K (.ptr id off)
  | .rop cs => K (.rop cs)
  | .nilp => K .nilp
  | .hid i => K (.hid i)
  | .fn f caps => K (.fn f caps)

theorem force_eq (x : AV) (K : AV → Prop) : force x K = K x := by cases x <;> rfl

/-- A list, worked out, and the heads of its parts. -/
def forceL (xs : List AV) (K : List AV → Prop) : Prop :=
  match xs with
  | [] => K []
  | x :: r => force x fun x' => forceL r fun r' => K (x' :: r')

theorem forceL_eq : ∀ (xs : List AV) (K : List AV → Prop), forceL xs K = K xs
  | [], _ => rfl
  | x :: r, K => by simp only [forceL, force_eq, forceL_eq r]

/-- A size, worked out. -/
def forceSz (n : Nat) (K : Nat → Prop) : Prop :=
  cond (Nat.beq n 1) (K 1) (cond (Nat.beq n 2) (K 2) (cond (Nat.beq n 3) (K 3) (cond (Nat.beq n 4) (K 4) (K n))))

theorem forceSz_eq (n : Nat) (K : Nat → Prop) : forceSz n K = K n := by
  unfold forceSz
  cases h1 : Nat.beq n 1
  · cases h2 : Nat.beq n 2
    · cases h3 : Nat.beq n 3
      · cases h4 : Nat.beq n 4
        · rfl
        · rw [Nat.eq_of_beq_eq_true h4]; rfl
      · rw [Nat.eq_of_beq_eq_true h3]; rfl
    · rw [Nat.eq_of_beq_eq_true h2]; rfl
  · rw [Nat.eq_of_beq_eq_true h1]; rfl

/-- The two ways of a test. -/
def ifB (b : Bool) (A B : Prop) : Prop := (b = true → A) ∧ (b = false → B)
theorem ifB_t {A B : Prop} (h : A) : ifB true A B := ⟨fun _ => h, (nofun)⟩
theorem ifB_f {A B : Prop} (h : B) : ifB false A B := ⟨(nofun), fun _ => h⟩
theorem ifB_split {b : Bool} {A B : Prop} (h : b = true → A) (k : b = false → B) : ifB b A B := ⟨h, k⟩
theorem ifB_dec {p : Prop} [d : Decidable p] {A B : Prop} (h : p → A) (k : ¬ p → B) : ifB (decide p) A B :=
  ⟨fun e => h (of_decide_eq_true e), fun e => k (of_decide_eq_false e)⟩

/-- A number that fits its kind, or is wrapped round: the prover's choice. -/
def fitP (k : IntKind) (n : Int) (K : Int → Prop) : Prop := (k.wrap n = n ∧ K n) ∨ K (k.wrap n)

def IntKind.lo : IntKind → Int
  | .i8 => -128 | .i16 => -32768 | .i32 => -2147483648 | .i64 => -9223372036854775808
  | _ => 0
def IntKind.hi : IntKind → Int
  | .i8 => 127 | .i16 => 32767 | .i32 => 2147483647 | .i64 => 9223372036854775807
  | .u8 => 255 | .u16 => 65535 | .u32 => 4294967295 | .u64 => 18446744073709551615

theorem wrap_in {k : IntKind} {n : Int} (h0 : IntKind.lo k ≤ n) (h1 : n ≤ IntKind.hi k) : k.wrap n = n := by
  cases k <;> simp only [IntKind.lo, IntKind.hi] at h0 h1 <;> simp [IntKind.wrap, IntKind.bits, IntKind.signed] <;> first | omega | (split <;> omega)

theorem fit_in {k : IntKind} {n : Int} {K : Int → Prop} (h0 : IntKind.lo k ≤ n) (h1 : n ≤ IntKind.hi k) (h : K n) : fitP k n K := .inl ⟨wrap_in h0 h1, h⟩
theorem fit_i64 {n : Int} {K : Int → Prop} (h : -9223372036854775808 ≤ n ∧ n ≤ 9223372036854775807) (hk : K n) : fitP .i64 n K := fit_in h.1 h.2 hk
theorem fit_u64 {n : Int} {K : Int → Prop} (h : 0 ≤ n ∧ n ≤ 18446744073709551615) (hk : K n) : fitP .u64 n K := fit_in h.1 h.2 hk
theorem fit_u32 {n : Int} {K : Int → Prop} (h : 0 ≤ n ∧ n ≤ 4294967295) (hk : K n) : fitP .u32 n K := fit_in h.1 h.2 hk
theorem fit_i32 {n : Int} {K : Int → Prop} (h : -2147483648 ≤ n ∧ n ≤ 2147483647) (hk : K n) : fitP .i32 n K := fit_in h.1 h.2 hk
theorem fit_u8 {n : Int} {K : Int → Prop} (h : 0 ≤ n ∧ n ≤ 255) (hk : K n) : fitP .u8 n K := fit_in h.1 h.2 hk
theorem fit_wrap {k : IntKind} {n : Int} {K : Int → Prop} (h : K (k.wrap n)) : fitP k n K := .inr h

theorem fitP.elim {k : IntKind} {n : Int} {K : Int → Prop} (h : fitP k n K) : K (k.wrap n) := by
  rcases h with ⟨e, h⟩ | h
  · rw [e]; exact h
  · exact h

def bytesLt : List Int → List Int → Bool
  | _, [] => false
  | [], _ :: _ => true
  | a :: x, b :: y => decide (a < b) || (a == b && bytesLt x y)

/-- A binary operation on two values. -/
def binP (op : BinOp) (x y : AV) (K : AV → Prop) : Prop :=
  match op, x, y with
  | .add, .int k a, .int _ b => fitP k (a + b) fun n => K (.int k n)
  | .sub, .int k a, .int _ b => fitP k (a - b) fun n => K (.int k n)
  | .mul, .int k a, .int _ b => fitP k (a * b) fun n => K (.int k n)
  | .quo, .int k a, .int _ b => b ≠ 0 ∧ fitP k (a.tdiv b) fun n => K (.int k n)
  | .rem, .int k a, .int _ b => b ≠ 0 ∧ K (.int k (a.tmod b))
  | .and, .int k a, .int _ b => K (.int k (bits .and k a b))
  | .or, .int k a, .int _ b => K (.int k (bits .or k a b))
  | .xor, .int k a, .int _ b => K (.int k (bits .xor k a b))
  | .andNot, .int k a, .int _ b => K (.int k (bits .andNot k a b))
  | .shl, .int k a, .int _ b => 0 ≤ b ∧ fitP k (a * 2 ^ min b.toNat k.bits) fun n => K (.int k n)
  | .shr, .int k a, .int _ b => 0 ≤ b ∧ K (.int k (a / 2 ^ min b.toNat k.bits))
  | .eql, .int _ a, .int _ b => K (.bool (decide (a = b)))
  | .neq, .int _ a, .int _ b => K (.bool (decide (a ≠ b)))
  | .lss, .int _ a, .int _ b => K (.bool (decide (a < b)))
  | .leq, .int _ a, .int _ b => K (.bool (decide (a ≤ b)))
  | .gtr, .int _ a, .int _ b => K (.bool (decide (b < a)))
  | .geq, .int _ a, .int _ b => K (.bool (decide (b ≤ a)))
  | .add, .str a, .str b => (a.length + b.length ≤ 9223372036854775807) ∧ K (.str (a ++ b))
  | .eql, .str a, .str b => K (.bool (decide (a = b)))
  | .neq, .str a, .str b => K (.bool (decide (a ≠ b)))
  | .lss, .str a, .str b => K (.bool (bytesLt a b))
  | .leq, .str a, .str b => K (.bool (bytesLt a b || decide (a = b)))
  | .gtr, .str a, .str b => K (.bool (!(bytesLt a b || decide (a = b))))
  | .geq, .str a, .str b => K (.bool (!bytesLt a b))
  | _, _, _ => False

theorem bytesOf_inj {a b : ByteArray} (h : bytesOf a = bytesOf b) : a = b := by
  have : a.data.toList = b.data.toList := by
    unfold bytesOf at h
    exact List.map_inj_right (f := fun x : UInt8 => (x.toNat : Int)) (fun x y e => UInt8.toNat_inj.1 (by exact_mod_cast e)) |>.1 h
  cases a; cases b
  simp only [ByteArray.mk.injEq]
  exact Array.toList_inj.1 this

theorem toList_data (a : ByteArray) : a.toList = a.data.toList := Go.Lib.toList_data a

theorem bytesLess_eq : ∀ (x y : List UInt8), Op.bytesLess x y = bytesLt (x.map fun u => (u.toNat : Int)) (y.map fun u => (u.toNat : Int))
  | [], [] => rfl
  | _ :: _, [] => by simp [Op.bytesLess, bytesLt]
  | [], _ :: _ => rfl
  | a :: x, b :: y => by
    simp only [Op.bytesLess, bytesLt, List.map_cons, bytesLess_eq x y]
    congr 1
    · simp [UInt8.lt_iff_toNat_lt]
    · congr 1
      rw [Bool.eq_iff_iff]
      simp only [beq_iff_eq]
      constructor
      · intro h; rw [h]
      · intro h; exact UInt8.toNat_inj.1 (by exact_mod_cast h)

end Go.Proofs.Ytaefmhdpfmpijaa.Abs
