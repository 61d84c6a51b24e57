/- Texts TB to FT, merged. -/
import Derived.WalkKit
import Derived.Laws.Rows
import Derived.Laws.Cells
import Derived.Lib.Strings
import Derived.Laws.StructEq
import Derived.Laws.Strings
import Derived.Laws.Cover1
import Derived.Laws.Slices
import Derived.Laws.Tables
import Derived.Laws.BytesString
import Derived.Laws.Small
import Derived.Laws.Cover3
section
namespace Go.Proofs.YtelnlfhdaelfdaaDoor.Abs
open Go
def utf8First : List Int := List.replicate 128 240 ++ List.replicate 66 241 ++ List.replicate 30 2 ++ [19] ++ List.replicate 12 3 ++ [35, 3, 3, 52, 4, 4, 4, 68] ++ List.replicate 11 241
def utf8Ranges : List Int := [128, 191, 160, 191, 128, 159, 144, 191, 128, 143] ++ List.replicate 22 0
def tabs (g : Nat) : Option (IntKind × List Int) := cond (Nat.beq g 1) (some (.u8, utf8First)) (cond (Nat.beq g 2) (some (.u8, utf8Ranges)) none)
end Go.Proofs.YtelnlfhdaelfdaaDoor.Abs
end
section
set_option linter.unusedVariables false
namespace Go.Proofs.YtelnlfhdaelfdaaDoor.Abs
open Go
/-- Abstract values. `own`, `ref` stand at the borders of calls alone; `sl`, `ptr` name blocks of the abstract heap. -/
inductive AV where
  | top
  | int (k : IntKind) (n : Int)
  | bool (b : Bool)
  | anyb
  | str (s : List Int)
  | agg (cs : List AV)
  | tuple (vs : List AV)
  | nil
  | ro (len : Nat) (cs : List AV)
  | own (len esz : Nat) (cs : List AV)
  | ref (cs : List AV)
  | sl (id off len esz : Nat) (full : Bool)
  | ptr (id off : Nat)
  | rop (cs : List AV)
  | nilp
  | hid (i : Nat)
  | fn (f : Fn) (caps : List AV)
  deriving Inhabited
/-- What a reading is relative to: the holes' values, the blocks' places, the blocks that read-only memory keeps clear of, the world. -/
structure Env where
  η : Nat → Value
  ρ : Nat → Option Nat
  V : Nat → Prop
  w : World
/-- Not a struct, an array or a tuple: it fits a cell. -/
def scalar : Value → Bool
  | .agg _ | .tuple _ => false
  | _ => true
def bytesOf (ba : ByteArray) : List Int := ba.data.toList.map (fun x => (x.toNat : Int))
mutual
def RepV (E : Env) : AV → Value → Prop
  | .top, _ => True
  | .int k n, v => v = .int k n
  | .bool b, v => v = .bool b
  | .anyb, v => ∃ b, v = .bool b
  | .str s, v => ∃ ba, v = .string ba ∧ bytesOf ba = s
  | .agg cs, v => ∃ vs : Array Value, v = .agg vs ∧ RepL E cs vs.toList
  | .tuple cs, v => ∃ vs : Array Value, v = .tuple vs ∧ RepL E cs vs.toList
  | .nil, v => v = .slice none 0 0
  | .ro len cs, v => ∃ a cap, v = .slice a len cap ∧ len ≤ cap ∧ (cs = [] ∨ ∃ b off, a = some ⟨b, off, none⟩ ∧ ¬ E.V b ∧ RepM E cs b off)
  | .own _ _ _, _ => False
  | .ref _, _ => False
  | .sl id off len esz full, v => ∃ a cap, v = .slice a len cap ∧ len ≤ cap ∧ (full = true → cap = len) ∧
      (cap = 0 ∨ ∃ n c e fr, E.ρ id = some n ∧ a = some ⟨n, off, none⟩ ∧ E.w.heap[n]? = some (.cells c e fr) ∧ off + cap * esz ≤ c.size)
  | .ptr id off, v => ∃ n, E.ρ id = some n ∧ v = .pointer (some ⟨n, off, none⟩)
  | .rop cs, v => ∃ b off, v = .pointer (some ⟨b, off, none⟩) ∧ (cs = [] ∨ ¬ E.V b ∧ RepM E cs b off)
  | .nilp, v => v = .pointer none
  | .hid i, v => v = E.η i
  | .fn f cs, v => ∃ vs : Array Value, v = .func f #[] vs ∧ RepL E cs vs.toList
def RepL (E : Env) : List AV → List Value → Prop
  | [], vs => vs = []
  | c :: cs, vs => ∃ u us, vs = u :: us ∧ RepV E c u ∧ RepL E cs us
def RepM (E : Env) : List AV → Nat → Nat → Prop
  | [], _, _ => True
  | c :: cs, b, off => (∃ u, E.w.cell? ⟨b, off, none⟩ = some u ∧ RepV E c u) ∧ RepM E cs b (off + 1)
end
/-- From w to w': blocks of W alone have changed, none has lost or won a cell; new ones may have come. -/
structure Evo (W : Nat → Prop) (w w' : World) : Prop where
  os : w'.os = w.os
  tape : w'.tape = w.tape
  output : w'.output = w.output
  size : w.heap.size ≤ w'.heap.size
  same : ∀ b, b < w.heap.size → ¬ W b → w'.heap[b]? = w.heap[b]?
  kept : ∀ (b : Nat) (c : Array Value) (e : TypeId) (fr : Nat × Nat), w.heap[b]? = some (.cells c e fr) → ∃ (c' : Array Value) (fr' : Nat × Nat), w'.heap[b]? = some (.cells c' e fr') ∧ c'.size = c.size
theorem Evo.refl (W : Nat → Prop) (w : World) : Evo W w w := ⟨rfl, rfl, rfl, Nat.le_refl _, fun _ _ _ => rfl, fun _ c _ fr h => ⟨c, fr, h, rfl⟩⟩
theorem Evo.trans {W W' : Nat → Prop} {a b c : World} (h : Evo W a b) (k : Evo W' b c) (hw : ∀ x, x < a.heap.size → W' x → W x) : Evo W a c where
  os := k.os.trans h.os
  tape := k.tape.trans h.tape
  output := k.output.trans h.output
  size := Nat.le_trans h.size k.size
  same := fun x hx hn => (k.same x (Nat.lt_of_lt_of_le hx h.size) (fun hh => hn (hw x hx hh))).trans (h.same x hx hn)
  kept := fun x c e fr hc => by
    obtain ⟨c1, fr1, h1, s1⟩ := h.kept x c e fr hc
    obtain ⟨c2, fr2, h2, s2⟩ := k.kept x c1 e fr1 h1
    exact ⟨c2, fr2, h2, s2.trans s1⟩
theorem Evo.mono {W W' : Nat → Prop} {a b : World} (h : Evo W a b) (hw : ∀ x, W x → W' x) : Evo W' a b :=
  ⟨h.os, h.tape, h.output, h.size, fun x hx hn => h.same x hx (fun hh => hn (hw x hh)), h.kept⟩
theorem Evo.below {w w' : World} (h : Evo (fun _ => False) w w') : Go.RowKit.Below w.heap.size w w' :=
  ⟨h.os, h.tape, h.output, h.size, fun k hk => h.same k hk (fun x => x)⟩
theorem Evo.drawn (W : Nat → Prop) (w : World) (n : Nat) : Evo W w { w with drawn := n } :=
  ⟨rfl, rfl, rfl, Nat.le_refl _, fun _ _ _ => rfl, fun _ c _ fr h => ⟨c, fr, h, rfl⟩⟩
theorem Evo.alloc (W : Nat → Prop) (w : World) (o : Obj) : Evo W w (w.alloc o) := by
  have key : ∀ b, b < w.heap.size → (w.alloc o).heap[b]? = w.heap[b]? := fun b hb => Go.heap_alloc_old w o hb
  refine ⟨rfl, rfl, rfl, by simp, fun b hb _ => key b hb, fun b c e fr h => ?_⟩
  have hb : b < w.heap.size := by
    rcases Nat.lt_or_ge b w.heap.size with h' | h'
    · exact h'
    · simp [Array.getElem?_eq_none h'] at h
  exact ⟨c, fr, by rw [key b hb]; exact h, rfl⟩
theorem Evo.setCell (W : Nat → Prop) (w : World) (a : Addr) (v : Value) (ha : W a.block) : Evo W w (w.setCell a v) := by
  refine ⟨rfl, rfl, rfl, by simp, fun b hb hn => Go.heap_setCell_other w a b v (fun e => hn (e ▸ ha)), fun b c e fr h => ?_⟩
  by_cases hb : b = a.block
  · subst hb
    simp only [World.setCell, Array.getElem?_modify, if_true, h, Option.map_some]
    exact ⟨_, _, rfl, by split <;> simp⟩
  · exact ⟨c, fr, by rw [heap_setCell_other w a b v hb]; exact h, rfl⟩
theorem cell_of_same {w w' : World} {a : Addr} (h : w'.heap[a.block]? = w.heap[a.block]?) : w'.cell? a = w.cell? a := by
  simp [World.cell?, h]
theorem lt_of_cells {w : World} {b : Nat} {c : Array Value} {e : TypeId} {fr : Nat × Nat} (h : w.heap[b]? = some (.cells c e fr)) : b < w.heap.size := by
  rcases Nat.lt_or_ge b w.heap.size with h' | h'
  · exact h'
  · simp [Array.getElem?_eq_none h'] at h
/-- E' is a later state than E. -/
structure Later (E E' : Env) : Prop where
  η : E'.η = E.η
  ρ : ∀ id n, E.ρ id = some n → E'.ρ id = some n
  lt : E.w.heap.size ≤ E'.w.heap.size
  kept : ∀ (b : Nat) (c : Array Value) (e : TypeId) (fr : Nat × Nat), E.w.heap[b]? = some (.cells c e fr) → ∃ (c' : Array Value) (fr' : Nat × Nat), E'.w.heap[b]? = some (.cells c' e fr') ∧ c'.size = c.size
  same : ∀ b, b < E.w.heap.size → ¬ E.V b → E'.w.heap[b]? = E.w.heap[b]?
  V : ∀ b, b < E.w.heap.size → E'.V b → E.V b
theorem Later.refl (E : Env) : Later E E := ⟨rfl, fun _ _ h => h, Nat.le_refl _, fun _ c _ fr h => ⟨c, fr, h, rfl⟩, fun _ _ _ => rfl, fun _ _ h => h⟩
theorem Later.trans {A B C : Env} (h : Later A B) (k : Later B C) : Later A C where
  η := k.η.trans h.η
  ρ := fun id n hh => k.ρ id n (h.ρ id n hh)
  lt := Nat.le_trans h.lt k.lt
  kept := fun b c e fr hc => by
    obtain ⟨c1, fr1, h1, s1⟩ := h.kept b c e fr hc
    obtain ⟨c2, fr2, h2, s2⟩ := k.kept b c1 e fr1 h1
    exact ⟨c2, fr2, h2, s2.trans s1⟩
  same := fun b hb hn => (k.same b (Nat.lt_of_lt_of_le hb h.lt) (fun hh => hn (h.V b hb hh))).trans (h.same b hb hn)
  V := fun b hb hh => h.V b hb (k.V b (Nat.lt_of_lt_of_le hb h.lt) hh)
theorem Later.of_evo {E E' : Env} {W : Nat → Prop} (ev : Evo W E.w E'.w) (hη : E'.η = E.η) (hρ : ∀ id n, E.ρ id = some n → E'.ρ id = some n)
    (hW : ∀ b, W b → E.V b) (hV : ∀ b, b < E.w.heap.size → E'.V b → E.V b) : Later E E' :=
  ⟨hη, hρ, ev.size, ev.kept, fun b hb hn => ev.same b hb (fun h => hn (hW b h)), hV⟩
mutual
theorem RepV.later {E E' : Env} (L : Later E E') : ∀ (x : AV) (v : Value), RepV E x v → RepV E' x v
  | .top, _, _ => by simp [RepV]
  | .int k n, v, h => by simpa [RepV] using h
  | .bool b, v, h => by simpa [RepV] using h
  | .anyb, v, h => by simpa [RepV] using h
  | .str s, v, h => by simpa [RepV] using h
  | .agg cs, v, h => by
    simp only [RepV] at h ⊢
    obtain ⟨vs, rfl, hl⟩ := h
    exact ⟨vs, rfl, RepL.later L cs _ hl⟩
  | .tuple cs, v, h => by
    simp only [RepV] at h ⊢
    obtain ⟨vs, rfl, hl⟩ := h
    exact ⟨vs, rfl, RepL.later L cs _ hl⟩
  | .nil, v, h => by simpa [RepV] using h
  | .ro len cs, v, h => by
    simp only [RepV] at h ⊢
    obtain ⟨a, cap, rfl, hl, hc⟩ := h
    refine ⟨a, cap, rfl, hl, ?_⟩
    rcases hc with hc | ⟨b, off, rfl, hV, hm⟩
    · exact .inl hc
    · cases cs with
      | nil => exact .inl rfl
      | cons c cs =>
        have hb : b < E.w.heap.size := by
          simp only [RepM] at hm
          obtain ⟨⟨u, hu, _⟩, _⟩ := hm
          exact World.block_lt_of_cell? _ _ hu
        exact .inr ⟨b, off, rfl, fun hh => hV (L.V b hb hh), RepM.later L (c :: cs) b off hV hm⟩
  | .own _ _ _, _, h => by simp [RepV] at h
  | .ref _, _, h => by simp [RepV] at h
  | .sl id off len esz full, v, h => by
    simp only [RepV] at h ⊢
    obtain ⟨a, cap, rfl, hl, hf, hc⟩ := h
    refine ⟨a, cap, rfl, hl, hf, ?_⟩
    rcases hc with hc | ⟨n, c, e, fr, hn, ha, hh, hs⟩
    · exact .inl hc
    · obtain ⟨c', fr', h1, h2⟩ := L.kept n c e fr hh
      exact .inr ⟨n, c', e, fr', L.ρ id n hn, ha, h1, by omega⟩
  | .ptr id off, v, h => by
    simp only [RepV] at h ⊢
    obtain ⟨n, hn, rfl⟩ := h
    exact ⟨n, L.ρ id n hn, rfl⟩
  | .rop cs, v, h => by
    simp only [RepV] at h ⊢
    obtain ⟨b, off, rfl, hc⟩ := h
    refine ⟨b, off, rfl, ?_⟩
    rcases hc with hc | ⟨hV, hm⟩
    · exact .inl hc
    · cases cs with
      | nil => exact .inl rfl
      | cons c cs =>
        have hb : b < E.w.heap.size := by
          simp only [RepM] at hm
          obtain ⟨⟨u, hu, _⟩, _⟩ := hm
          exact World.block_lt_of_cell? _ _ hu
        exact .inr ⟨fun hh => hV (L.V b hb hh), RepM.later L (c :: cs) b off hV hm⟩
  | .nilp, v, h => by simpa [RepV] using h
  | .hid i, v, h => by simpa [RepV, L.η] using h
  | .fn f cs, v, h => by
    simp only [RepV] at h ⊢
    obtain ⟨vs, rfl, hl⟩ := h
    exact ⟨vs, rfl, RepL.later L cs _ hl⟩
theorem RepL.later {E E' : Env} (L : Later E E') : ∀ (cs : List AV) (vs : List Value), RepL E cs vs → RepL E' cs vs
  | [], vs, h => by simpa [RepL] using h
  | c :: cs, vs, h => by
    simp only [RepL] at h ⊢
    obtain ⟨u, us, rfl, h1, h2⟩ := h
    exact ⟨u, us, rfl, RepV.later L c u h1, RepL.later L cs us h2⟩
theorem RepM.later {E E' : Env} (L : Later E E') : ∀ (cs : List AV) (b off : Nat), ¬ E.V b → RepM E cs b off → RepM E' cs b off
  | [], _, _, _, _ => by simp [RepM]
  | c :: cs, b, off, hV, h => by
    simp only [RepM] at h ⊢
    obtain ⟨⟨u, hu, hr⟩, h2⟩ := h
    have hb : b < E.w.heap.size := World.block_lt_of_cell? _ _ hu
    exact ⟨⟨u, (cell_of_same (a := ⟨b, off, none⟩) (L.same b hb hV)).trans hu, RepV.later L c u hr⟩, RepM.later L cs b (off + 1) hV h2⟩
end
/-- The tables are laid: nobody writes them. -/
def TabOk (E : Env) : Prop := ∀ g k l, tabs g = some (k, l) → g < E.w.heap.size ∧ ¬ E.V g ∧ ∀ (j : Nat) x, l[j]? = some x → E.w.cell? ⟨g, j, none⟩ = some (.int k x)
theorem TabOk.later {E E' : Env} (h : TabOk E) (L : Later E E') : TabOk E' := by
  intro g k l hg
  obtain ⟨h1, h2, h3⟩ := h g k l hg
  refine ⟨Nat.lt_of_lt_of_le h1 L.lt, fun hv => h2 (L.V g h1 hv), fun j x hx => ?_⟩
  rw [← h3 j x hx]
  exact cell_of_same (a := ⟨g, j, none⟩) (L.same g h1 h2)
theorem TabOk.same {E E' : Env} (h : TabOk E) (hw : E'.w = E.w) (hV : ∀ b, E'.V b → E.V b) : TabOk E' := by
  intro g k l hg
  obtain ⟨h1, h2, h3⟩ := h g k l hg
  rw [hw]
  exact ⟨h1, fun hv => h2 (hV g hv), h3⟩
theorem tab_repM {E : Env} {k : IntKind} {g : Nat} : ∀ (l : List Int) (off : Nat), (∀ (j : Nat) x, l[j]? = some x → E.w.cell? ⟨g, off + j, none⟩ = some (.int k x)) → RepM E (l.map (AV.int k)) g off
  | [], off, h => by simp [RepM]
  | x :: l, off, h => by
    simp only [List.map_cons, RepM]
    refine ⟨⟨_, by simpa using h 0 x (by simp), by simp [RepV]⟩, tab_repM l (off + 1) fun j y hy => ?_⟩
    have := h (j + 1) y (by simpa using hy)
    rw [show off + 1 + j = off + (j + 1) by omega]
    exact this
theorem TabOk.rop {E : Env} (h : TabOk E) {g : Nat} {k : IntKind} {l : List Int} (hg : tabs g = some (k, l)) : RepV E (.rop (l.map (AV.int k))) (.pointer (some ⟨g, 0, none⟩)) := by
  obtain ⟨h1, h2, h3⟩ := h g k l hg
  simp only [RepV]
  exact ⟨g, 0, rfl, .inr ⟨h2, tab_repM l 0 fun j x hx => by rw [Nat.zero_add]; exact h3 j x hx⟩⟩
end Go.Proofs.YtelnlfhdaelfdaaDoor.Abs
end
section
set_option linter.unusedVariables false
namespace Go.Proofs.YtelnlfhdaelfdaaDoor.Abs
open Go
abbrev Heap := Nat → Option (List AV)
def setH (H : Heap) (id : Nat) (b : Option (List AV)) : Heap := fun i => cond (Nat.beq i id) b (H i)
structure St where
  env : Nat → AV
  heap : Heap
  nx : Nat
  n : Nat
def setE (env : Nat → AV) (d : Nat) (x : AV) : Nat → AV := fun t => cond (Nat.beq t d) x (env t)
/-- The blocks that may be written. -/
def Wr (ρ : Nat → Option Nat) (H : Heap) (b : Nat) : Prop := ∃ id cs, H id = some cs ∧ ρ id = some b
def BlkOk (E : Env) (n : Nat) (cs : List AV) : Prop :=
  ∃ (c : Array Value) (e : TypeId) (fr : Nat × Nat), E.w.heap[n]? = some (.cells c e fr) ∧ (∀ j, j < c.size → ¬ (fr.1 ≤ j ∧ j < fr.2)) ∧ cs.length ≤ c.size ∧
    ∀ (j : Nat) x, cs[j]? = some x → ∃ u, c[j]? = some u ∧ RepV E x u
structure HeapRep (Z : Nat → Prop) (E : Env) (H : Heap) (nx : Nat) : Prop where
  blk : ∀ id cs, H id = some cs → (E.ρ id = none ∧ cs = []) ∨ ∃ n, E.ρ id = some n ∧ BlkOk E n cs
  inj : ∀ id id' n, H id ≠ none → H id' ≠ none → E.ρ id = some n → E.ρ id' = some n → id = id'
  V : ∀ b, E.V b ↔ Z b ∨ Wr E.ρ H b
  apart : ∀ id n, H id ≠ none → E.ρ id = some n → ¬ Z n
  fresh : ∀ id, nx ≤ id → E.ρ id = none ∧ H id = none
  one : ∀ i, scalar (E.η i) = true
  old : ∀ id n, E.ρ id = some n → n < E.w.heap.size
  zold : ∀ b, Z b → b < E.w.heap.size
  tab : TabOk E
structure Sim (Z : Nat → Prop) (E : Env) (st : St) (a : Act) : Prop where
  env : ∀ t, RepV E (st.env t) (a.tmps.getD t undef)
  sz : a.tmps.size = st.n
  dfr : a.defers = []
  heap : HeapRep Z E st.heap st.nx
/-- What an operation leaves: a value x, the heap H'. -/
structure After (Z : Nat → Prop) (E : Env) (H : Heap) (x : AV) (H' : Heap) (nx' : Nat) (v : Value) (E' : Env) : Prop where
  later : Later E E'
  evo : Evo (Wr E.ρ H) E.w E'.w
  rep : RepV E' x v
  heap : HeapRep Z E' H' nx'
theorem setE_same (env : Nat → AV) (d : Nat) (x : AV) : setE env d x d = x := by simp [setE]
theorem setE_ne (env : Nat → AV) {d t : Nat} (x : AV) (h : t ≠ d) : setE env d x t = env t := by
  have : Nat.beq t d = false := by
    cases hh : Nat.beq t d
    · rfl
    · exact absurd (Nat.eq_of_beq_eq_true hh) h
  simp [setE, this]
theorem setH_same (H : Heap) (d : Nat) (x : Option (List AV)) : setH H d x d = x := by simp [setH]
theorem setH_ne (H : Heap) {d t : Nat} (x : Option (List AV)) (h : t ≠ d) : setH H d x t = H t := by
  have : Nat.beq t d = false := by
    cases hh : Nat.beq t d
    · rfl
    · exact absurd (Nat.eq_of_beq_eq_true hh) h
  simp [setH, this]
theorem Sim.put {Z : Nat → Prop} {E : Env} {st : St} {a : Act} (S : Sim Z E st a) {d : Nat} {x : AV} {v : Value} (hd : d < st.n) (hr : RepV E x v) :
    Sim Z E { st with env := setE st.env d x } (a.put (some d) v) where
  env := fun t => by
    by_cases h : t = d
    · subst h
      simp only [setE_same, Act.put]
      have : t < a.tmps.size := by rw [S.sz]; exact hd
      simpa [this] using hr
    · simp only [setE_ne _ _ h, Act.put]
      have := S.env t
      rwa [Array.getD_eq_getD_getElem?, Array.getElem?_setIfInBounds_ne (Ne.symm h), ← Array.getD_eq_getD_getElem?]
  sz := by simp [Act.put, S.sz]
  dfr := by simp [Act.put, S.dfr]
  heap := S.heap
theorem Sim.next {Z : Nat → Prop} {E E' : Env} {st : St} {a : Act} (S : Sim Z E st a) {d : Nat} {x : AV} {H' : Heap} {nx' : Nat} {v : Value}
    (hd : d < st.n) (A : After Z E st.heap x H' nx' v E') : Sim Z E' { st with env := setE st.env d x, heap := H', nx := nx' } (a.put (some d) v) := by
  have S' : Sim Z E' { st with heap := H', nx := nx' } a := ⟨fun t => RepV.later A.later _ _ (S.env t), S.sz, S.dfr, A.heap⟩
  exact S'.put hd A.rep
theorem Sim.next' {Z : Nat → Prop} {E E' : Env} {st : St} {a : Act} (S : Sim Z E st a) {x : AV} {H' : Heap} {nx' : Nat} {v : Value}
    (A : After Z E st.heap x H' nx' v E') : Sim Z E' { st with heap := H', nx := nx' } (a.put none v) :=
  ⟨fun t => RepV.later A.later _ _ (S.env t), S.sz, S.dfr, A.heap⟩
/-- Nothing happens to memory. -/
theorem After.pure {Z : Nat → Prop} {E : Env} {H : Heap} {nx : Nat} {x : AV} {v : Value} (h : HeapRep Z E H nx) (hr : RepV E x v) : After Z E H x H nx v E :=
  ⟨Later.refl E, Evo.refl _ _, hr, h⟩
theorem wr_V {Z : Nat → Prop} {E : Env} {H : Heap} {nx : Nat} (h : HeapRep Z E H nx) : ∀ b, Wr E.ρ H b → E.V b := fun b hb => (h.V b).2 (.inr hb)
theorem HeapRep.blk_later {Z : Nat → Prop} {E E' : Env} {H : Heap} {nx : Nat} (h : HeapRep Z E H nx) (L : Later E E') {id : Nat} {cs : List AV} {n : Nat}
    (hn : E.ρ id = some n) (hb : BlkOk E n cs) (same : E'.w.heap[n]? = E.w.heap[n]?) : BlkOk E' n cs := by
  obtain ⟨c, e, fr, h1, h2, h3, h4⟩ := hb
  exact ⟨c, e, fr, same.trans h1, h2, h3, fun j x hx => let ⟨u, hu, hr⟩ := h4 j x hx; ⟨u, hu, RepV.later L x u hr⟩⟩
/-- A draw of the tape. -/
def Env.drawn (E : Env) (n : Nat) : Env := { E with w := { E.w with drawn := n } }
theorem later_drawn (E : Env) (n : Nat) : Later E (E.drawn n) :=
  ⟨rfl, fun _ _ h => h, Nat.le_refl _, fun _ c _ fr h => ⟨c, fr, h, rfl⟩, fun _ _ _ => rfl, fun _ _ h => h⟩
theorem HeapRep.drawn {Z : Nat → Prop} {E : Env} {H : Heap} {nx : Nat} (h : HeapRep Z E H nx) (n : Nat) : HeapRep Z (E.drawn n) H nx where
  blk := fun id cs hh => by
    rcases h.blk id cs hh with h0 | ⟨m, hm, hb⟩
    · exact .inl h0
    · exact .inr ⟨m, hm, h.blk_later (later_drawn E n) hm hb rfl⟩
  inj := h.inj
  V := h.V
  apart := h.apart
  fresh := h.fresh
  one := h.one
  old := h.old
  zold := h.zold
  tab := h.tab.later (later_drawn E n)
theorem Sim.drawn {Z : Nat → Prop} {E : Env} {st : St} {a : Act} (S : Sim Z E st a) (n : Nat) : Sim Z (E.drawn n) st a :=
  ⟨fun t => RepV.later (later_drawn E n) _ _ (S.env t), S.sz, S.dfr, S.heap.drawn n⟩
/-- A new block. -/
def Env.alloc (E : Env) (id : Nat) (o : Obj) : Env :=
  { E with ρ := fun i => cond (Nat.beq i id) (some E.w.heap.size) (E.ρ i), V := fun b => E.V b ∨ b = E.w.heap.size, w := E.w.alloc o }
theorem alloc_ρ_same (E : Env) (id : Nat) (o : Obj) : (E.alloc id o).ρ id = some E.w.heap.size := by simp [Env.alloc]
theorem alloc_ρ_ne (E : Env) {id i : Nat} (o : Obj) (h : i ≠ id) : (E.alloc id o).ρ i = E.ρ i := by
  have : Nat.beq i id = false := by
    cases hh : Nat.beq i id
    · rfl
    · exact absurd (Nat.eq_of_beq_eq_true hh) h
  simp [Env.alloc, this]
theorem later_alloc (E : Env) {id : Nat} (o : Obj) (hid : E.ρ id = none) : Later E (E.alloc id o) := by
  refine ⟨rfl, fun i n h => ?_, by simp [Env.alloc], fun b c e fr h => ?_, fun b hb _ => ?_, fun b hb h => ?_⟩
  · have : i ≠ id := fun e => by rw [e, hid] at h; cases h
    rw [alloc_ρ_ne E o this]; exact h
  · exact ⟨c, fr, by rw [← h]; exact Go.heap_alloc_old _ _ (lt_of_cells h), rfl⟩
  · exact Go.heap_alloc_old _ _ hb
  · rcases h with h | h
    · exact h
    · omega
theorem wr_setH_new {E : Env} {H : Heap} {id : Nat} {o : Obj} {cs : List AV} (hid : E.ρ id = none) (b : Nat) :
    Wr (E.alloc id o).ρ (setH H id (some cs)) b ↔ Wr E.ρ H b ∨ b = E.w.heap.size := by
  constructor
  · rintro ⟨i, ds, h1, h2⟩
    by_cases hi : i = id
    · subst hi
      rw [alloc_ρ_same] at h2
      exact .inr (by injection h2 with h2; exact h2.symm)
    · rw [setH_ne _ _ hi] at h1
      rw [alloc_ρ_ne _ _ hi] at h2
      exact .inl ⟨i, ds, h1, h2⟩
  · rintro (⟨i, ds, h1, h2⟩ | h)
    · have hi : i ≠ id := fun e => by rw [e, hid] at h2; cases h2
      exact ⟨i, ds, by rw [setH_ne _ _ hi]; exact h1, by rw [alloc_ρ_ne _ _ hi]; exact h2⟩
    · exact ⟨id, cs, setH_same _ _ _, by rw [alloc_ρ_same, h]⟩
/-- A new block, whose cells are such ones. -/
theorem HeapRep.alloc {Z : Nat → Prop} {E : Env} {H : Heap} {nx : Nat} (h : HeapRep Z E H nx) (c : Array Value) (e : TypeId) (fr : Nat × Nat) (cs : List AV)
    (hfr : ∀ j, j < c.size → ¬ (fr.1 ≤ j ∧ j < fr.2)) (hl : cs.length ≤ c.size) (hc : ∀ (j : Nat) x, cs[j]? = some x → ∃ u, c[j]? = some u ∧ RepV E x u) :
    HeapRep Z (E.alloc nx (.cells c e fr)) (setH H nx (some cs)) (nx + 1) := by
  have hid : E.ρ nx = none := (h.fresh nx (Nat.le_refl _)).1
  have L := later_alloc E (.cells c e fr) hid
  refine ⟨fun id ds hh => ?_, fun id id' n h1 h2 h3 h4 => ?_, fun b => ?_, fun id n h1 h2 hz => ?_, fun id hh => ?_, h.one, fun id n hn => ?_, fun b hz => ?_, h.tab.later L⟩
  · by_cases hi : id = nx
    · subst hi
      rw [setH_same] at hh
      obtain rfl : cs = ds := by injection hh
      exact .inr ⟨_, alloc_ρ_same _ _ _, c, e, fr, Go.heap_alloc_new _ _, hfr, hl, fun j x hx => let ⟨u, hu, hr⟩ := hc j x hx; ⟨u, hu, RepV.later L x u hr⟩⟩
    · rw [setH_ne _ _ hi] at hh
      rcases h.blk id ds hh with ⟨h0, h1⟩ | ⟨m, hm, hb⟩
      · exact .inl ⟨by rw [alloc_ρ_ne _ _ hi]; exact h0, h1⟩
      · exact .inr ⟨m, by rw [alloc_ρ_ne _ _ hi]; exact hm, h.blk_later L hm hb (Go.heap_alloc_old _ _ (h.old id m hm))⟩
  · by_cases hi : id = nx <;> by_cases hi' : id' = nx
    · rw [hi, hi']
    · subst hi
      rw [alloc_ρ_same] at h3
      rw [alloc_ρ_ne _ _ hi'] at h4
      have := h.old _ _ h4
      injection h3 with h3
      omega
    · subst hi'
      rw [alloc_ρ_same] at h4
      rw [alloc_ρ_ne _ _ hi] at h3
      have := h.old _ _ h3
      injection h4 with h4
      omega
    · rw [alloc_ρ_ne _ _ hi] at h3
      rw [alloc_ρ_ne _ _ hi'] at h4
      rw [setH_ne _ _ hi] at h1
      rw [setH_ne _ _ hi'] at h2
      exact h.inj id id' n h1 h2 h3 h4
  · show E.V b ∨ b = E.w.heap.size ↔ _
    rw [wr_setH_new hid, h.V b, or_assoc]
  · by_cases hi : id = nx
    · subst hi
      rw [alloc_ρ_same] at h2
      have := h.zold n hz
      injection h2 with h2
      omega
    · rw [setH_ne _ _ hi] at h1
      rw [alloc_ρ_ne _ _ hi] at h2
      exact h.apart id n h1 h2 hz
  · have hi : id ≠ nx := by omega
    rw [setH_ne _ _ hi, alloc_ρ_ne _ _ hi]
    exact h.fresh id (by omega)
  · show n < (E.w.alloc _).heap.size
    rw [World.size_alloc]
    by_cases hi : id = nx
    · subst hi
      rw [alloc_ρ_same] at hn
      injection hn with hn
      omega
    · rw [alloc_ρ_ne _ _ hi] at hn
      have := h.old id n hn
      omega
  · show b < (E.w.alloc _).heap.size
    rw [World.size_alloc]
    have := h.zold b hz
    omega
theorem frozen_false {w : World} {n j : Nat} {c : Array Value} {e : TypeId} {fr : Nat × Nat} (h : w.heap[n]? = some (.cells c e fr)) (hf : ¬ (fr.1 ≤ j ∧ j < fr.2)) :
    w.frozen? ⟨n, j, none⟩ = false := by
  obtain ⟨lo, hi⟩ := fr
  simp only [World.frozen?, h]
  simp only at hf
  cases hh : (decide (lo ≤ j) && decide (j < hi)) with
  | false => rfl
  | true => simp at hh; exact absurd hh hf
/-- The world behind a store into a cell of a block of one's own. -/
def Env.store (E : Env) (a : Addr) (v : Value) : Env := { E with w := E.w.setCell a v }
theorem later_store {Z : Nat → Prop} {E : Env} {H : Heap} {nx : Nat} (h : HeapRep Z E H nx) {id n : Nat} (j : Nat) (v : Value) (hi : H id ≠ none) (hn : E.ρ id = some n) :
    Later E (E.store ⟨n, j, none⟩ v) := by
  have hw : Wr E.ρ H n := by
    cases hh : H id with
    | none => exact absurd hh hi
    | some cs => exact ⟨id, cs, hh, hn⟩
  have ev : Evo (Wr E.ρ H) E.w (E.store ⟨n, j, none⟩ v).w := Evo.setCell _ _ _ _ hw
  exact Later.of_evo ev rfl (fun _ _ h => h) (wr_V h) (fun _ _ h => h)
theorem HeapRep.store {Z : Nat → Prop} {E : Env} {H : Heap} {nx : Nat} (h : HeapRep Z E H nx) {id n j : Nat} {cs : List AV} {x : AV} {v : Value}
    (hi : H id = some cs) (hn : E.ρ id = some n) (hj : j < cs.length) (hr : RepV E x v) :
    HeapRep Z (E.store ⟨n, j, none⟩ v) (setH H id (some (cs.set j x))) nx := by
  have hne : H id ≠ none := by rw [hi]; simp
  have L := later_store h j v hne hn
  have hrw : ∀ i, (setH H id (some (cs.set j x)) i ≠ none) ↔ H i ≠ none := by
    intro i
    by_cases hh : i = id
    · subst hh; simp [setH_same, hi]
    · rw [setH_ne _ _ hh]
  have hwr : ∀ b, Wr E.ρ (setH H id (some (cs.set j x))) b ↔ Wr E.ρ H b := by
    intro b
    constructor
    · rintro ⟨i, ds, h1, h2⟩
      have := (hrw i).1 (by rw [h1]; simp)
      cases hh : H i with
      | none => exact absurd hh this
      | some es => exact ⟨i, es, hh, h2⟩
    · rintro ⟨i, ds, h1, h2⟩
      have := (hrw i).2 (by rw [h1]; simp)
      cases hh : setH H id (some (cs.set j x)) i with
      | none => exact absurd hh this
      | some es => exact ⟨i, es, hh, h2⟩
  refine ⟨fun i ds hh => ?_, fun i i' m h1 h2 h3 h4 => h.inj i i' m ((hrw i).1 h1) ((hrw i').1 h2) h3 h4, fun b => by show E.V b ↔ Z b ∨ Wr E.ρ _ b; rw [hwr]; exact h.V b,
    fun i m h1 h2 => h.apart i m ((hrw i).1 h1) h2, fun i hh => ?_, h.one, fun i m hm => by show m < (E.w.setCell _ _).heap.size; rw [World.size_setCell]; exact h.old i m hm,
    fun b hb => by show b < (E.w.setCell _ _).heap.size; rw [World.size_setCell]; exact h.zold b hb, h.tab.later L⟩
  · by_cases hid : i = id
    · subst hid
      rw [setH_same] at hh
      obtain rfl : cs.set j x = ds := by injection hh
      rcases h.blk i cs hi with ⟨h0, _⟩ | ⟨m, hm, c, e, fr, h1, h2, h3, h4⟩
      · rw [hn] at h0; cases h0
      · obtain rfl : n = m := by rw [hn] at hm; injection hm
        refine .inr ⟨n, hn, c.setIfInBounds j v, e, fr, ?_, ?_, ?_, ?_⟩
        · show (E.w.setCell ⟨n, j, none⟩ v).heap[n]? = _
          simp [World.setCell, Array.getElem?_modify, h1]
        · intro k hk; exact h2 k (by simpa using hk)
        · simpa using h3
        · intro k y hy
          by_cases hk : k = j
          · subst hk
            have : k < c.size := by omega
            refine ⟨v, by simp [this], ?_⟩
            rw [List.getElem?_set_self hj] at hy
            injection hy with hy
            subst hy
            exact RepV.later L _ _ hr
          · rw [List.getElem?_set_ne (Ne.symm hk)] at hy
            obtain ⟨u, hu, hr'⟩ := h4 k y hy
            exact ⟨u, by rw [Array.getElem?_setIfInBounds_ne (Ne.symm hk)]; exact hu, RepV.later L _ _ hr'⟩
    · rw [setH_ne _ _ hid] at hh
      rcases h.blk i ds hh with h0 | ⟨m, hm, hb⟩
      · exact .inl h0
      · refine .inr ⟨m, hm, h.blk_later L hm hb ?_⟩
        have hmn : m ≠ n := fun e => hid (h.inj i id n (by rw [hh]; simp) hne (e ▸ hm) hn)
        exact Go.heap_setCell_other E.w ⟨n, j, none⟩ m v hmn
  · have := h.fresh i hh
    refine ⟨this.1, ?_⟩
    have hne' : i ≠ id := fun e => by rw [e] at this; rw [hi] at this; simp at this
    rw [setH_ne _ _ hne']; exact this.2
end Go.Proofs.YtelnlfhdaelfdaaDoor.Abs
end
section
set_option linter.unusedVariables false
set_option linter.unusedSimpArgs false
namespace Go.Proofs.YtelnlfhdaelfdaaDoor.Abs
open Go
inductive TD where
  | int (k : IntKind) | bool | str
  | slice (e : TypeId) | arr (n : Nat) (e : TypeId) | struct (fs : List (Nat × TypeId)) | ptr (e : TypeId)
  | other
/-- A stretch of cells: from where on, how many, what they are. -/
structure Seg where
  o : Nat
  s : Nat
  cs : List AV
/-- The stretches tell what stands in the cells. -/
def SegsOk (E : Env) (segs : List Seg) (cells : Array Value) : Prop :=
  ∀ g ∈ segs, g.cs.length = g.s ∧ g.o + g.s ≤ cells.size ∧ ∀ (j : Nat) x, g.cs[j]? = some x → ∃ u, cells[g.o + j]? = some u ∧ RepV E x u
def tile : Nat → List Seg → Bool
  | _, [] => true
  | k, g :: r => Nat.beq k g.o && tile (k + g.s) r
/-- What the evaluator knows of a type; `segs`: a struct's or an array's zero value, in its parts. -/
structure TI where
  d : TD
  size : Nat
  bytes : Nat
  zero : AV
  segs : List Seg
abbrev Types := TypeId → Option TI
def TD.of : TD → TypeDesc → Prop
  | .int k, d => d = .int k
  | .bool, d => d = .bool
  | .str, d => d = .string
  | .slice e, d => d = .slice e
  | .arr n e, d => d = .array n e
  | .struct fs, d => ∃ a, d = .struct a ∧ a.toList.map (fun f => (f.offset, f.type)) = fs
  | .ptr e, d => d = .pointer e
  | .other, d => True
def TD.agg : TD → Bool
  | .arr _ _ | .struct _ => true
  | _ => false
def TDesc.isAgg : TypeDesc → Bool
  | .struct _ | .array _ _ => true
  | _ => false
structure TIok (P : Program) (t : TypeId) (i : TI) : Prop where
  und : ∃ d, P.underlying t = some d ∧ i.d.of d ∧ TDesc.isAgg d = i.d.agg
  info : ∃ f, P.info? t = some f ∧ f.size = i.size ∧ f.bytes = i.bytes ∧ ∃ z, f.zero = some z ∧ z.cells.size = i.size ∧ (i.zero = .top ∨ ∀ E, RepV E i.zero z) ∧
    (i.segs = [] ∨ (tile 0 i.segs = true ∧ (i.segs.map (·.s)).sum = z.cells.size ∧ (∀ E, SegsOk E i.segs z.cells) ∧
      match i.d with
      | .struct fs => i.segs.length = fs.length ∧ ∀ (k : Nat) (g : Seg), i.segs[k]? = some g → ∃ ft ff, fs[k]? = some (g.o, ft) ∧ P.info? ft = some ff ∧ ff.size = g.s
      | .arr _ e => ∃ fe, P.info? e = some fe ∧ ∀ (k : Nat) (g : Seg), i.segs[k]? = some g → g.o = k * fe.size ∧ g.s = fe.size
      | _ => False))
def TOK (P : Program) (T : Types) : Prop := ∀ t i, T t = some i → TIok P t i
def avS : Value → AV
  | .int k n => .int k n
  | .bool b => .bool b
  | .string s => .str (bytesOf s)
  | .slice none 0 0 => .nil
  | .pointer none => .nilp
  | _ => .top
def avC : Value → AV
  | .agg cs => .agg (cs.toList.map avS)
  | v => avS v
def evalO (env : Nat → AV) : Operand → AV
  | .tmp t => env t
  | .const v => avC v
  | .func f => .fn (.func f) []
  | .global g => match tabs g with
    | some (k, l) => .rop (l.map (AV.int k))
    | none => .top
theorem rep_avS (E : Env) (v : Value) : RepV E (avS v) v := by
  unfold avS
  split <;> simp [RepV]
theorem rep_map_avS (E : Env) : ∀ l : List Value, RepL E (l.map avS) l
  | [] => by simp [RepL]
  | v :: l => by simp only [List.map_cons, RepL]; exact ⟨v, l, rfl, rep_avS E v, rep_map_avS E l⟩
theorem rep_avC (E : Env) (v : Value) : RepV E (avC v) v := by
  unfold avC
  split
  · simp only [RepV]; exact ⟨_, rfl, rep_map_avS E _⟩
  · exact rep_avS E _
theorem rep_evalO {Z : Nat → Prop} {E : Env} {st : St} {a : Act} (S : Sim Z E st a) (x : Operand) : RepV E (evalO st.env x) (a.eval x) := by
  cases x with
  | tmp t => exact S.env t
  | const v => exact rep_avC E v
  | global g =>
    simp only [evalO]
    split
    · rename_i k l hg
      exact S.heap.tab.rop hg
    · simp [RepV]
  | func f => simp [evalO, RepV, Act.eval, RepL]
/-- A value, worked out as far as its head. -/
def force (x : AV) (K : AV → Prop) : Prop :=
  match x with
  | .top => K .top
  | .int k n => K (.int k n)
  | .bool b => K (.bool b)
  | .anyb => K .anyb
  | .str s => K (.str s)
  | .agg cs => K (.agg cs)
  | .tuple cs => K (.tuple cs)
  | .nil => K .nil
  | .ro len cs => K (.ro len cs)
  | .own len esz cs => K (.own len esz cs)
  | .ref cs => K (.ref cs)
  | .sl id off len esz full => K (.sl id off len esz full)
  | .ptr id off => K (.ptr id off)
  | .rop cs => K (.rop cs)
  | .nilp => K .nilp
  | .hid i => K (.hid i)
  | .fn f caps => K (.fn f caps)
theorem force_eq (x : AV) (K : AV → Prop) : force x K = K x := by cases x <;> rfl
/-- A list, worked out, and the heads of its parts. -/
def forceL (xs : List AV) (K : List AV → Prop) : Prop :=
  match xs with
  | [] => K []
  | x :: r => force x fun x' => forceL r fun r' => K (x' :: r')
theorem forceL_eq : ∀ (xs : List AV) (K : List AV → Prop), forceL xs K = K xs
  | [], _ => rfl
  | x :: r, K => by simp only [forceL, force_eq, forceL_eq r]
/-- A size, worked out. -/
def forceSz (n : Nat) (K : Nat → Prop) : Prop :=
  cond (Nat.beq n 1) (K 1) (cond (Nat.beq n 2) (K 2) (cond (Nat.beq n 3) (K 3) (cond (Nat.beq n 4) (K 4) (K n))))
theorem forceSz_eq (n : Nat) (K : Nat → Prop) : forceSz n K = K n := by
  unfold forceSz
  cases h1 : Nat.beq n 1
  · cases h2 : Nat.beq n 2
    · cases h3 : Nat.beq n 3
      · cases h4 : Nat.beq n 4
        · rfl
        · rw [Nat.eq_of_beq_eq_true h4]; rfl
      · rw [Nat.eq_of_beq_eq_true h3]; rfl
    · rw [Nat.eq_of_beq_eq_true h2]; rfl
  · rw [Nat.eq_of_beq_eq_true h1]; rfl
/-- The two ways of a test. -/
def ifB (b : Bool) (A B : Prop) : Prop := (b = true → A) ∧ (b = false → B)
theorem ifB_t {A B : Prop} (h : A) : ifB true A B := ⟨fun _ => h, (nofun)⟩
theorem ifB_f {A B : Prop} (h : B) : ifB false A B := ⟨(nofun), fun _ => h⟩
theorem ifB_dec {p : Prop} [d : Decidable p] {A B : Prop} (h : p → A) (k : ¬ p → B) : ifB (decide p) A B :=
  ⟨fun e => h (of_decide_eq_true e), fun e => k (of_decide_eq_false e)⟩
/-- A number that fits its kind, or is wrapped round: the prover's choice. -/
def fitP (k : IntKind) (n : Int) (K : Int → Prop) : Prop := (k.wrap n = n ∧ K n) ∨ K (k.wrap n)
def IntKind.lo : IntKind → Int
  | .i8 => -128 | .i16 => -32768 | .i32 => -2147483648 | .i64 => -9223372036854775808
  | _ => 0
def IntKind.hi : IntKind → Int
  | .i8 => 127 | .i16 => 32767 | .i32 => 2147483647 | .i64 => 9223372036854775807
  | .u8 => 255 | .u16 => 65535 | .u32 => 4294967295 | .u64 => 18446744073709551615
theorem wrap_in {k : IntKind} {n : Int} (h0 : IntKind.lo k ≤ n) (h1 : n ≤ IntKind.hi k) : k.wrap n = n := by
  cases k <;> simp only [IntKind.lo, IntKind.hi] at h0 h1 <;> simp [IntKind.wrap, IntKind.bits, IntKind.signed] <;> first | omega | (split <;> omega)
theorem fit_in {k : IntKind} {n : Int} {K : Int → Prop} (h0 : IntKind.lo k ≤ n) (h1 : n ≤ IntKind.hi k) (h : K n) : fitP k n K := .inl ⟨wrap_in h0 h1, h⟩
theorem fit_i64 {n : Int} {K : Int → Prop} (h : -9223372036854775808 ≤ n ∧ n ≤ 9223372036854775807) (hk : K n) : fitP .i64 n K := fit_in h.1 h.2 hk
theorem fit_u64 {n : Int} {K : Int → Prop} (h : 0 ≤ n ∧ n ≤ 18446744073709551615) (hk : K n) : fitP .u64 n K := fit_in h.1 h.2 hk
theorem fit_u8 {n : Int} {K : Int → Prop} (h : 0 ≤ n ∧ n ≤ 255) (hk : K n) : fitP .u8 n K := fit_in h.1 h.2 hk
theorem fit_wrap {k : IntKind} {n : Int} {K : Int → Prop} (h : K (k.wrap n)) : fitP k n K := .inr h
theorem fitP.elim {k : IntKind} {n : Int} {K : Int → Prop} (h : fitP k n K) : K (k.wrap n) := by
  rcases h with ⟨e, h⟩ | h
  · rw [e]; exact h
  · exact h
def bytesLt : List Int → List Int → Bool
  | _, [] => false
  | [], _ :: _ => true
  | a :: x, b :: y => decide (a < b) || (a == b && bytesLt x y)
/-- A binary operation on two values. -/
def binP (op : BinOp) (x y : AV) (K : AV → Prop) : Prop :=
  match op, x, y with
  | .add, .int k a, .int _ b => fitP k (a + b) fun n => K (.int k n)
  | .sub, .int k a, .int _ b => fitP k (a - b) fun n => K (.int k n)
  | .mul, .int k a, .int _ b => fitP k (a * b) fun n => K (.int k n)
  | .quo, .int k a, .int _ b => b ≠ 0 ∧ fitP k (a.tdiv b) fun n => K (.int k n)
  | .rem, .int k a, .int _ b => b ≠ 0 ∧ K (.int k (a.tmod b))
  | .and, .int k a, .int _ b => K (.int k (bits .and k a b))
  | .or, .int k a, .int _ b => K (.int k (bits .or k a b))
  | .xor, .int k a, .int _ b => K (.int k (bits .xor k a b))
  | .andNot, .int k a, .int _ b => K (.int k (bits .andNot k a b))
  | .shl, .int k a, .int _ b => 0 ≤ b ∧ fitP k (a * 2 ^ min b.toNat k.bits) fun n => K (.int k n)
  | .shr, .int k a, .int _ b => 0 ≤ b ∧ K (.int k (a / 2 ^ min b.toNat k.bits))
  | .eql, .int _ a, .int _ b => K (.bool (decide (a = b)))
  | .neq, .int _ a, .int _ b => K (.bool (decide (a ≠ b)))
  | .lss, .int _ a, .int _ b => K (.bool (decide (a < b)))
  | .leq, .int _ a, .int _ b => K (.bool (decide (a ≤ b)))
  | .gtr, .int _ a, .int _ b => K (.bool (decide (b < a)))
  | .geq, .int _ a, .int _ b => K (.bool (decide (b ≤ a)))
  | .add, .str a, .str b => (a.length + b.length ≤ 9223372036854775807) ∧ K (.str (a ++ b))
  | .eql, .str a, .str b => K (.bool (decide (a = b)))
  | .neq, .str a, .str b => K (.bool (decide (a ≠ b)))
  | .lss, .str a, .str b => K (.bool (bytesLt a b))
  | .leq, .str a, .str b => K (.bool (bytesLt a b || decide (a = b)))
  | .gtr, .str a, .str b => K (.bool (!(bytesLt a b || decide (a = b))))
  | .geq, .str a, .str b => K (.bool (!bytesLt a b))
  | _, _, _ => False
theorem bytesOf_inj {a b : ByteArray} (h : bytesOf a = bytesOf b) : a = b := by
  have : a.data.toList = b.data.toList := by
    unfold bytesOf at h
    exact List.map_inj_right (f := fun x : UInt8 => (x.toNat : Int)) (fun x y e => UInt8.toNat_inj.1 (by exact_mod_cast e)) |>.1 h
  cases a; cases b
  simp only [ByteArray.mk.injEq]
  exact Array.toList_inj.1 this
theorem toList_data (a : ByteArray) : a.toList = a.data.toList := Go.Lib.toList_data a
theorem bytesLess_eq : ∀ (x y : List UInt8), Op.bytesLess x y = bytesLt (x.map fun u => (u.toNat : Int)) (y.map fun u => (u.toNat : Int))
  | [], [] => rfl
  | _ :: _, [] => by simp [Op.bytesLess, bytesLt]
  | [], _ :: _ => rfl
  | a :: x, b :: y => by
    simp only [Op.bytesLess, bytesLt, List.map_cons, bytesLess_eq x y]
    congr 1
    · simp [UInt8.lt_iff_toNat_lt]
    · congr 1
      rw [Bool.eq_iff_iff]
      simp only [beq_iff_eq]
      constructor
      · intro h; rw [h]
      · intro h; exact UInt8.toNat_inj.1 (by exact_mod_cast h)
end Go.Proofs.YtelnlfhdaelfdaaDoor.Abs
end
section
set_option linter.unusedVariables false
set_option linter.unusedSimpArgs false
namespace Go.Proofs.YtelnlfhdaelfdaaDoor.Abs
open Go
/-- The value that a binary operation has, with its guard. -/
def binS (op : BinOp) (t : TypeId) (xo yo : Operand) (u v : Value) : Sem Value := do eqGuard op t xo yo u v; binOp op t u v
theorem str_eq_iff (a b : ByteArray) : (a.toList == b.toList) = decide (bytesOf a = bytesOf b) := by
  rw [Bool.eq_iff_iff]
  simp only [beq_iff_eq, decide_eq_true_eq]
  constructor
  · intro h
    unfold bytesOf
    rw [← toList_data, ← toList_data, h]
  · intro h
    rw [bytesOf_inj h]
theorem str_lt (a b : ByteArray) : Op.bytesLess a.toList b.toList = bytesLt (bytesOf a) (bytesOf b) := by
  rw [bytesLess_eq, toList_data, toList_data]; rfl
theorem bytesOf_append (a b : ByteArray) : bytesOf (a ++ b) = bytesOf a ++ bytesOf b := by
  simp [bytesOf]
theorem length_bytesOf (a : ByteArray) : (bytesOf a).length = a.size := by
  simp [bytesOf]
theorem shift_shl' (k yk : IntKind) (x y : Int) (h : 0 ≤ y) : Op.shift .shl k x yk y = Pure.pure (.int k (k.wrap (x * 2 ^ min y.toNat k.bits))) := by
  have : ¬ y < 0 := by omega
  simp [Op.shift, this]
theorem shift_shr' (k yk : IntKind) (x y : Int) (h : 0 ≤ y) : Op.shift .shr k x yk y = Pure.pure (.int k (x / 2 ^ min y.toNat k.bits)) := by
  have : ¬ y < 0 := by omega
  have hp : (0 : Int) ≤ 2 ^ min y.toNat k.bits := Int.pow_nonneg (by decide)
  simp [Op.shift, this, Int.fdiv_eq_ediv_of_nonneg _ hp]
theorem bin_int {P : Program} {op : BinOp} {t : TypeId} {xo yo : Operand} {k j : IntKind} {a b : Int} {w : World} {r : Value}
    (h : (binOp op t (.int k a) (.int j b)).run P w = .ok r w) : (binS op t xo yo (.int k a) (.int j b)).run P w = .ok r w := by
  simp [binS, eqGuard_at_int, h]
theorem bin_str {P : Program} {op : BinOp} {t : TypeId} {xo yo : Operand} {a b : ByteArray} {w : World} {r : Value}
    (h : (binOp op t (.string a) (.string b)).run P w = .ok r w) : (binS op t xo yo (.string a) (.string b)).run P w = .ok r w := by
  simp [binS, eqGuard_at_string, h]
def kNo : IntKind → Nat
  | .i8 => 0 | .i16 => 1 | .i32 => 2 | .i64 => 3 | .u8 => 4 | .u16 => 5 | .u32 => 6 | .u64 => 7
def kEq (k j : IntKind) : Bool := Nat.beq (kNo k) (kNo j)
theorem kEq_eq {k j : IntKind} (h : kEq k j = true) : k = j := by
  cases k <;> cases j <;> first | rfl | (simp [kEq, kNo] at h)
def isShift : BinOp → Bool
  | .shl | .shr => true
  | _ => false
/-- Binary operations ask that both have one kind (but for the shifts). -/
def sameKind (op : BinOp) (x y : AV) : Bool :=
  match x, y with
  | .int k _, .int j _ => isShift op || kEq k j
  | _, _ => true
def binQ (op : BinOp) (x y : AV) (K : AV → Prop) : Prop := cond (sameKind op x y) (binP op x y K) False
theorem rep_int (E : Env) (k : IntKind) (n : Int) : RepV E (.int k n) (.int k n) := by simp only [RepV]
theorem rep_bool (E : Env) (b : Bool) : RepV E (.bool b) (.bool b) := by simp only [RepV]
set_option maxHeartbeats 1000000 in
theorem binP_sound {P : Program} {E : Env} {op : BinOp} {X Y : AV} {u v : Value} {K : AV → Prop} (hu : RepV E X u) (hv : RepV E Y v) (hq : binQ op X Y K) :
    ∃ x r, K x ∧ RepV E x r ∧ ∀ t xo yo w, (binS op t xo yo u v).run P w = .ok r w := by
  unfold binQ at hq
  cases hk : sameKind op X Y with
  | false => rw [hk] at hq; exact hq.elim
  | true =>
  rw [hk] at hq
  have h : binP op X Y K := hq
  clear hq
  unfold binP at h
  split at h <;> simp only [sameKind, isShift, Bool.false_or, Bool.true_or] at hk <;> (try (cases kEq_eq hk))
  all_goals (try simp only [RepV] at hu hv)
  · subst hu; subst hv; exact ⟨_, _, h.elim, rep_int E _ _, fun t xo yo w => bin_int (by simp [binOp_add, Op.intArith])⟩
  · subst hu; subst hv; exact ⟨_, _, h.elim, rep_int E _ _, fun t xo yo w => bin_int (by simp [binOp_sub, Op.intArith])⟩
  · subst hu; subst hv; exact ⟨_, _, h.elim, rep_int E _ _, fun t xo yo w => bin_int (by simp [binOp_mul, Op.intArith])⟩
  · subst hu; subst hv; exact ⟨_, _, h.2.elim, rep_int E _ _, fun t xo yo w => bin_int (by simp [binOp_quo, Op.intDiv, h.1])⟩
  · subst hu; subst hv; exact ⟨_, _, h.2, rep_int E _ _, fun t xo yo w => bin_int (by simp [binOp_rem, Op.intDiv, h.1])⟩
  · subst hu; subst hv; exact ⟨_, _, h, rep_int E _ _, fun t xo yo w => bin_int (by simp [binOp_and, intBits_and])⟩
  · subst hu; subst hv; exact ⟨_, _, h, rep_int E _ _, fun t xo yo w => bin_int (by simp [binOp_or, intBits_or])⟩
  · subst hu; subst hv; exact ⟨_, _, h, rep_int E _ _, fun t xo yo w => bin_int (by simp [binOp_xor, intBits_xor])⟩
  · subst hu; subst hv; exact ⟨_, _, h, rep_int E _ _, fun t xo yo w => bin_int (by simp [binOp_andNot, intBits_andNot])⟩
  · subst hu; subst hv; exact ⟨_, _, h.2.elim, rep_int E _ _, fun t xo yo w => bin_int (by simp [binOp_shl, shift_shl' _ _ _ _ h.1])⟩
  · subst hu; subst hv; exact ⟨_, _, h.2, rep_int E _ _, fun t xo yo w => bin_int (by simp [binOp_shr, shift_shr' _ _ _ _ h.1])⟩
  · subst hu; subst hv; exact ⟨_, _, h, rep_bool E _, fun t xo yo w => bin_int (by simp [binOp_eql]; first | rfl | exact Bool.eq_iff_iff.2 (by simp))⟩
  · subst hu; subst hv; exact ⟨_, _, h, rep_bool E _, fun t xo yo w => bin_int (by simp [binOp_neq]; first | rfl | exact Bool.eq_iff_iff.2 (by simp))⟩
  · subst hu; subst hv; exact ⟨_, _, h, rep_bool E _, fun t xo yo w => bin_int (by simp [binOp_lss])⟩
  · subst hu; subst hv; exact ⟨_, _, h, rep_bool E _, fun t xo yo w => bin_int (by simp [binOp_leq])⟩
  · subst hu; subst hv; exact ⟨_, _, h, rep_bool E _, fun t xo yo w => bin_int (by simp [binOp_gtr])⟩
  · subst hu; subst hv; exact ⟨_, _, h, rep_bool E _, fun t xo yo w => bin_int (by simp [binOp_geq])⟩
  · obtain ⟨a, rfl, rfl⟩ := hu; obtain ⟨b, rfl, rfl⟩ := hv
    simp only [length_bytesOf] at h
    refine ⟨_, .string (a ++ b), h.2, ?_, fun t xo yo w => bin_str ?_⟩
    · simp only [RepV]; exact ⟨_, rfl, bytesOf_append a b⟩
    · have h1 : ¬ (((a.size + b.size : Nat) : Int) > IntKind.i64.max) := by simp only [IntKind.max_i64]; omega
      simp only [binOp, Op.stringOp, if_neg h1, Sem.run_pure]
  · obtain ⟨a, rfl, rfl⟩ := hu; obtain ⟨b, rfl, rfl⟩ := hv
    exact ⟨_, _, h, rep_bool E _, fun t xo yo w => bin_str (by simp [binOp, Op.stringOp, str_eq_iff])⟩
  · obtain ⟨a, rfl, rfl⟩ := hu; obtain ⟨b, rfl, rfl⟩ := hv
    exact ⟨_, _, h, rep_bool E _, fun t xo yo w => bin_str (by simp [binOp, Op.stringOp, str_eq_iff])⟩
  · obtain ⟨a, rfl, rfl⟩ := hu; obtain ⟨b, rfl, rfl⟩ := hv
    exact ⟨_, _, h, rep_bool E _, fun t xo yo w => bin_str (by simp [binOp, Op.stringOp, str_lt])⟩
  · obtain ⟨a, rfl, rfl⟩ := hu; obtain ⟨b, rfl, rfl⟩ := hv
    exact ⟨_, _, h, rep_bool E _, fun t xo yo w => bin_str (by simp [binOp, Op.stringOp, str_eq_iff, str_lt])⟩
  · obtain ⟨a, rfl, rfl⟩ := hu; obtain ⟨b, rfl, rfl⟩ := hv
    exact ⟨_, _, h, rep_bool E _, fun t xo yo w => bin_str (by simp [binOp, Op.stringOp, str_eq_iff, str_lt])⟩
  · obtain ⟨a, rfl, rfl⟩ := hu; obtain ⟨b, rfl, rfl⟩ := hv
    exact ⟨_, _, h, rep_bool E _, fun t xo yo w => bin_str (by simp [binOp, Op.stringOp, str_eq_iff, str_lt])⟩
  · exact h.elim
end Go.Proofs.YtelnlfhdaelfdaaDoor.Abs
end
section
set_option linter.unusedVariables false
set_option linter.unusedSimpArgs false
namespace Go.Proofs.YtelnlfhdaelfdaaDoor.Abs
open Go
def takeN : Nat → List AV → Option (List AV)
  | 0, _ => some []
  | n + 1, x :: l => match takeN n l with
    | some r => some (x :: r)
    | none => none
  | _ + 1, [] => none
theorem takeN_spec : ∀ (n : Nat) (l r : List AV), takeN n l = some r → n ≤ l.length ∧ r = l.take n
  | 0, l, r, h => by simp [takeN] at h; simp [h]
  | n + 1, x :: l, r, h => by
    simp only [takeN] at h
    split at h
    · rename_i s hs
      obtain ⟨h1, rfl⟩ := takeN_spec n l s hs
      injection h with h
      subst h
      exact ⟨by simpa using h1, by simp⟩
    · cases h
  | n + 1, [], r, h => by simp [takeN] at h
theorem takeN_eq : ∀ (n : Nat) (l : List AV), n ≤ l.length → takeN n l = some (l.take n)
  | 0, l, h => by simp [takeN]
  | n + 1, x :: l, h => by simp only [takeN, takeN_eq n l (by simpa using h)]; simp
  | n + 1, [], h => by simp at h
/-- A scalar: it fits one cell. -/
def AV.one : AV → Bool
  | .int _ _ | .bool _ | .anyb | .str _ | .nil | .ro _ _ | .sl _ _ _ _ _ | .ptr _ _ | .rop _ | .nilp | .hid _ | .fn _ _ => true
  | _ => false
theorem one_scalar {E : Env} (hη : ∀ i, scalar (E.η i) = true) {x : AV} {v : Value} (h : RepV E x v) (ho : x.one = true) : scalar v = true := by
  cases x <;> simp only [AV.one] at ho <;> simp only [RepV] at h <;> (try (first | cases ho)) <;> (try (obtain ⟨_, _, rfl, _⟩ := h; rfl)) <;> (try (obtain ⟨_, rfl⟩ := h; rfl)) <;> (try (obtain ⟨_, _, rfl⟩ := h; rfl)) <;> (try (obtain ⟨_, rfl, _⟩ := h; rfl)) <;> (try (subst h; rfl))
  exact h ▸ hη _
/-- The cells of a value. -/
def cellsA : AV → List AV
  | .agg cs => cs
  | x => [x]
/-- A value whose cells are known. -/
def AV.laid : AV → Bool
  | .agg _ => true
  | x => x.one
theorem repL_length {E : Env} : ∀ (cs : List AV) (vs : List Value), RepL E cs vs → cs.length = vs.length
  | [], vs, h => by simp only [RepL] at h; subst h; rfl
  | c :: cs, vs, h => by
    simp only [RepL] at h
    obtain ⟨u, us, rfl, _, h⟩ := h
    simp [repL_length cs us h]
theorem repL_get {E : Env} : ∀ (cs : List AV) (vs : List Value), RepL E cs vs → ∀ (j : Nat) x, cs[j]? = some x → ∃ u, vs[j]? = some u ∧ RepV E x u
  | [], vs, h, j, x, hx => by simp at hx
  | c :: cs, vs, h, j, x, hx => by
    simp only [RepL] at h
    obtain ⟨u, us, rfl, hu, h⟩ := h
    cases j with
    | zero => simp at hx; subst hx; exact ⟨u, by simp, hu⟩
    | succ j => simpa using repL_get cs us h j x (by simpa using hx)
theorem repL_of_get {E : Env} : ∀ (cs : List AV) (vs : List Value), cs.length = vs.length → (∀ (j : Nat) x u, cs[j]? = some x → vs[j]? = some u → RepV E x u) → RepL E cs vs
  | [], [], _, _ => by simp [RepL]
  | [], _ :: _, h, _ => by simp at h
  | _ :: _, [], h, _ => by simp at h
  | c :: cs, v :: vs, h, k => by
    simp only [RepL]
    exact ⟨v, vs, rfl, k 0 c v (by simp) (by simp), repL_of_get cs vs (by simpa using h) (fun j x u hx hu => k (j + 1) x u (by simpa using hx) (by simpa using hu))⟩
theorem repM_get {E : Env} : ∀ (cs : List AV) (b off : Nat), RepM E cs b off → ∀ (j : Nat) x, cs[j]? = some x → ∃ u, E.w.cell? ⟨b, off + j, none⟩ = some u ∧ RepV E x u
  | [], b, off, h, j, x, hx => by simp at hx
  | c :: cs, b, off, h, j, x, hx => by
    simp only [RepM] at h
    obtain ⟨⟨u, hu, hr⟩, h⟩ := h
    cases j with
    | zero => simp at hx; subst hx; exact ⟨u, hu, hr⟩
    | succ j =>
      obtain ⟨u', h1, h2⟩ := repM_get cs b (off + 1) h j x (by simpa using hx)
      exact ⟨u', by rw [show off + (j + 1) = off + 1 + j by omega]; exact h1, h2⟩
theorem repM_of_get {E : Env} : ∀ (cs : List AV) (b off : Nat), (∀ (j : Nat) x, cs[j]? = some x → ∃ u, E.w.cell? ⟨b, off + j, none⟩ = some u ∧ RepV E x u) → RepM E cs b off
  | [], b, off, h => by simp [RepM]
  | c :: cs, b, off, h => by
    simp only [RepM]
    refine ⟨by simpa using h 0 c (by simp), repM_of_get cs b (off + 1) fun j x hx => ?_⟩
    have := h (j + 1) x (by simpa using hx)
    rwa [show off + (j + 1) = off + 1 + j by omega] at this
theorem cells_rep {E : Env} (hη : ∀ i, scalar (E.η i) = true) {x : AV} {v : Value} (h : RepV E x v) (ho : x.laid = true) : RepL E (cellsA x) v.cells.toList := by
  by_cases hx : ∃ cs, x = .agg cs
  · obtain ⟨cs, rfl⟩ := hx
    simp only [RepV] at h
    obtain ⟨vs, rfl, h⟩ := h
    exact h
  · have h1 : x.one = true := by cases x <;> simp_all [AV.laid]
    have h2 : cellsA x = [x] := by cases x <;> simp_all [cellsA]
    have h3 := one_scalar hη h h1
    have h4 : v.cells = #[v] := by cases v <;> simp_all [scalar, Value.cells]
    rw [h2, h4]
    simp only [RepL]
    exact ⟨v, [], rfl, h, rfl⟩
theorem run_sizeOf {P : Program} {t : TypeId} {i : TI} (h : TIok P t i) (w : World) : (sizeOf t).run P w = .ok i.size w := by
  obtain ⟨f, hf, hs, _⟩ := h.info
  simp [sizeOf, typeInfo, hf, hs]
theorem run_zeroValue {P : Program} {t : TypeId} {i : TI} (h : TIok P t i) (hz : i.zero ≠ .top) (w : World) : ∃ z, (zeroValue t).run P w = .ok z w ∧ ∀ E, RepV E i.zero z := by
  obtain ⟨f, hf, _, _, z, hz1, _, hz2, _⟩ := h.info
  exact ⟨z, by simp [zeroValue, typeInfo, hf, hz1], hz2.resolve_left hz⟩
theorem run_isAgg {P : Program} {t : TypeId} {i : TI} (h : TIok P t i) (w : World) : (isAgg t).run P w = .ok i.d.agg w := by
  obtain ⟨d, hd, _, ha⟩ := h.und
  simp only [isAgg, Sem.run_bind, run_underlying hd, Result.andThen_ok]
  rw [← ha]
  cases d <;> rfl
theorem addr_add (b o n : Nat) : Addr.add ⟨b, o, none⟩ n = ⟨b, o + n, none⟩ := Addr.add_lit b o n
/-- A variable's value, out of known cells at a place. -/
theorem run_loadVar {P : Program} {E : Env} {t : TypeId} {i : TI} (h : TIok P t i) {b off : Nat} {cs : List AV}
    (hm : ∀ (j : Nat) x, cs[j]? = some x → ∃ u, E.w.cell? ⟨b, off + j, none⟩ = some u ∧ RepV E x u) :
    (i.d.agg = true → ∀ r, takeN i.size cs = some r → ∃ v, (loadVar t ⟨b, off, none⟩).run P E.w = .ok v E.w ∧ RepV E (.agg r) v) ∧
    (i.d.agg = false → ∀ x, cs[0]? = some x → ∃ v, (loadVar t ⟨b, off, none⟩).run P E.w = .ok v E.w ∧ RepV E x v) := by
  constructor
  · intro ha r hr
    obtain ⟨hl, rfl⟩ := takeN_spec _ _ _ hr
    have hex : ∃ vs : List Value, vs.length = i.size ∧ (∀ (j : Nat), j < i.size → ∃ x u, cs[j]? = some x ∧ vs[j]? = some u ∧ E.w.cell? ⟨b, off + j, none⟩ = some u ∧ RepV E x u) := by
      have : ∀ n, n ≤ cs.length → ∃ vs : List Value, vs.length = n ∧ (∀ (j : Nat), j < n → ∃ x u, cs[j]? = some x ∧ vs[j]? = some u ∧ E.w.cell? ⟨b, off + j, none⟩ = some u ∧ RepV E x u) := by
        intro n
        induction n with
        | zero => exact fun _ => ⟨[], rfl, fun j hj => by omega⟩
        | succ n ih =>
          intro hn
          obtain ⟨vs, hl', hv⟩ := ih (by omega)
          obtain ⟨u, hu, hr⟩ := hm n cs[n] (by simp)
          refine ⟨vs ++ [u], by simp [hl'], fun j hj => ?_⟩
          by_cases hjn : j < n
          · obtain ⟨x, u', h1, h2, h3, h4⟩ := hv j hjn
            exact ⟨x, u', h1, by rw [List.getElem?_append_left (by omega)]; exact h2, h3, h4⟩
          · obtain rfl : j = n := by omega
            exact ⟨cs[j], u, by simp, by rw [List.getElem?_append_right (by omega)]; simp [hl'], hu, hr⟩
      exact this i.size hl
    obtain ⟨vs, hlen, hv⟩ := hex
    refine ⟨.agg vs.toArray, ?_, ?_⟩
    · have hlc := run_loadCells_list (P := P) E.w ⟨b, off, none⟩ vs (fun j v hj => by
        have hjl : j < i.size := by
          rcases Nat.lt_or_ge j vs.length with h' | h'
          · omega
          · simp [List.getElem?_eq_none h'] at hj
        obtain ⟨x, u, h1, h2, h3, h4⟩ := hv j hjl
        rw [addr_add]
        rw [h2] at hj
        injection hj with hj
        rw [← hj]; exact h3)
      rw [hlen] at hlc
      simp only [loadVar, Sem.run_bind, run_isAgg h, Result.andThen_ok, ha, if_true, run_sizeOf h, hlc, Sem.run_pure]
    · simp only [RepV]
      refine ⟨vs.toArray, rfl, repL_of_get _ _ (by simp [hlen]; omega) fun j x u hx hu => ?_⟩
      have hjl : j < i.size := by
        rcases Nat.lt_or_ge j (cs.take i.size).length with h' | h'
        · simp at h'; omega
        · simp [List.getElem?_eq_none h'] at hx
      obtain ⟨x', u', h1, h2, h3, h4⟩ := hv j hjl
      rw [List.getElem?_take_of_lt hjl, h1] at hx
      injection hx with hx
      simp only [List.toList_toArray] at hu
      rw [h2] at hu
      injection hu with hu
      rw [← hx, ← hu]; exact h4
  · intro ha x hx
    obtain ⟨u, hu, hr⟩ := hm 0 x hx
    refine ⟨u, ?_, hr⟩
    simp only [Nat.add_zero] at hu
    simp only [loadVar, Sem.run_bind, run_isAgg h, Result.andThen_ok, ha, Bool.false_eq_true, if_false, run_load, hu]
/-- What a value of a type is, out of cells. -/
def getP (T : Types) (t : TypeId) (cs : List AV) (K : AV → Prop) : Prop :=
  match T t with
  | some i => match i.d.agg with
    | true => ∃ r, takeN i.size cs = some r ∧ K (.agg r)
    | false => ∃ x, cs[0]? = some x ∧ K x
  | none => False
def loadP (T : Types) (H : Heap) (t : TypeId) (A : AV) (K : AV → Prop) : Prop :=
  match A with
  | .ptr id off => match H id with
    | some cs => getP T t (cs.drop off) K
    | none => False
  | .rop cs => getP T t cs K
  | _ => False
theorem getP_sound {P : Program} {T : Types} (hT : TOK P T) {E : Env} {t : TypeId} {b off : Nat} {cs : List AV} {K : AV → Prop}
    (hm : ∀ (j : Nat) x, cs[j]? = some x → ∃ u, E.w.cell? ⟨b, off + j, none⟩ = some u ∧ RepV E x u) (h : getP T t cs K) :
    ∃ x v, K x ∧ (loadVar t ⟨b, off, none⟩).run P E.w = .ok v E.w ∧ RepV E x v := by
  unfold getP at h
  split at h
  · rename_i i hi
    have hk := run_loadVar (hT t i hi) hm
    split at h
    · rename_i ha
      obtain ⟨r, hr, h⟩ := h
      obtain ⟨v, h1, h2⟩ := hk.1 ha r hr
      exact ⟨_, v, h, h1, h2⟩
    · rename_i ha
      obtain ⟨x, hx, h⟩ := h
      obtain ⟨v, h1, h2⟩ := hk.2 ha x hx
      exact ⟨_, v, h, h1, h2⟩
  · exact h.elim
theorem blk_cells {Z : Nat → Prop} {E : Env} {H : Heap} {nx : Nat} (h : HeapRep Z E H nx) {id n : Nat} {cs : List AV} (hi : H id = some cs) (hn : E.ρ id = some n)
    (j : Nat) (x : AV) (hx : cs[j]? = some x) : ∃ u, E.w.cell? ⟨n, j, none⟩ = some u ∧ RepV E x u := by
  rcases h.blk id cs hi with ⟨h0, _⟩ | ⟨m, hm, c, e, fr, h1, h2, h3, h4⟩
  · rw [hn] at h0; cases h0
  · obtain rfl : n = m := by rw [hn] at hm; injection hm
    obtain ⟨u, hu, hr⟩ := h4 j x hx
    exact ⟨u, by simp [World.cell?, h1, hu], hr⟩
theorem loadP_sound {P : Program} {T : Types} (hT : TOK P T) {Z : Nat → Prop} {E : Env} {H : Heap} {nx : Nat} (hr : HeapRep Z E H nx) {t : TypeId} {A : AV} {va : Value} {K : AV → Prop}
    (ha : RepV E A va) (h : loadP T H t A K) : ∃ x v, K x ∧ (Instr.loadAt t va).run P E.w = .ok v E.w ∧ RepV E x v := by
  unfold loadP at h
  split at h
  · rename_i id off
    simp only [RepV] at ha
    obtain ⟨n, hn, rfl⟩ := ha
    split at h
    · rename_i cs hcs
      obtain ⟨x, v, h1, h2, h3⟩ := getP_sound hT (b := n) (off := off) (E := E) (fun j x hx => blk_cells hr hcs hn (off + j) x (by simpa using hx)) h
      exact ⟨x, v, h1, by simp [Instr.loadAt, Instr.sureAddr, h2], h3⟩
    · exact h.elim
  · rename_i cs
    simp only [RepV] at ha
    obtain ⟨b, off, rfl, hc⟩ := ha
    rcases hc with rfl | ⟨_, hm⟩
    · obtain ⟨x, v, h1, h2, h3⟩ := getP_sound hT (b := b) (off := off) (E := E) (cs := []) (fun j x hx => by simp at hx) h
      exact ⟨x, v, h1, by simp [Instr.loadAt, Instr.sureAddr, h2], h3⟩
    · obtain ⟨x, v, h1, h2, h3⟩ := getP_sound hT (b := b) (off := off) (E := E) (repM_get cs b off hm) h
      exact ⟨x, v, h1, by simp [Instr.loadAt, Instr.sureAddr, h2], h3⟩
  · exact h.elim
end Go.Proofs.YtelnlfhdaelfdaaDoor.Abs
end
section
set_option linter.unusedVariables false
set_option linter.unusedSimpArgs false
namespace Go.Proofs.YtelnlfhdaelfdaaDoor.Abs
open Go
def setN (cs : List AV) (k : Nat) : List AV → List AV
  | [] => cs
  | x :: xs => setN (cs.set k x) (k + 1) xs
theorem setN_eq : ∀ (xs cs : List AV) (k : Nat), k + xs.length ≤ cs.length → setN cs k xs = cs.take k ++ xs ++ cs.drop (k + xs.length)
  | [], cs, k, h => by simp [setN]
  | x :: xs, cs, k, h => by
    simp only [List.length_cons] at h
    simp only [setN]
    rw [setN_eq xs (cs.set k x) (k + 1) (by simp; omega)]
    have h1 : (cs.set k x).take (k + 1) = cs.take k ++ [x] := by
      rw [List.take_succ_eq_append_getElem (by simp; omega)]
      simp [List.take_set_of_le]
    have h2 : (cs.set k x).drop (k + 1 + xs.length) = cs.drop (k + (x :: xs).length) := by
      rw [List.drop_set_of_lt (by omega)]
      simp only [List.length_cons]
      congr 1; omega
    rw [h1, h2]
    simp
theorem setH_twice (H : Heap) (id : Nat) (a b : Option (List AV)) : setH (setH H id a) id b = setH H id b := by
  funext i
  by_cases h : i = id
  · subst h; simp [setH_same]
  · rw [setH_ne _ _ h, setH_ne _ _ h, setH_ne _ _ h]
theorem setH_id (H : Heap) (id : Nat) (a : Option (List AV)) (h : H id = a) : setH H id a = H := by
  funext i
  by_cases hi : i = id
  · subst hi; rw [setH_same, h]
  · rw [setH_ne _ _ hi]
theorem run_store_one {P : Program} {Z : Nat → Prop} {E : Env} {H : Heap} {nx : Nat} (h : HeapRep Z E H nx) {id n j : Nat} {cs : List AV} {v : Value}
    (hi : H id = some cs) (hn : E.ρ id = some n) (hj : j < cs.length) (hs : scalar v = true) :
    (store ⟨n, j, none⟩ v).run P E.w = .ok () (E.w.setCell ⟨n, j, none⟩ v) := by
  rcases h.blk id cs hi with ⟨h0, _⟩ | ⟨m, hm, c, e, fr, h1, h2, h3, h4⟩
  · rw [hn] at h0; cases h0
  · obtain rfl : n = m := by rw [hn] at hm; injection hm
    have hjc : j < c.size := by omega
    have hcell : E.w.cell? ⟨n, j, none⟩ = some c[j] := by simp [World.cell?, h1, hjc]
    have hfr := frozen_false h1 (h2 j hjc)
    unfold store
    cases v with
    | agg _ => simp [scalar] at hs
    | tuple _ => simp [scalar] at hs
    | _ => simp [Sem.run, hcell, hfr]
theorem storeCells_sound {P : Program} {Z : Nat → Prop} {id n off : Nat} {nx : Nat} : ∀ (xs : List AV) (vs : List Value) (i : Nat) (E : Env) (H : Heap) (cs : List AV),
    HeapRep Z E H nx → H id = some cs → E.ρ id = some n → off + i + xs.length ≤ cs.length → RepL E xs vs → (∀ v ∈ vs, scalar v = true) →
    ∃ E', (storeCells ⟨n, off, none⟩ vs i).run P E.w = .ok () E'.w ∧ Later E E' ∧ Evo (Wr E.ρ H) E.w E'.w ∧ HeapRep Z E' (setH H id (some (setN cs (off + i) xs))) nx
  | [], vs, i, E, H, cs, h, hi, hn, hl, hr, hs => by
    simp only [RepL] at hr
    subst hr
    exact ⟨E, by simp [storeCells], Later.refl E, Evo.refl _ _, by simp only [setN]; rw [setH_id _ _ _ hi]; exact h⟩
  | x :: xs, vs, i, E, H, cs, h, hi, hn, hl, hr, hs => by
    simp only [RepL] at hr
    obtain ⟨u, us, rfl, hu, hr⟩ := hr
    simp only [List.length_cons] at hl
    have hj : off + i < cs.length := by omega
    have h1 := run_store_one (P := P) h hi hn hj (hs u (by simp))
    have h2 := h.store hi hn hj hu
    have hne : H id ≠ none := by rw [hi]; simp
    have L := later_store h (off + i) u hne hn
    have ev : Evo (Wr E.ρ H) E.w (E.store ⟨n, off + i, none⟩ u).w := Evo.setCell _ _ _ _ ⟨id, cs, hi, hn⟩
    obtain ⟨E', k1, k2, k3, k4⟩ := storeCells_sound (P := P) (off := off) xs us (i + 1) (E.store ⟨n, off + i, none⟩ u) (setH H id (some (cs.set (off + i) x))) (cs.set (off + i) x) h2
      (setH_same _ _ _) hn (by simp; omega) (RepL.later L _ _ hr) (fun v hv => hs v (by simp [hv]))
    refine ⟨E', ?_, L.trans k2, ?_, ?_⟩
    · simp only [storeCells, Sem.run_bind, addr_add, h1, Result.andThen_ok]
      exact k1
    · refine ev.trans k3 fun b hb hw => ?_
      obtain ⟨i', ds, e1, e2⟩ := hw
      by_cases hii : i' = id
      · subst hii; exact ⟨i', cs, hi, e2⟩
      · rw [setH_ne _ _ hii] at e1; exact ⟨i', ds, e1, e2⟩
    · rw [setH_twice] at k4
      simpa [setN, Nat.add_assoc] using k4
/-- All the cells of a value fit a cell each. -/
def AV.ones (X : AV) : Bool := (cellsA X).all AV.one
theorem ones_laid {X : AV} (h : X.ones = true) : X.laid = true := by
  cases X <;> simp_all [AV.ones, cellsA, AV.laid]
theorem repL_scalar {E : Env} (hη : ∀ i, scalar (E.η i) = true) : ∀ (cs : List AV) (vs : List Value), RepL E cs vs → (∀ x ∈ cs, x.one = true) → ∀ v ∈ vs, scalar v = true
  | [], vs, h, _ => by simp only [RepL] at h; subst h; simp
  | c :: cs, vs, h, hx => by
    simp only [RepL] at h
    obtain ⟨u, us, rfl, hu, h⟩ := h
    intro v hv
    rcases List.mem_cons.1 hv with rfl | hv
    · exact one_scalar hη hu (hx c (by simp))
    · exact repL_scalar hη cs us h (fun x hx' => hx x (by simp [hx'])) v hv
theorem ones_cells {E : Env} (hη : ∀ i, scalar (E.η i) = true) {X : AV} {v : Value} (h : RepV E X v) (ho : X.ones = true) :
    RepL E (cellsA X) v.cells.toList ∧ ∀ u ∈ v.cells.toList, scalar u = true := by
  have h1 := cells_rep hη h (ones_laid ho)
  exact ⟨h1, repL_scalar hη _ _ h1 (by simpa [AV.ones] using ho)⟩
def storeP (T : Types) (H : Heap) (t : TypeId) (A X : AV) (K : Heap → Prop) : Prop :=
  match A with
  | .ptr id off => match H id with
    | some cs => match T t with
      | some i => (X.ones = true ∧ (cellsA X).length = i.size ∧ off + i.size ≤ cs.length) ∧ K (setH H id (some (setN cs off (cellsA X))))
      | none => False
    | none => False
  | _ => False
theorem storeP_sound {P : Program} {T : Types} (hT : TOK P T) {Z : Nat → Prop} {E : Env} {H : Heap} {nx : Nat} (hr : HeapRep Z E H nx) {t : TypeId} {A X : AV} {va vx : Value} {K : Heap → Prop}
    (ha : RepV E A va) (hx : RepV E X vx) (h : storeP T H t A X K) :
    ∃ H' E', K H' ∧ (Instr.storeAt t va vx).run P E.w = .ok () E'.w ∧ Later E E' ∧ Evo (Wr E.ρ H) E.w E'.w ∧ HeapRep Z E' H' nx := by
  unfold storeP at h
  split at h
  · rename_i id off
    simp only [RepV] at ha
    obtain ⟨n, hn, rfl⟩ := ha
    split at h
    · rename_i cs hcs
      split at h
      · rename_i i hi
        obtain ⟨⟨ho, hl, hb⟩, hk⟩ := h
        obtain ⟨h1, h2⟩ := ones_cells hr.one hx ho
        obtain ⟨E', k1, k2, k3, k4⟩ := storeCells_sound (P := P) (off := off) (cellsA X) vx.cells.toList 0 E H cs hr hcs hn (by rw [hl]; simpa using hb) h1 h2
        refine ⟨_, E', hk, ?_, k2, k3, by simpa using k4⟩
        have hsz : vx.cells.size = i.size := by
          have := repL_length _ _ h1
          simp at this
          omega
        simp only [Instr.storeAt, Sem.run_bind, Instr.sureAddr, Sem.run_pure, Result.andThen_ok, storeVar, run_sizeOf (hT t i hi), hsz, ne_eq, not_true_eq_false, if_false]
        simpa using k1
      · exact h.elim
    · exact h.elim
  · exact h.elim
/-- A new row of cells. -/
theorem newRow_sound {P : Program} {Z : Nat → Prop} {E : Env} {H : Heap} {nx : Nat} (h : HeapRep Z E H nx) (e : TypeId) (c : Array Value) (cs : List AV)
    (hl : cs.length ≤ c.size) (hc : ∀ (j : Nat) x, cs[j]? = some x → ∃ u, c[j]? = some u ∧ RepV E x u) :
    (newRow e c).run P E.w = .ok ⟨E.w.heap.size, 0, none⟩ (E.alloc nx (.cells c e)).w ∧ Later E (E.alloc nx (.cells c e)) ∧ Evo (Wr E.ρ H) E.w (E.alloc nx (.cells c e)).w ∧
      HeapRep Z (E.alloc nx (.cells c e)) (setH H nx (some cs)) (nx + 1) ∧ (E.alloc nx (.cells c e)).ρ nx = some E.w.heap.size := by
  refine ⟨by simp [newRow, newObj, Sem.run, Env.alloc], later_alloc E _ (h.fresh nx (Nat.le_refl _)).1, Evo.alloc _ _ _, h.alloc c e (0, 0) cs (fun j _ hj => by simp at hj) hl hc, alloc_ρ_same _ _ _⟩
def boxP (H : Heap) (nx : Nat) (X : AV) (K : AV → Heap → Nat → Prop) : Prop :=
  force X fun X => X.ones = true ∧ K (.ptr nx 0) (setH H nx (some (cellsA X))) (nx + 1)
theorem boxP_sound {P : Program} {Z : Nat → Prop} {E : Env} {H : Heap} {nx : Nat} (hr : HeapRep Z E H nx) {e : TypeId} {X : AV} {v : Value} {K : AV → Heap → Nat → Prop}
    (hx : RepV E X v) (h : boxP H nx X K) : ∃ x H' nx' E' r, K x H' nx' ∧ (Instr.box e v).run P E.w = .ok r E'.w ∧ After Z E H x H' nx' r E' := by
  unfold boxP at h
  rw [force_eq] at h
  obtain ⟨ho, hk⟩ := h
  have h1 := (ones_cells hr.one hx ho).1
  obtain ⟨k1, k2, k3, k4, k5⟩ := newRow_sound (P := P) hr e v.cells (cellsA X) (by have := repL_length _ _ h1; simp at this; omega)
    (fun j x hx' => by obtain ⟨u, hu, hr'⟩ := repL_get _ _ h1 j x hx'; exact ⟨u, by simpa using hu, hr'⟩)
  refine ⟨_, _, _, _, .pointer (some ⟨E.w.heap.size, 0, none⟩), hk, ?_, ⟨k2, k3, ?_, k4⟩⟩
  · simp only [Instr.box, newVar, Sem.run_bind, k1, Result.andThen_ok, Sem.run_pure]
  · simp only [RepV]; exact ⟨_, k5, rfl⟩
def allocP (T : Types) (H : Heap) (nx : Nat) (e : TypeId) (K : AV → Heap → Nat → Prop) : Prop :=
  match T e with
  | some i => boxP H nx i.zero K
  | none => False
theorem allocP_sound {P : Program} {T : Types} (hT : TOK P T) {Z : Nat → Prop} {E : Env} {H : Heap} {nx : Nat} (hr : HeapRep Z E H nx) {e : TypeId} {K : AV → Heap → Nat → Prop}
    (h : allocP T H nx e K) : ∃ x H' nx' E' r, K x H' nx' ∧ (Instr.alloc e true (.tuple #[])).run P E.w = .ok r E'.w ∧ After Z E H x H' nx' r E' := by
  unfold allocP at h
  split at h
  · rename_i i hi
    have hz : i.zero ≠ .top := fun e => by rw [e] at h; simp [boxP, force_eq, AV.ones, cellsA, AV.one] at h
    obtain ⟨z, hz1, hz2⟩ := run_zeroValue (hT e i hi) hz E.w
    obtain ⟨x, H', nx', E', r, k1, k2, k3⟩ := boxP_sound (P := P) (e := e) hr (hz2 E) h
    refine ⟨x, H', nx', E', r, k1, ?_, k3⟩
    have : (Instr.alloc e true (.tuple #[])).run P E.w = (Instr.box e z).run P E.w := by
      simp only [Instr.alloc, Instr.box, Sem.run_bind, hz1, Result.andThen_ok]
    rw [this]; exact k2
  · exact h.elim
end Go.Proofs.YtelnlfhdaelfdaaDoor.Abs
end
section
set_option linter.unusedVariables false
set_option linter.unusedSimpArgs false
namespace Go.Proofs.YtelnlfhdaelfdaaDoor.Abs
open Go
/-- Of a value in hand: its part at some cells. -/
theorem run_part {P : Program} {E : Env} {t : TypeId} {i : TI} (h : TIok P t i) {vs : Array Value} {cs : List AV} (hr : RepL E cs vs.toList) (o : Nat) (w : World) :
    (i.d.agg = true → ∀ r, takeN i.size (cs.drop o) = some r → ∃ v, (part t vs o).run P w = .ok v w ∧ RepV E (.agg r) v) ∧
    (i.d.agg = false → ∀ x, (cs.drop o)[0]? = some x → ∃ v, (part t vs o).run P w = .ok v w ∧ RepV E x v) := by
  constructor
  · intro ha r hr'
    obtain ⟨hl, rfl⟩ := takeN_spec _ _ _ hr'
    refine ⟨.agg (vs.extract o (o + i.size)), by simp [part, run_isAgg h, ha, run_sizeOf h], ?_⟩
    simp only [RepV]
    refine ⟨_, rfl, repL_of_get _ _ ?_ fun j x u hx hu => ?_⟩
    · have := repL_length _ _ hr
      simp at this hl ⊢
      omega
    · have hj : j < i.size := by
        rcases Nat.lt_or_ge j ((cs.drop o).take i.size).length with h' | h'
        · simp at h'; omega
        · simp [List.getElem?_eq_none h'] at hx
      rw [List.getElem?_take_of_lt hj, List.getElem?_drop] at hx
      obtain ⟨u', h1, h2⟩ := repL_get _ _ hr _ x hx
      rw [Array.toList_extract, List.extract_eq_take_drop, List.getElem?_take_of_lt (by omega), List.getElem?_drop, h1] at hu
      injection hu with hu
      rw [← hu]; exact h2
  · intro ha x hx
    rw [List.getElem?_drop] at hx
    obtain ⟨u, h1, h2⟩ := repL_get _ _ hr _ x hx
    simp only [Nat.add_zero, Array.getElem?_toList] at h1
    exact ⟨u, by simp [part, run_isAgg h, ha, h1], h2⟩
theorem getP_part {P : Program} {T : Types} (hT : TOK P T) {E : Env} {t : TypeId} {vs : Array Value} {cs : List AV} {o : Nat} {K : AV → Prop} (hr : RepL E cs vs.toList)
    (h : getP T t (cs.drop o) K) : ∃ x v, K x ∧ (∀ w, (part t vs o).run P w = .ok v w) ∧ RepV E x v := by
  unfold getP at h
  split at h
  · rename_i i hi
    split at h
    · rename_i ha
      obtain ⟨r, hr', h⟩ := h
      obtain ⟨v, h1, h2⟩ := (run_part (P := P) (hT t i hi) hr o default).1 ha r hr'
      refine ⟨_, v, h, fun w => ?_, h2⟩
      obtain ⟨v', h1', _⟩ := (run_part (P := P) (hT t i hi) hr o w).1 ha r hr'
      have e1 : (part t vs o).run P default = .ok (.agg (vs.extract o (o + i.size))) default := by simp [part, run_isAgg (hT t i hi), ha, run_sizeOf (hT t i hi)]
      have e2 : (part t vs o).run P w = .ok (.agg (vs.extract o (o + i.size))) w := by simp [part, run_isAgg (hT t i hi), ha, run_sizeOf (hT t i hi)]
      rw [e1] at h1
      injection h1 with h1 _
      rw [e2, h1]
    · rename_i ha
      obtain ⟨x, hx, h⟩ := h
      rw [List.getElem?_drop] at hx
      obtain ⟨u, h1, h2⟩ := repL_get _ _ hr _ x hx
      simp only [Nat.add_zero, Array.getElem?_toList] at h1
      exact ⟨x, u, h, fun w => by simp [part, run_isAgg (hT t i hi), ha, h1], h2⟩
  · exact h.elim
def fieldP (T : Types) (t : TypeId) (X : AV) (f : Nat) (K : AV → Prop) : Prop :=
  match T t with
  | some ⟨.struct fs, _, _, _, _⟩ => match fs[f]? with
    | some (o, ft) => match X with
      | .agg cs => getP T ft (cs.drop o) K
      | _ => False
    | none => False
  | _ => False
theorem struct_und {P : Program} {t : TypeId} {fs : List (Nat × TypeId)} {a b : Nat} {z : AV} {sg : List Seg} (h : TIok P t ⟨.struct fs, a, b, z, sg⟩) {f o : Nat} {ft : TypeId} (hf : fs[f]? = some (o, ft)) :
    ∃ (fields : Array Field) (fd : Field), P.underlying t = some (.struct fields) ∧ fields[f]? = some fd ∧ fd.offset = o ∧ fd.type = ft := by
  obtain ⟨d, hd, ho, _⟩ := h.und
  obtain ⟨fields, rfl, hm⟩ := ho
  have : (fields.toList.map (fun f => (f.offset, f.type)))[f]? = some (o, ft) := by rw [hm]; exact hf
  rw [List.getElem?_map, Array.getElem?_toList] at this
  cases hh : fields[f]? with
  | none => rw [hh] at this; simp at this
  | some fd =>
    rw [hh] at this
    simp at this
    exact ⟨fields, fd, hd, hh, this.1, this.2⟩
theorem fieldP_sound {P : Program} {T : Types} (hT : TOK P T) {E : Env} {t : TypeId} {X : AV} {f : Nat} {v : Value} {K : AV → Prop} (hx : RepV E X v) (h : fieldP T t X f K) :
    ∃ x r, K x ∧ (∀ w, (Instr.field t v f).run P w = .ok r w) ∧ RepV E x r := by
  unfold fieldP at h
  split at h
  · rename_i fs a b z sg hi
    split at h
    · rename_i o ft hf
      split at h
      · rename_i cs
        simp only [RepV] at hx
        obtain ⟨vs, rfl, hr⟩ := hx
        obtain ⟨x, r, h1, h2, h3⟩ := getP_part hT hr h
        obtain ⟨fields, fd, e1, e2, rfl, rfl⟩ := struct_und (hT t _ hi) hf
        exact ⟨x, r, h1, fun w => by simp [Instr.field, run_underlying e1, e2, asAgg, h2], h3⟩
      · exact h.elim
    · exact h.elim
  · exact h.elim
def ptrAdd (A : AV) (o : Nat) (K : AV → Prop) : Prop :=
  match A with
  | .ptr id off => K (.ptr id (off + o))
  | .rop cs => K (.rop (cs.drop o))
  | _ => False
theorem repM_drop {E : Env} {cs : List AV} {b off : Nat} (h : RepM E cs b off) (o : Nat) : RepM E (cs.drop o) b (off + o) :=
  repM_of_get _ _ _ fun j x hx => by
    rw [List.getElem?_drop] at hx
    obtain ⟨u, h1, h2⟩ := repM_get _ _ _ h _ x hx
    exact ⟨u, by rw [Nat.add_assoc]; exact h1, h2⟩
theorem ptrAdd_sound {E : Env} {A : AV} {o : Nat} {K : AV → Prop} {v : Value} (hv : RepV E A v) (h : ptrAdd A o K) :
    ∃ x a, K x ∧ v = .pointer (some a) ∧ RepV E x (.pointer (some (a.add o))) := by
  unfold ptrAdd at h
  split at h
  · simp only [RepV] at hv
    obtain ⟨n, hn, rfl⟩ := hv
    exact ⟨_, _, h, rfl, by simp only [RepV]; exact ⟨n, hn, by rw [addr_add]⟩⟩
  · simp only [RepV] at hv
    obtain ⟨b, off, rfl, hc⟩ := hv
    refine ⟨_, _, h, rfl, ?_⟩
    simp only [RepV]
    refine ⟨b, off + o, by rw [addr_add], ?_⟩
    rcases hc with rfl | ⟨hV, hm⟩
    · exact .inl (by simp)
    · exact .inr ⟨hV, repM_drop hm o⟩
  · exact h.elim
def fieldAddrP (T : Types) (t : TypeId) (A : AV) (f : Nat) (K : AV → Prop) : Prop :=
  match T t with
  | some ⟨.struct fs, _, _, _, _⟩ => match fs[f]? with
    | some (o, ft) => match T ft with
      | some i => match i.size with
        | _ + 1 => ptrAdd A o K
        | 0 => False
      | none => False
    | none => False
  | _ => False
theorem fieldAddrP_sound {P : Program} {T : Types} (hT : TOK P T) {E : Env} {t : TypeId} {A : AV} {f : Nat} {v : Value} {K : AV → Prop} (hx : RepV E A v) (h : fieldAddrP T t A f K) :
    ∃ x r, K x ∧ (∀ w, (Instr.fieldAt t v f).run P w = .ok r w) ∧ RepV E x r := by
  unfold fieldAddrP at h
  split at h
  · rename_i fs a b z sg hi
    split at h
    · rename_i o ft hf
      split at h
      · rename_i i hft
        split at h
        · rename_i m hm
          obtain ⟨x, a, h1, rfl, h3⟩ := ptrAdd_sound hx h
          obtain ⟨fields, fd, e1, e2, rfl, rfl⟩ := struct_und (hT t _ hi) hf
          refine ⟨x, _, h1, fun w => ?_, h3⟩
          simp [Instr.fieldAt, run_underlying e1, e2, Instr.sureAddr, fieldPlace, run_sizeOf (hT _ _ hft), hm]
        · exact h.elim
      · exact h.elim
    · exact h.elim
  · exact h.elim
def indexAddrP (T : Types) (t : TypeId) (X I : AV) (K : AV → Prop) : Prop :=
  match I with
  | .int _ i => match T t with
    | some ⟨.slice e, _, _, _, _⟩ => match T e with
      | some ei => match X with
        | .ro len cs => (0 ≤ i ∧ i < len ∧ i.toNat * ei.size < cs.length) ∧ K (.rop (cs.drop (i.toNat * ei.size)))
        | .sl id off len esz full => (0 ≤ i ∧ i < len) ∧ K (.ptr id (off + i.toNat * ei.size))
        | _ => False
      | none => False
    | some ⟨.arr n e, _, _, _, _⟩ => match T e with
      | some ei => (0 ≤ i ∧ i < n) ∧ ptrAdd X (i.toNat * ei.size) K
      | none => False
    | _ => False
  | _ => False
theorem indexAddrP_sound {P : Program} {T : Types} (hT : TOK P T) {E : Env} {t : TypeId} {X I : AV} {v vi : Value} {K : AV → Prop} (hx : RepV E X v) (hi : RepV E I vi)
    (h : indexAddrP T t X I K) : ∃ x r, K x ∧ (∀ w, (Instr.indexAt t v vi).run P w = .ok r w) ∧ RepV E x r := by
  unfold indexAddrP at h
  split at h
  · rename_i k i
    simp only [RepV] at hi
    subst hi
    split at h
    · rename_i e a b z sg ht
      obtain ⟨d, hd, ho, _⟩ := (hT t _ ht).und
      have ho' : d = .slice e := ho
      subst ho'
      split at h
      · rename_i ei he
        have hsz := fun w => run_sizeOf (hT e _ he) w
        split at h
        · rename_i len cs
          obtain ⟨⟨h0, h1, h2⟩, hk⟩ := h
          simp only [RepV] at hx
          obtain ⟨ao, cap, rfl, hl, hc⟩ := hx
          rcases hc with rfl | ⟨bb, off, rfl, hV, hm⟩
          · simp at h2
          · refine ⟨_, .pointer (some (Addr.add ⟨bb, off, none⟩ (i.toNat * ei.size))), hk, fun w => ?_, ?_⟩
            · simp [Instr.indexAt, asIntOf, run_underlying hd, h0, h1, hsz]
            · simp only [RepV]
              exact ⟨bb, off + i.toNat * ei.size, by rw [addr_add], .inr ⟨hV, repM_drop hm _⟩⟩
        · rename_i id off len esz full
          obtain ⟨⟨h0, h1⟩, hk⟩ := h
          simp only [RepV] at hx
          obtain ⟨ao, cap, rfl, hl, hf, hc⟩ := hx
          rcases hc with rfl | ⟨n, c, e', fr, hn, rfl, hh, hs⟩
          · omega
          · refine ⟨_, .pointer (some (Addr.add ⟨n, off, none⟩ (i.toNat * ei.size))), hk, fun w => ?_, ?_⟩
            · simp [Instr.indexAt, asIntOf, run_underlying hd, h0, h1, hsz]
            · simp only [RepV]
              exact ⟨n, hn, by rw [addr_add]⟩
        · exact h.elim
      · exact h.elim
    · rename_i m e a b z sg ht
      obtain ⟨d, hd, ho, _⟩ := (hT t _ ht).und
      have ho' : d = .array m e := ho
      subst ho'
      split at h
      · rename_i ei he
        have hsz := fun w => run_sizeOf (hT e _ he) w
        obtain ⟨⟨h0, h1⟩, hk⟩ := h
        obtain ⟨x, a', k1, rfl, k3⟩ := ptrAdd_sound hx hk
        exact ⟨x, _, k1, fun w => by simp [Instr.indexAt, asIntOf, run_underlying hd, h0, h1, hsz, Instr.sureAddr], k3⟩
      · exact h.elim
    · exact h.elim
  · exact h.elim
def indexP (T : Types) (t : TypeId) (X I : AV) (K : AV → Prop) : Prop :=
  match I with
  | .int _ i => match X with
    | .str s => match T t with
      | some ⟨.str, _, _, _, _⟩ => (0 ≤ i ∧ i.toNat < s.length) ∧ K (.int .u8 (s.getD i.toNat 0))
      | _ => False
    | .agg cs => match T t with
      | some ⟨.arr n e, _, _, _, _⟩ => match T e with
        | some ei => (0 ≤ i ∧ i < n) ∧ getP T e (cs.drop (i.toNat * ei.size)) K
        | none => False
      | _ => False
    | _ => False
  | _ => False
theorem indexP_sound {P : Program} {T : Types} (hT : TOK P T) {E : Env} {t : TypeId} {X I : AV} {v vi : Value} {K : AV → Prop} (hx : RepV E X v) (hi : RepV E I vi)
    (h : indexP T t X I K) : ∃ x r, K x ∧ (∀ w, (Instr.index t v vi).run P w = .ok r w) ∧ RepV E x r := by
  unfold indexP at h
  split at h
  · rename_i k i
    simp only [RepV] at hi
    subst hi
    split at h
    · rename_i s
      split at h
      · rename_i a b z sg ht
        obtain ⟨d, hd, ho, _⟩ := (hT t _ ht).und
        have ho' : d = .string := ho
        subst ho'
        obtain ⟨⟨h0, h1⟩, hk⟩ := h
        simp only [RepV] at hx
        obtain ⟨ba, rfl, rfl⟩ := hx
        have h1' : i.toNat < ba.size := by rwa [length_bytesOf] at h1
        refine ⟨_, _, hk, fun w => ?_, rep_int E _ _⟩
        have e : (bytesOf ba).getD i.toNat 0 = ((ba[i.toNat]'h1').toNat : Int) := by
          have hd' : i.toNat < ba.data.toList.length := by simpa using h1'
          unfold bytesOf
          rw [List.getD_eq_getElem?_getD, List.getElem?_map, List.getElem?_eq_getElem hd']
          rfl
        have : (if 0 ≤ i then ba[i.toNat]? else none) = some (ba[i.toNat]'h1') := by
          rw [if_pos h0]
          exact getElem?_pos ba i.toNat h1'
        simp only [Instr.index, asIntOf, Sem.run_bind, Sem.run_pure, Result.andThen_ok, run_underlying hd, this, e]
      · exact h.elim
    · rename_i cs
      split at h
      · rename_i n e a b z sg ht
        obtain ⟨d, hd, ho, _⟩ := (hT t _ ht).und
        have ho' : d = .array n e := ho
        subst ho'
        split at h
        · rename_i ei he
          obtain ⟨⟨h0, h1⟩, hk⟩ := h
          simp only [RepV] at hx
          obtain ⟨vs, rfl, hr⟩ := hx
          obtain ⟨x, r, k1, k2, k3⟩ := getP_part hT hr hk
          exact ⟨x, r, k1, fun w => by simp [Instr.index, asIntOf, run_underlying hd, h0, h1, run_sizeOf (hT e _ he), k2], k3⟩
        · exact h.elim
      · exact h.elim
    · exact h.elim
  · exact h.elim
def extractP (X : AV) (i : Nat) (K : AV → Prop) : Prop :=
  match X with
  | .tuple cs => match cs[i]? with
    | some x => K x
    | none => False
  | _ => False
theorem extractP_sound {P : Program} {E : Env} {X : AV} {i : Nat} {v : Value} {K : AV → Prop} (hx : RepV E X v) (h : extractP X i K) :
    ∃ x r, K x ∧ (∀ w, (Instr.extract v i).run P w = .ok r w) ∧ RepV E x r := by
  unfold extractP at h
  split at h
  · rename_i cs
    split at h
    · rename_i x hx'
      simp only [RepV] at hx
      obtain ⟨vs, rfl, hr⟩ := hx
      obtain ⟨u, h1, h2⟩ := repL_get _ _ hr _ x hx'
      simp only [Array.getElem?_toList] at h1
      exact ⟨x, u, h, fun w => by simp [Instr.extract, h1], h2⟩
    · exact h.elim
  · exact h.elim
def lenP (T : Types) (t : TypeId) (X : AV) (K : AV → Prop) : Prop :=
  match X with
  | .str s => match T t with
    | some ⟨.str, _, _, _, _⟩ => K (.int .i64 s.length)
    | _ => False
  | .nil => match T t with
    | some ⟨.slice _, _, _, _, _⟩ => K (.int .i64 0)
    | _ => False
  | .ro len _ => match T t with
    | some ⟨.slice _, _, _, _, _⟩ => K (.int .i64 len)
    | _ => False
  | .sl _ _ len _ _ => match T t with
    | some ⟨.slice _, _, _, _, _⟩ => K (.int .i64 len)
    | _ => False
  | _ => False
theorem lenP_sound {P : Program} {T : Types} (hT : TOK P T) {E : Env} {t ty : TypeId} {X : AV} {v : Value} {K : AV → Prop} (hx : RepV E X v) (h : lenP T t X K) :
    ∃ x r, K x ∧ (∀ w, (Builtin.len_ #[t] ty #[v]).run P w = .ok r w) ∧ RepV E x r := by
  unfold lenP at h
  have slice : ∀ {e a b z sg}, T t = some ⟨.slice e, a, b, z, sg⟩ → ∀ (o : Option Addr) (n c : Nat) w, (Builtin.len_ #[t] ty #[.slice o n c]).run P w = .ok (goInt n) w := by
    intro e a b z sg ht o n c w
    obtain ⟨d, hd, ho, _⟩ := (hT t _ ht).und
    have ho' : d = .slice e := ho
    subst ho'
    simp [Builtin.len_, run_underlying hd]
  split at h
  · split at h
    · rename_i a b z sg ht
      obtain ⟨d, hd, ho, _⟩ := (hT t _ ht).und
      have ho' : d = .string := ho
      subst ho'
      simp only [RepV] at hx
      obtain ⟨ba, rfl, rfl⟩ := hx
      exact ⟨_, _, h, fun w => by simp [Builtin.len_, run_underlying hd, goInt, length_bytesOf], rep_int E _ _⟩
    · exact h.elim
  · split at h
    · rename_i e a b z sg ht
      simp only [RepV] at hx
      subst hx
      exact ⟨_, _, h, fun w => by rw [slice ht]; rfl, rep_int E _ _⟩
    · exact h.elim
  · split at h
    · rename_i e a b z sg ht
      simp only [RepV] at hx
      obtain ⟨ao, cap, rfl, _⟩ := hx
      exact ⟨_, _, h, fun w => by rw [slice ht]; rfl, rep_int E _ _⟩
    · exact h.elim
  · split at h
    · rename_i e a b z sg ht
      simp only [RepV] at hx
      obtain ⟨ao, cap, rfl, _⟩ := hx
      exact ⟨_, _, h, fun w => by rw [slice ht]; rfl, rep_int E _ _⟩
    · exact h.elim
  · exact h.elim
end Go.Proofs.YtelnlfhdaelfdaaDoor.Abs
end
section
set_option linter.unusedVariables false
set_option linter.unusedSimpArgs false
namespace Go.Proofs.YtelnlfhdaelfdaaDoor.Abs
open Go
def intO : Option AV → Option (Option Int)
  | none => some none
  | some (.int _ i) => some (some i)
  | some _ => none
def okB (l h : Option Int) (len : Nat) : Prop :=
  match l, h with
  | none, none => True
  | none, some h => 0 ≤ h ∧ h ≤ len
  | some l, none => 0 ≤ l ∧ l ≤ len
  | some l, some h => 0 ≤ l ∧ l ≤ h ∧ h ≤ len
def offB : Option Int → Nat
  | none => 0
  | some l => l.toNat
def endB (h : Option Int) (len : Nat) : Nat :=
  match h with
  | none => len
  | some h => h.toNat
def lenB (l h : Option Int) (len : Nat) : Nat :=
  match l, h with
  | none, none => len
  | none, some h => h.toNat
  | some l, none => len - l.toNat
  | some l, some h => h.toNat - l.toNat
theorem lenB_eq (l h : Option Int) (len : Nat) : lenB l h len = endB h len - offB l := by
  cases l <;> cases h <;> simp [lenB, endB, offB]
def cutB {α : Type} (cs : List α) (l h : Option Int) (sz : Nat) : List α :=
  match l, h with
  | none, none => cs
  | none, some h => cs.take (h.toNat * sz)
  | some l, none => cs.drop (l.toNat * sz)
  | some l, some h => (cs.drop (l.toNat * sz)).take ((h.toNat - l.toNat) * sz)
theorem cutB_get {α : Type} (cs : List α) (l h : Option Int) (sz : Nat) (j : Nat) (x : α) (hx : (cutB cs l h sz)[j]? = some x) : cs[offB l * sz + j]? = some x := by
  cases l <;> cases h <;> simp only [cutB, offB, Nat.zero_mul, Nat.zero_add, List.getElem?_drop] at hx ⊢
  · exact hx
  · rename_i h
    by_cases hj : j < h.toNat * sz
    · rwa [List.getElem?_take_of_lt hj] at hx
    · rw [List.getElem?_eq_none (by simp; omega)] at hx; cases hx
  · exact hx
  · rename_i l h
    by_cases hj : j < (h.toNat - l.toNat) * sz
    · rwa [List.getElem?_take_of_lt hj, List.getElem?_drop] at hx
    · rw [List.getElem?_eq_none (by simp; omega)] at hx; cases hx
theorem okB_le {l h : Option Int} {len : Nat} (ok : okB l h len) : offB l ≤ endB h len ∧ endB h len ≤ len := by
  cases l <;> cases h <;> simp only [okB] at ok <;> simp only [offB, endB] <;> omega
theorem cutB_length {α : Type} (cs : List α) (l h : Option Int) (sz len : Nat) (hc : cs.length = len * sz) (ok : okB l h len) : (cutB cs l h sz).length = lenB l h len * sz := by
  cases l <;> cases h <;> simp only [okB] at ok <;> simp only [cutB, lenB, List.length_take, List.length_drop, hc]
  · rename_i h
    apply Nat.min_eq_left
    exact Nat.mul_le_mul_right _ (by omega)
  · rw [Nat.sub_mul]
  · rename_i l h
    rw [← Nat.sub_mul]
    apply Nat.min_eq_left
    exact Nat.mul_le_mul_right _ (by omega)
/-- The operands of a slice expression, as values. -/
def RepO (E : Env) : Option AV → Option Value → Prop
  | none, o => o = none
  | some x, o => ∃ v, o = some v ∧ RepV E x v
theorem run_bounds {P : Program} {E : Env} {lo hi : Option AV} {lv hv : Option Value} {l h : Option Int} (hl : RepO E lo lv) (hh : RepO E hi hv) (il : intO lo = some l) (ih : intO hi = some h)
    (b : Bool) (len cap : Nat) (hc : len ≤ cap) (ok : okB l h len) (w : World) : (Instr.sliceBounds b len cap lv hv none).run P w = .ok (offB l, endB h len, cap) w := by
  have key : ∀ (o : Option AV) (ov : Option Value) (i : Option Int), RepO E o ov → intO o = some i → (i = none ∧ ov = none) ∨ ∃ k n, i = some n ∧ ov = some (.int k n) := by
    intro o ov i h1 h2
    cases o with
    | none => simp only [intO] at h2; injection h2 with h2; simp only [RepO] at h1; exact .inl ⟨h2.symm, h1⟩
    | some x =>
      simp only [RepO] at h1
      obtain ⟨v, rfl, hr⟩ := h1
      cases x <;> simp only [intO] at h2 <;> (try cases h2)
      simp only [RepV] at hr
      exact .inr ⟨_, _, rfl, by rw [hr]⟩
  rcases key lo lv l hl il with ⟨rfl, rfl⟩ | ⟨k1, n1, rfl, rfl⟩ <;> rcases key hi hv h hh ih with ⟨rfl, rfl⟩ | ⟨k2, n2, rfl, rfl⟩ <;> simp only [okB] at ok
  · simp [Instr.sliceBounds, offB, endB]
  · have e2 := fun c => run_sliceBound (P := P) w k2 n2 cap c (by omega) (by omega)
    simp [Instr.sliceBounds, offB, endB, e2]
  · have e1 := fun c => run_sliceBound (P := P) w k1 n1 len c (by omega) (by omega)
    simp [Instr.sliceBounds, offB, endB, e1]
  · have e2 := fun c => run_sliceBound (P := P) w k2 n2 cap c (by omega) (by omega)
    have e1 := fun c => run_sliceBound (P := P) w k1 n1 n2.toNat c (by omega) (by omega)
    simp [Instr.sliceBounds, offB, endB, e1, e2]
def sliceP (T : Types) (H : Heap) (t : TypeId) (X : AV) (lo hi : Option AV) (K : AV → Prop) : Prop :=
  match intO lo, intO hi with
  | some l, some h => match X with
    | .str s => match T t with
      | some ⟨.str, _, _, _, _⟩ => okB l h s.length ∧ K (.str (cutB s l h 1))
      | _ => False
    | .nil => match T t with
      | some ⟨.slice e, _, _, _, _⟩ => match T e with
        | some ei => okB l h 0 ∧ K .nil
        | none => False
      | _ => False
    | .ro len cs => match T t with
      | some ⟨.slice e, _, _, _, _⟩ => match T e with
        | some ei => (cs.length = len * ei.size ∧ okB l h len) ∧ K (.ro (lenB l h len) (cutB cs l h ei.size))
        | none => False
      | _ => False
    | .sl id off len esz full => match T t with
      | some ⟨.slice e, _, _, _, _⟩ => match T e with
        | some ei => (esz = ei.size ∧ okB l h len) ∧ K (.sl id (off + offB l * esz) (lenB l h len) esz (match h with | none => full | some _ => false))
        | none => False
      | _ => False
    | .ptr id off => match T t with
      | some ⟨.arr n e, _, _, _, _⟩ => match T e, H id with
        | some ei, some cs => (off + n * ei.size ≤ cs.length ∧ okB l h n) ∧ K (.sl id (off + offB l * ei.size) (lenB l h n) ei.size (match h with | none => true | some _ => false))
        | _, _ => False
      | _ => False
    | .rop cs => match T t with
      | some ⟨.arr n e, _, _, _, _⟩ => match T e with
        | some ei => (n * ei.size ≤ cs.length ∧ okB l h n) ∧ K (.ro (lenB l h n) (cutB (cs.take (n * ei.size)) l h ei.size))
        | none => False
      | _ => False
    | _ => False
  | _, _ => False
theorem ro_cut {E : Env} {cs : List AV} {b off : Nat} (h : RepM E cs b off) (l hh : Option Int) (sz : Nat) : RepM E (cutB cs l hh sz) b (off + offB l * sz) :=
  repM_of_get _ _ _ fun j x hx => by
    obtain ⟨u, h1, h2⟩ := repM_get _ _ _ h _ x (cutB_get cs l hh sz j x hx)
    exact ⟨u, by rw [Nat.add_assoc]; exact h1, h2⟩
theorem cutB_str (s : ByteArray) (l h : Option Int) (ok : okB l h s.size) : bytesOf (s.extract (offB l) (endB h s.size)) = cutB (bytesOf s) l h 1 := by
  have hlen := length_bytesOf s
  have e : bytesOf (s.extract (offB l) (endB h s.size)) = ((bytesOf s).drop (offB l)).take (endB h s.size - offB l) := by
    unfold bytesOf
    rw [Go.Lib.extract_data, List.map_take, List.map_drop]
  rw [e]
  cases l <;> cases h <;> simp only [okB] at ok <;> simp only [offB, endB, cutB, Nat.mul_one, List.drop_zero, Nat.sub_zero]
  · rw [← hlen, List.take_length]
  · apply List.take_of_length_le; simp [hlen]
set_option maxHeartbeats 1000000 in
theorem sliceP_sound {P : Program} {T : Types} (hT : TOK P T) {Z : Nat → Prop} {E : Env} {H : Heap} {nx : Nat} (hr : HeapRep Z E H nx) {t : TypeId} {X : AV} {lo hi : Option AV} {v : Value} {lv hv : Option Value}
    {K : AV → Prop} (hx : RepV E X v) (hl : RepO E lo lv) (hh : RepO E hi hv) (h : sliceP T H t X lo hi K) :
    ∃ x r, K x ∧ (∀ w, (Instr.sliceAt t v lv hv none).run P w = .ok r w) ∧ RepV E x r := by
  unfold sliceP at h
  split at h
  case h_2 => exact h.elim
  rename_i l hb il ih
  split at h
  · rename_i s
    split at h
    · rename_i a b z sg ht
      obtain ⟨d, hd, ho, _⟩ := (hT t _ ht).und
      have ho' : d = .string := ho
      subst ho'
      obtain ⟨ok, hk⟩ := h
      simp only [RepV] at hx
      obtain ⟨ba, rfl, rfl⟩ := hx
      rw [length_bytesOf] at ok
      refine ⟨_, .string (ba.extract (offB l) (endB hb ba.size)), hk, fun w => ?_, ?_⟩
      · have := run_bounds (P := P) hl hh il ih false ba.size ba.size (Nat.le_refl _) ok w
        simp [Instr.sliceAt, Instr.slice, run_underlying hd, this]
      · simp only [RepV]; exact ⟨_, rfl, cutB_str ba l hb ok⟩
    · exact h.elim
  · split at h
    · rename_i e a b z sg ht
      obtain ⟨d, hd, ho, _⟩ := (hT t _ ht).und
      have ho' : d = .slice e := ho
      subst ho'
      split at h
      · rename_i ei he
        have hs := fun w => run_sizeOf (hT e _ he) w
        obtain ⟨ok, hk⟩ := h
        simp only [RepV] at hx
        subst hx
        obtain ⟨h1, h2⟩ := okB_le ok
        have ho1 : offB l = 0 := by omega
        have ho2 : endB hb 0 = 0 := by omega
        refine ⟨_, .slice none 0 0, hk, fun w => ?_, by simp only [RepV]⟩
        have hbd := run_bounds (P := P) hl hh il ih true 0 0 (Nat.le_refl _) ok w
        rw [ho1, ho2] at hbd
        simp only [Instr.sliceAt, Sem.run_bind, run_underlying hd, Result.andThen_ok, Instr.slice, hbd]
        simp [hs]
      · exact h.elim
    · exact h.elim
  · rename_i len cs
    split at h
    · rename_i e a b z sg ht
      obtain ⟨d, hd, ho, _⟩ := (hT t _ ht).und
      have ho' : d = .slice e := ho
      subst ho'
      split at h
      · rename_i ei he
        have hs := fun w => run_sizeOf (hT e _ he) w
        obtain ⟨⟨hcl, ok⟩, hk⟩ := h
        simp only [RepV] at hx
        obtain ⟨ao, cap, rfl, hlc, hc⟩ := hx
        obtain ⟨h1, h2⟩ := okB_le ok
        refine ⟨_, .slice (if cap = offB l then ao else ao.map (·.add (offB l * ei.size))) (endB hb len - offB l) (cap - offB l), hk, fun w => ?_, ?_⟩
        · have hbd := run_bounds (P := P) hl hh il ih true len cap hlc ok w
          simp only [Instr.sliceAt, Sem.run_bind, run_underlying hd, Result.andThen_ok, Instr.slice, hbd, hs, Sem.run_pure]
        · simp only [RepV]
          refine ⟨_, _, by rw [lenB_eq], by rw [lenB_eq]; omega, ?_⟩
          rcases hc with rfl | ⟨bb, off, rfl, hV, hm⟩
          · left
            cases l <;> cases hb <;> simp [cutB]
          · by_cases hcap : cap = offB l
            · left
              have hlen0 : lenB l hb len = 0 := by rw [lenB_eq]; omega
              have := cutB_length cs l hb ei.size len hcl ok
              rw [hlen0, Nat.zero_mul] at this
              exact List.length_eq_zero_iff.1 this
            · right
              exact ⟨bb, off + offB l * ei.size, by rw [if_neg hcap]; simp [addr_add], hV, ro_cut hm l hb ei.size⟩
      · exact h.elim
    · exact h.elim
  · rename_i id off len esz full
    split at h
    · rename_i e a b z sg ht
      obtain ⟨d, hd, ho, _⟩ := (hT t _ ht).und
      have ho' : d = .slice e := ho
      subst ho'
      split at h
      · rename_i ei he
        have hs := fun w => run_sizeOf (hT e _ he) w
        obtain ⟨⟨hes, ok⟩, hk⟩ := h
        subst hes
        simp only [RepV] at hx
        obtain ⟨ao, cap, rfl, hlc, hf, hc⟩ := hx
        obtain ⟨h1, h2⟩ := okB_le ok
        refine ⟨_, .slice (if cap = offB l then ao else ao.map (·.add (offB l * ei.size))) (endB hb len - offB l) (cap - offB l), hk, fun w => ?_, ?_⟩
        · have hbd := run_bounds (P := P) hl hh il ih true len cap hlc ok w
          simp only [Instr.sliceAt, Sem.run_bind, run_underlying hd, Result.andThen_ok, Instr.slice, hbd, hs, Sem.run_pure]
        · simp only [RepV]
          refine ⟨_, _, by rw [lenB_eq], by rw [lenB_eq]; omega, ?_, ?_⟩
          · intro hfull
            rw [lenB_eq]
            cases hb with
            | none => simp only [endB]; have := hf hfull; omega
            | some x => simp at hfull
          · by_cases hcap : cap = offB l
            · left; omega
            · right
              rcases hc with rfl | ⟨n, c, e', fr, hn, rfl, hh', hs'⟩
              · omega
              · refine ⟨n, c, e', fr, hn, by rw [if_neg hcap]; simp [addr_add], hh', ?_⟩
                rw [Nat.sub_mul]
                have : offB l * ei.size ≤ cap * ei.size := Nat.mul_le_mul_right _ (by omega)
                omega
      · exact h.elim
    · exact h.elim
  · rename_i id off
    split at h
    · rename_i n e a b z sg ht
      obtain ⟨d, hd, ho, _⟩ := (hT t _ ht).und
      have ho' : d = .array n e := ho
      subst ho'
      split at h
      · rename_i ei cs he hcs
        have hs := fun w => run_sizeOf (hT e _ he) w
        obtain ⟨⟨hsz, ok⟩, hk⟩ := h
        simp only [RepV] at hx
        obtain ⟨m, hm, rfl⟩ := hx
        obtain ⟨h1, h2⟩ := okB_le ok
        refine ⟨_, .slice (some (if n = offB l then (⟨m, off, none⟩ : Addr) else Addr.add ⟨m, off, none⟩ (offB l * ei.size))) (endB hb n - offB l) (n - offB l), hk, fun w => ?_, ?_⟩
        · have hbd := run_bounds (P := P) hl hh il ih false n n (Nat.le_refl _) ok w
          simp only [Instr.sliceAt, Sem.run_bind, run_underlying hd, Result.andThen_ok, Instr.sureAddr, hbd, hs, Sem.run_pure]
        · simp only [RepV]
          refine ⟨_, _, by rw [lenB_eq], by rw [lenB_eq]; omega, ?_, ?_⟩
          · intro hfull
            rw [lenB_eq]
            cases hb with
            | none => simp only [endB]
            | some x => simp at hfull
          · by_cases hcap : n = offB l
            · left; omega
            · right
              rcases hr.blk id cs hcs with ⟨h0, _⟩ | ⟨m', hm', c, e', fr, b1, b2, b3, b4⟩
              · rw [hm] at h0; cases h0
              · obtain rfl : m = m' := by rw [hm] at hm'; injection hm'
                refine ⟨m, c, e', fr, hm, by rw [if_neg hcap, addr_add], b1, ?_⟩
                rw [Nat.sub_mul]
                have : offB l * ei.size ≤ n * ei.size := Nat.mul_le_mul_right _ (by omega)
                omega
      · exact h.elim
    · exact h.elim
  · rename_i cs
    split at h
    · rename_i n e a b z sg ht
      obtain ⟨d, hd, ho, _⟩ := (hT t _ ht).und
      have ho' : d = .array n e := ho
      subst ho'
      split at h
      · rename_i ei he
        have hs := fun w => run_sizeOf (hT e _ he) w
        obtain ⟨⟨hsz, ok⟩, hk⟩ := h
        simp only [RepV] at hx
        obtain ⟨bb, off, rfl, hc⟩ := hx
        obtain ⟨h1, h2⟩ := okB_le ok
        refine ⟨_, .slice (some (if n = offB l then (⟨bb, off, none⟩ : Addr) else Addr.add ⟨bb, off, none⟩ (offB l * ei.size))) (endB hb n - offB l) (n - offB l), hk, fun w => ?_, ?_⟩
        · have hbd := run_bounds (P := P) hl hh il ih false n n (Nat.le_refl _) ok w
          simp only [Instr.sliceAt, Sem.run_bind, run_underlying hd, Result.andThen_ok, Instr.sureAddr, hbd, hs, Sem.run_pure]
        · simp only [RepV]
          refine ⟨_, _, by rw [lenB_eq], by rw [lenB_eq]; omega, ?_⟩
          have hcl : (cs.take (n * ei.size)).length = n * ei.size := by simp; omega
          have hcut := cutB_length (cs.take (n * ei.size)) l hb ei.size n hcl ok
          by_cases hcap : n = offB l
          · left
            have hlen0 : lenB l hb n = 0 := by rw [lenB_eq]; omega
            rw [hlen0, Nat.zero_mul] at hcut
            exact List.length_eq_zero_iff.1 hcut
          · rcases hc with rfl | ⟨hV, hm⟩
            · left
              cases l <;> cases hb <;> simp [cutB]
            · right
              refine ⟨bb, off + offB l * ei.size, by rw [if_neg hcap, addr_add], hV, ro_cut ?_ l hb ei.size⟩
              exact repM_of_get _ _ _ fun j x hx => by
                by_cases hj : j < n * ei.size
                · rw [List.getElem?_take_of_lt hj] at hx; exact repM_get _ _ _ hm j x hx
                · rw [List.getElem?_eq_none (by simp; omega)] at hx; cases hx
      · exact h.elim
    · exact h.elim
  · exact h.elim
/-- A part with a bound to its room: x[:h:m]. -/
def slice3P (T : Types) (t : TypeId) (X : AV) (lo hi : Option AV) (M : AV) (K : AV → Prop) : Prop :=
  match lo, hi, M, X with
  | none, some (.int _ h), .int _ m, .ro len cs => match T t with
    | some ⟨.slice e, _, _, _, _⟩ => match T e with
      | some ei => (0 ≤ h ∧ h ≤ m ∧ m ≤ len) ∧ K (.ro h.toNat (cs.take (h.toNat * ei.size)))
      | none => False
    | _ => False
  | _, _, _, _ => False
theorem slice3P_sound {P : Program} {T : Types} (hT : TOK P T) {E : Env} {t : TypeId} {X M : AV} {lo hi : Option AV} {v mv : Value} {lv hv : Option Value}
    {K : AV → Prop} (hx : RepV E X v) (hl : RepO E lo lv) (hh : RepO E hi hv) (hm : RepV E M mv) (h : slice3P T t X lo hi M K) :
    ∃ x r, K x ∧ (∀ w, (Instr.sliceAt t v lv hv (some mv)).run P w = .ok r w) ∧ RepV E x r := by
  unfold slice3P at h
  split at h
  case h_2 => exact h.elim
  rename_i kh hi' km m len cs
  split at h
  case h_2 => exact h.elim
  rename_i e a b z sg ht
  obtain ⟨d, hd, ho, _⟩ := (hT t _ ht).und
  have ho' : d = .slice e := ho
  subst ho'
  split at h
  case h_2 => exact h.elim
  rename_i ei he
  have hs := fun w => run_sizeOf (hT e _ he) w
  obtain ⟨⟨h0, h1, h2⟩, hk⟩ := h
  simp only [RepO] at hl hh
  obtain ⟨hv', rfl, hh⟩ := hh
  subst hl
  simp only [RepV] at hh hm hx
  subst hh; subst hm
  obtain ⟨ao, cap, rfl, hlc, hc⟩ := hx
  refine ⟨_, .slice (if m.toNat = 0 then ao else ao.map (·.add (0 * ei.size))) (hi'.toNat - 0) (m.toNat - 0), hk, fun w => ?_, ?_⟩
  · have e1 := fun c => run_sliceBound (P := P) w km m cap c (by omega) (by omega)
    have e2 := fun c => run_sliceBound (P := P) w kh hi' m.toNat c (by omega) (by omega)
    have hbd : (Instr.sliceBounds true len cap none (some (.int kh hi')) (some (.int km m))).run P w = .ok (0, hi'.toNat, m.toNat) w := by
      simp [Instr.sliceBounds, e1, e2]
    simp only [Instr.sliceAt, Sem.run_bind, run_underlying hd, Result.andThen_ok, Instr.slice, hbd, hs, Sem.run_pure]
  · simp only [RepV]
    refine ⟨_, _, rfl, by omega, ?_⟩
    rcases hc with rfl | ⟨bb, off, rfl, hV, hm⟩
    · left; simp
    · by_cases hm0 : m.toNat = 0
      · left
        have : hi'.toNat = 0 := by omega
        rw [this]; simp
      · right
        refine ⟨bb, off, by rw [if_neg hm0]; simp [addr_add], hV, ?_⟩
        exact repM_of_get _ _ _ fun j x hx => by
          by_cases hj : j < hi'.toNat * ei.size
          · rw [List.getElem?_take_of_lt hj] at hx
            exact repM_get _ _ _ hm j x hx
          · rw [List.getElem?_eq_none (by simp; omega)] at hx; cases hx
end Go.Proofs.YtelnlfhdaelfdaaDoor.Abs
end
section
set_option linter.unusedVariables false
set_option linter.unusedSimpArgs false
namespace Go.Proofs.YtelnlfhdaelfdaaDoor.Abs
open Go
def setSeg : List Seg → Nat → List AV → Option (Nat × List Seg)
  | [], _, _ => none
  | g :: r, 0, xs => some (g.s, ⟨g.o, g.s, xs⟩ :: r)
  | g :: r, i + 1, xs => match setSeg r i xs with
    | some (s, r') => some (s, g :: r')
    | none => none
def flat : List Seg → List AV
  | [] => []
  | g :: r => g.cs ++ flat r
def segsP (segs : List Seg) (ps : List (Nat × AV)) (K : List Seg → Prop) : Prop :=
  match ps with
  | [] => K segs
  | (i, x) :: ps => match setSeg segs i (cellsA x) with
    | some (s, segs') => match x with
      | .agg cs => (cs.length = s ∧ AV.ones (.agg cs) = true) ∧ segsP segs' ps K
      | x => cond (x.one && Nat.beq s 1) (segsP segs' ps K) False
    | none => False
theorem foldl_put : ∀ (l : List Value) (m off : Nat) (cells : Array Value),
    ((l.zipIdx m).foldl (fun cs (p : Value × Nat) => cs.setIfInBounds (off + p.2) p.1) cells).size = cells.size ∧
    ∀ k, off + m + l.length ≤ cells.size → ((l.zipIdx m).foldl (fun cs (p : Value × Nat) => cs.setIfInBounds (off + p.2) p.1) cells)[k]? =
      if off + m ≤ k ∧ k < off + m + l.length then l[k - (off + m)]? else cells[k]?
  | [], m, off, cells => by
    refine ⟨rfl, fun k _ => ?_⟩
    simp only [List.zipIdx_nil, List.foldl_nil, List.length_nil]
    rw [if_neg (by omega)]
  | v :: l, m, off, cells => by
    obtain ⟨h1, h2⟩ := foldl_put l (m + 1) off (cells.setIfInBounds (off + m) v)
    simp only [List.zipIdx_cons, List.foldl_cons]
    refine ⟨h1.trans (by simp), fun k hk => ?_⟩
    simp only [List.length_cons] at hk ⊢
    rw [h2 k (by simp; omega)]
    by_cases hkm : k = off + m
    · subst hkm
      rw [if_neg (by omega), if_pos (by omega)]
      rw [Array.getElem?_setIfInBounds_self, if_pos (by omega)]
      simp
    · by_cases hin : off + (m + 1) ≤ k ∧ k < off + (m + 1) + l.length
      · rw [if_pos hin, if_pos (by omega)]
        rw [show k - (off + m) = (k - (off + (m + 1))) + 1 by omega]
        simp
      · rw [if_neg hin, if_neg (by omega), Array.getElem?_setIfInBounds_ne (by omega)]
/-- The segments lie apart. -/
def Apart (segs : List Seg) : Prop := segs.Pairwise fun g h => g.o + g.s ≤ h.o
theorem tile_le : ∀ (segs : List Seg) (k : Nat), tile k segs = true → ∀ g ∈ segs, k ≤ g.o
  | [], _, _, _, hg => by simp at hg
  | g :: r, k, h, g', hg => by
    simp only [tile, Bool.and_eq_true] at h
    have hk := Nat.eq_of_beq_eq_true h.1
    rcases List.mem_cons.1 hg with rfl | hg
    · omega
    · have := tile_le r _ h.2 g' hg; omega
theorem tile_apart : ∀ (segs : List Seg) (k : Nat), tile k segs = true → Apart segs
  | [], _, _ => List.Pairwise.nil
  | g :: r, k, h => by
    simp only [tile, Bool.and_eq_true] at h
    have hk := Nat.eq_of_beq_eq_true h.1
    exact List.Pairwise.cons (fun h' hh => by have := tile_le r _ h.2 h' hh; omega) (tile_apart r _ h.2)
theorem setSeg_tile : ∀ (segs : List Seg) (i : Nat) (xs : List AV) (s : Nat) (segs' : List Seg), setSeg segs i xs = some (s, segs') → ∀ k, tile k segs = true → tile k segs' = true
  | [], i, xs, s, segs', h, k, ht => by simp [setSeg] at h
  | g :: r, 0, xs, s, segs', h, k, ht => by
    simp only [setSeg] at h
    injection h with h
    injection h with h1 h2
    subst h2
    exact ht
  | g :: r, i + 1, xs, s, segs', h, k, ht => by
    simp only [setSeg] at h
    split at h
    · rename_i s' r' hr
      injection h with h
      injection h with h1 h2
      subst h2
      simp only [tile, Bool.and_eq_true] at ht ⊢
      exact ⟨ht.1, setSeg_tile r i xs s' r' hr _ ht.2⟩
    · cases h
/-- What stands where, behind one segment more. -/
theorem setSeg_spec : ∀ (segs : List Seg) (i : Nat) (xs : List AV) (s : Nat) (segs' : List Seg), setSeg segs i xs = some (s, segs') →
    ∃ g, segs[i]? = some g ∧ g.s = s ∧ ∀ h ∈ segs', h = ⟨g.o, g.s, xs⟩ ∨ (h ∈ segs ∧ (Apart segs → h.o + h.s ≤ g.o ∨ g.o + g.s ≤ h.o))
  | [], i, xs, s, segs', h => by simp [setSeg] at h
  | g :: r, 0, xs, s, segs', h => by
    simp only [setSeg] at h
    injection h with h
    injection h with h1 h2
    subst h2
    refine ⟨g, by simp, h1, fun h' hh => ?_⟩
    rcases List.mem_cons.1 hh with rfl | hh
    · exact .inl rfl
    · exact .inr ⟨by simp [hh], fun ap => .inr ((List.pairwise_cons.1 ap).1 h' hh)⟩
  | g :: r, i + 1, xs, s, segs', h => by
    simp only [setSeg] at h
    split at h
    · rename_i s' r' hr
      injection h with h
      injection h with h1 h2
      subst h2
      obtain ⟨g', e1, e2, e3⟩ := setSeg_spec r i xs s' r' hr
      refine ⟨g', by simpa using e1, e2.trans h1, fun h' hh => ?_⟩
      rcases List.mem_cons.1 hh with rfl | hh
      · exact .inr ⟨by simp, fun ap => .inl ((List.pairwise_cons.1 ap).1 g' (List.mem_of_getElem? e1))⟩
      · rcases e3 h' hh with rfl | ⟨k1, k2⟩
        · exact .inl rfl
        · exact .inr ⟨by simp [k1], fun ap => k2 (List.pairwise_cons.1 ap).2⟩
    · cases h
theorem segs_step {E : Env} {segs segs' : List Seg} {i s : Nat} {xs : List AV} {vs : Array Value} {cells : Array Value} (hok : SegsOk E segs cells) (hap : Apart segs)
    (hs : setSeg segs i xs = some (s, segs')) (hl : xs.length = s) (hr : RepL E xs vs.toList) :
    ∃ g, segs[i]? = some g ∧ g.s = vs.size ∧ g.o + vs.size ≤ cells.size ∧
      SegsOk E segs' (vs.zipIdx.foldl (fun cs (p : Value × Nat) => cs.setIfInBounds (g.o + p.2) p.1) cells) := by
  obtain ⟨g, e1, e2, e3⟩ := setSeg_spec segs i xs s segs' hs
  have hvs : vs.size = xs.length := by have := repL_length _ _ hr; simpa using this.symm
  obtain ⟨g1, g2, g3⟩ := hok g (List.mem_of_getElem? e1)
  refine ⟨g, e1, by omega, by omega, fun h hh => ?_⟩
  have hf := foldl_put vs.toList 0 g.o cells
  have hz : vs.zipIdx.foldl (fun cs (p : Value × Nat) => cs.setIfInBounds (g.o + p.2) p.1) cells = (vs.toList.zipIdx 0).foldl (fun cs (p : Value × Nat) => cs.setIfInBounds (g.o + p.2) p.1) cells := by
    rw [← Array.foldl_toList, Array.toList_zipIdx]
  rw [hz]
  have hlen : vs.toList.length = vs.size := by simp
  rcases e3 h hh with rfl | ⟨k1, k2⟩
  · refine ⟨by simp [hl, e2], by rw [hf.1]; exact g2, fun j x hx => ?_⟩
    obtain ⟨u, hu, hr'⟩ := repL_get _ _ hr j x hx
    have hj : j < vs.size := by
      rcases Nat.lt_or_ge j vs.toList.length with h' | h'
      · simpa using h'
      · rw [List.getElem?_eq_none h'] at hu; cases hu
    refine ⟨u, ?_, hr'⟩
    show _ = some u
    rw [hf.2 (g.o + j) (by omega), if_pos (by omega)]
    rw [show g.o + j - (g.o + 0) = j by omega]
    exact hu
  · obtain ⟨c1, c2, c3⟩ := hok h k1
    refine ⟨c1, by rw [hf.1]; exact c2, fun j x hx => ?_⟩
    obtain ⟨u, hu, hr'⟩ := c3 j x hx
    have hj : j < h.s := by
      rcases Nat.lt_or_ge j h.cs.length with h' | h'
      · omega
      · rw [List.getElem?_eq_none h'] at hx; cases hx
    refine ⟨u, ?_, hr'⟩
    rw [hf.2 (h.o + j) (by omega), if_neg ?_]
    · exact hu
    · have := k2 hap
      omega
def RepPs (E : Env) : List (Nat × AV) → List (Nat × Value) → Prop
  | [], vs => vs = []
  | (i, x) :: ps, vs => ∃ v r, vs = (i, v) :: r ∧ RepV E x v ∧ RepPs E ps r
/-- The places that the model's literal uses are those of the segments. -/
def PlaceOk (place : Nat → Option (Nat × Nat)) (segs : List Seg) : Prop := ∀ (i : Nat) (g : Seg), segs[i]? = some g → place i = some (g.o, g.s)
theorem setSeg_place {place : Nat → Option (Nat × Nat)} : ∀ (segs : List Seg) (i : Nat) (xs : List AV) (s : Nat) (segs' : List Seg), setSeg segs i xs = some (s, segs') →
    ∀ (k : Nat) (g' : Seg), segs'[k]? = some g' → ∃ g : Seg, segs[k]? = some g ∧ g.o = g'.o ∧ g.s = g'.s
  | [], i, xs, s, segs', h => by simp [setSeg] at h
  | g :: r, 0, xs, s, segs', h => by
    simp only [setSeg] at h
    injection h with h
    injection h with h1 h2
    subst h2
    intro k g' hk
    cases k with
    | zero => simp at hk; subst hk; exact ⟨g, by simp, rfl, rfl⟩
    | succ k => exact ⟨g', by simpa using hk, rfl, rfl⟩
  | g :: r, i + 1, xs, s, segs', h => by
    simp only [setSeg] at h
    split at h
    · rename_i s' r' hr
      injection h with h
      injection h with h1 h2
      subst h2
      intro k g' hk
      cases k with
      | zero => simp at hk; subst hk; exact ⟨g, by simp, rfl, rfl⟩
      | succ k => simpa using setSeg_place (place := place) r i xs s' r' hr k g' (by simpa using hk)
    · cases h
theorem segsP_sound {E : Env} (hη : ∀ i, scalar (E.η i) = true) {place : Nat → Option (Nat × Nat)} {K : List Seg → Prop} : ∀ (ps : List (Nat × AV)) (vs : List (Nat × Value)) (segs : List Seg) (cells : Array Value) (k0 : Nat),
    SegsOk E segs cells → tile k0 segs = true → PlaceOk place segs → RepPs E ps vs → segsP segs ps K →
    ∃ segs' cells', K segs' ∧ Instr.fill place cells vs = some cells' ∧ SegsOk E segs' cells' ∧ tile k0 segs' = true ∧ cells'.size = cells.size
  | [], vs, segs, cells, k0, hok, ht, hp, hr, h => by
    simp only [RepPs] at hr
    subst hr
    exact ⟨segs, cells, h, rfl, hok, ht, rfl⟩
  | (i, x) :: ps, vs, segs, cells, k0, hok, ht, hp, hr, h => by
    simp only [RepPs] at hr
    obtain ⟨v, r, rfl, hx, hr⟩ := hr
    unfold segsP at h
    split at h
    · rename_i s segs' hs
      have hcond : (cellsA x).length = s ∧ x.ones = true ∧ segsP segs' ps K := by
        split at h
        · exact ⟨h.1.1, h.1.2, h.2⟩
        · rename_i hne
          cases hb : (x.one && Nat.beq s 1) with
          | false => rw [hb] at h; exact h.elim
          | true =>
            rw [hb] at h
            simp only [Bool.and_eq_true] at hb
            have hs1 := Nat.eq_of_beq_eq_true hb.2
            have hc : cellsA x = [x] := by cases x <;> first | rfl | exact absurd rfl (hne _)
            exact ⟨by rw [hc, hs1]; rfl, by simp [AV.ones, hc, hb.1], h⟩
      obtain ⟨hl, ho, hk⟩ := hcond
      have hvs := (ones_cells hη hx ho).1
      obtain ⟨g, e1, e2, e3, e4⟩ := segs_step hok (tile_apart segs k0 ht) hs hl hvs
      have hp' : PlaceOk place segs' := fun k g' hg' => by
        obtain ⟨g0, q1, q2, q3⟩ := setSeg_place (place := place) segs i (cellsA x) s segs' hs k g' hg'
        rw [← q2, ← q3]; exact hp k g0 q1
      obtain ⟨segs'', cells', k1, k2, k3, k4, k5⟩ := segsP_sound hη ps r segs' _ k0 e4 (setSeg_tile segs i _ s segs' hs k0 ht) hp' hr hk
      refine ⟨segs'', cells', k1, ?_, k3, k4, ?_⟩
      · simp only [Instr.fill, hp i g e1, e2]
        have : (v.cells.size != v.cells.size || decide (g.o + v.cells.size > cells.size)) = false := by simp; omega
        rw [show (decide (v.cells.size ≠ v.cells.size) || decide (g.o + v.cells.size > cells.size)) = false by simp; omega]
        simpa using k2
      · rw [k5, ← Array.foldl_toList, Array.toList_zipIdx]
        exact (foldl_put v.cells.toList 0 g.o cells).1
    · exact h.elim
theorem flat_rep {E : Env} {cells : Array Value} : ∀ (segs : List Seg) (k : Nat), SegsOk E segs cells → tile k segs = true → ∀ (j : Nat) x, (flat segs)[j]? = some x → ∃ u, cells[k + j]? = some u ∧ RepV E x u
  | [], k, hok, ht, j, x, hx => by simp [flat] at hx
  | g :: r, k, hok, ht, j, x, hx => by
    simp only [tile, Bool.and_eq_true] at ht
    have hk := Nat.eq_of_beq_eq_true ht.1
    subst hk
    obtain ⟨h1, h2, h3⟩ := hok g (by simp)
    simp only [flat] at hx
    by_cases hj : j < g.cs.length
    · rw [List.getElem?_append_left hj] at hx; exact h3 j x hx
    · rw [List.getElem?_append_right (by omega)] at hx
      obtain ⟨u, hu, hr⟩ := flat_rep r _ (fun g' hg' => hok g' (by simp [hg'])) ht.2 _ x hx
      exact ⟨u, by rw [← hu]; congr 1; omega, hr⟩
theorem flat_length {E : Env} {cells : Array Value} : ∀ (segs : List Seg), SegsOk E segs cells → (flat segs).length = (segs.map (·.s)).sum
  | [], _ => rfl
  | g :: r, hok => by
    simp only [flat, List.length_append, List.map_cons, List.sum_cons]
    rw [flat_length r (fun g' hg' => hok g' (by simp [hg'])), (hok g (by simp)).1]
end Go.Proofs.YtelnlfhdaelfdaaDoor.Abs
end
section
set_option linter.unusedVariables false
set_option linter.unusedSimpArgs false
namespace Go.Proofs.YtelnlfhdaelfdaaDoor.Abs
open Go
/-- A plain value, told by computation. -/
def eqS : AV → Value → Bool
  | .int k n, .int j m => kEq k j && decide (n = m)
  | .bool b, .bool c => b == c
  | .str s, .string ba => decide (bytesOf ba = s)
  | .nil, .slice none 0 0 => true
  | .nilp, .pointer none => true
  | .top, _ => true
  | _, _ => false
theorem eqS_rep {x : AV} {v : Value} (h : eqS x v = true) (E : Env) : RepV E x v := by
  unfold eqS at h
  split at h
  · simp only [Bool.and_eq_true, decide_eq_true_eq] at h
    rw [kEq_eq h.1, h.2]; exact rep_int E _ _
  · rw [beq_iff_eq] at h; subst h; exact rep_bool E _
  · simp only [RepV]; exact ⟨_, rfl, of_decide_eq_true h⟩
  · simp [RepV]
  · simp [RepV]
  · simp [RepV]
  · cases h
def eqL : List AV → List Value → Bool
  | [], [] => true
  | x :: xs, v :: vs => eqS x v && eqL xs vs
  | _, _ => false
theorem eqL_rep : ∀ {xs : List AV} {vs : List Value}, eqL xs vs = true → ∀ E, RepL E xs vs
  | [], [], _, E => by simp [RepL]
  | x :: xs, v :: vs, h, E => by
    simp only [eqL, Bool.and_eq_true] at h
    simp only [RepL]
    exact ⟨v, vs, rfl, eqS_rep h.1 E, eqL_rep h.2 E⟩
  | [], _ :: _, h, E => by simp [eqL] at h
  | _ :: _, [], h, E => by simp [eqL] at h
def eqV : AV → Value → Bool
  | .agg cs, .agg vs => eqL cs vs.toList
  | x, v => eqS x v
theorem eqV_rep {x : AV} {v : Value} (h : eqV x v = true) (E : Env) : RepV E x v := by
  unfold eqV at h
  split at h
  · simp only [RepV]; exact ⟨_, rfl, eqL_rep h E⟩
  · exact eqS_rep h E
def isTop : AV → Bool
  | .top => true
  | _ => false
def fieldsEq : List Field → List (Nat × TypeId) → Bool
  | [], [] => true
  | f :: fs, (o, t) :: r => Nat.beq f.offset o && Nat.beq f.type t && fieldsEq fs r
  | _, _ => false
theorem fieldsEq_eq : ∀ (fs : List Field) (r : List (Nat × TypeId)), fieldsEq fs r = true → fs.map (fun f => (f.offset, f.type)) = r
  | [], [], _ => rfl
  | f :: fs, (o, t) :: r, h => by
    simp only [fieldsEq, Bool.and_eq_true] at h
    simp only [List.map_cons, fieldsEq_eq fs r h.2, Nat.eq_of_beq_eq_true h.1.1, Nat.eq_of_beq_eq_true h.1.2]
  | [], _ :: _, h => by simp [fieldsEq] at h
  | _ :: _, [], h => by simp [fieldsEq] at h
def tdChk : TD → TypeDesc → Bool
  | .int k, .int j => kEq k j
  | .bool, .bool => true
  | .str, .string => true
  | .slice e, .slice e' => Nat.beq e e'
  | .arr n e, .array n' e' => Nat.beq n n' && Nat.beq e e'
  | .struct fs, .struct a => fieldsEq a.toList fs
  | .ptr e, .pointer e' => Nat.beq e e'
  | .other, .struct _ => false
  | .other, .array _ _ => false
  | .other, _ => true
  | _, _ => false
theorem tdChk_of {d : TD} {t : TypeDesc} (h : tdChk d t = true) : d.of t ∧ TDesc.isAgg t = d.agg := by
  unfold tdChk at h
  split at h
  · rw [kEq_eq h]; exact ⟨rfl, rfl⟩
  · exact ⟨rfl, rfl⟩
  · exact ⟨rfl, rfl⟩
  · rw [Nat.eq_of_beq_eq_true h]; exact ⟨rfl, rfl⟩
  · simp only [Bool.and_eq_true] at h
    rw [Nat.eq_of_beq_eq_true h.1, Nat.eq_of_beq_eq_true h.2]; exact ⟨rfl, rfl⟩
  · exact ⟨⟨_, rfl, fieldsEq_eq _ _ h⟩, rfl⟩
  · rw [Nat.eq_of_beq_eq_true h]; exact ⟨rfl, rfl⟩
  · cases h
  · cases h
  · rename_i h1 h2
    refine ⟨trivial, ?_⟩
    cases t <;> first | rfl | exact absurd rfl (h1 _) | exact absurd rfl (h2 _ _)
  · cases h
/-- Each stretch's cells are these. -/
def segsChk : List Seg → List Value → Bool
  | [], _ => true
  | g :: r, vs => Nat.beq g.cs.length g.s && Nat.ble (g.o + g.s) vs.length && eqL g.cs ((vs.drop g.o).take g.s) && segsChk r vs
theorem segsChk_ok : ∀ {segs : List Seg} {vs : Array Value}, segsChk segs vs.toList = true → ∀ E, SegsOk E segs vs
  | [], vs, _, E => by intro g hg; simp at hg
  | g :: r, vs, h, E => by
    simp only [segsChk, Bool.and_eq_true] at h
    obtain ⟨⟨⟨h1, h2⟩, h3⟩, h4⟩ := h
    intro g' hg
    rcases List.mem_cons.1 hg with rfl | hg
    · have hl := Nat.eq_of_beq_eq_true h1
      refine ⟨hl, by simpa using Nat.le_of_ble_eq_true h2, fun j x hx => ?_⟩
      obtain ⟨u, hu, hr⟩ := repL_get _ _ (eqL_rep h3 E) j x hx
      have hj : j < g'.s := by
        rcases Nat.lt_or_ge j g'.cs.length with h' | h'
        · omega
        · rw [List.getElem?_eq_none h'] at hx; cases hx
      rw [List.getElem?_take_of_lt hj, List.getElem?_drop] at hu
      exact ⟨u, by simpa using hu, hr⟩
    · exact segsChk_ok h4 E g' hg
def structChk (P : Program) : List (Nat × TypeId) → List Seg → Bool
  | [], [] => true
  | _ :: _, [] => false
  | (o, t) :: fs, g :: r => Nat.beq o g.o && (match P.info? t with | some f => Nat.beq f.size g.s | none => false) && structChk P fs r
  | [], _ :: _ => false
theorem structChk_ok {P : Program} : ∀ {fs : List (Nat × TypeId)} {segs : List Seg}, structChk P fs segs = true →
    segs.length = fs.length ∧ ∀ (k : Nat) (g : Seg), segs[k]? = some g → ∃ ft ff, fs[k]? = some (g.o, ft) ∧ P.info? ft = some ff ∧ ff.size = g.s
  | [], [], _ => ⟨rfl, fun k g hk => by simp at hk⟩
  | _ :: _, [], h => by simp [structChk] at h
  | (o, t) :: fs, g :: r, h => by
    simp only [structChk, Bool.and_eq_true] at h
    obtain ⟨⟨h1, h2⟩, h3⟩ := h
    refine ⟨by simp [(structChk_ok h3).1], fun k g' hk => ?_⟩
    cases k with
    | zero =>
      simp at hk; subst hk
      split at h2
      · rename_i f hf
        exact ⟨t, f, by simp [Nat.eq_of_beq_eq_true h1], hf, Nat.eq_of_beq_eq_true h2⟩
      · cases h2
    | succ k => simpa using (structChk_ok h3).2 k g' (by simpa using hk)
  | [], _ :: _, h => by simp [structChk] at h
def arrChk (s : Nat) : Nat → List Seg → Bool
  | _, [] => true
  | k, g :: r => Nat.beq g.o (k * s) && Nat.beq g.s s && arrChk s (k + 1) r
theorem arrChk_ok {s : Nat} : ∀ {segs : List Seg} {k0 : Nat}, arrChk s k0 segs = true → ∀ (k : Nat) (g : Seg), segs[k]? = some g → g.o = (k0 + k) * s ∧ g.s = s
  | [], _, _, k, g, hk => by simp at hk
  | g :: r, k0, h, k, g', hk => by
    simp only [arrChk, Bool.and_eq_true] at h
    cases k with
    | zero => simp at hk; subst hk; exact ⟨Nat.eq_of_beq_eq_true h.1.1, Nat.eq_of_beq_eq_true h.1.2⟩
    | succ k =>
      have := arrChk_ok h.2 k g' (by simpa using hk)
      rwa [show k0 + 1 + k = k0 + (k + 1) by omega] at this
def segChk (P : Program) (i : TI) (z : Value) : Bool :=
  match i.segs with
  | [] => true
  | _ => tile 0 i.segs && Nat.beq (i.segs.map (·.s)).sum z.cells.size && segsChk i.segs z.cells.toList && match i.d with
    | .struct fs => structChk P fs i.segs
    | .arr _ e => match P.info? e with
      | some f => arrChk f.size 0 i.segs
      | none => false
    | _ => false
def tiChk (P : Program) (t : TypeId) (i : TI) : Bool :=
  match P.underlying t, P.info? t with
  | some d, some f => tdChk i.d d && Nat.beq f.size i.size && Nat.beq f.bytes i.bytes && match f.zero with
    | some z => (isTop i.zero || eqV i.zero z) && segChk P i z && Nat.beq z.cells.size i.size
    | none => false
  | _, _ => false
theorem tiChk_ok {P : Program} {t : TypeId} {i : TI} (h : tiChk P t i = true) : TIok P t i := by
  unfold tiChk at h
  split at h
  · rename_i d f hd hf
    simp only [Bool.and_eq_true] at h
    obtain ⟨⟨⟨h1, h2⟩, h3⟩, h4⟩ := h
    split at h4
    · rename_i z hz
      simp only [Bool.and_eq_true, Bool.or_eq_true] at h4
      obtain ⟨⟨h4, h5⟩, h6⟩ := h4
      have htd := tdChk_of h1
      refine ⟨⟨d, hd, htd.1, htd.2⟩, ⟨f, hf, Nat.eq_of_beq_eq_true h2, Nat.eq_of_beq_eq_true h3, z, hz, Nat.eq_of_beq_eq_true h6, ?_, ?_⟩⟩
      · rcases h4 with h4 | h4
        · left; revert h4; cases i.zero <;> simp [isTop]
        · right; exact fun E => eqV_rep h4 E
      · unfold segChk at h5
        split at h5
        · left; assumption
        · right
          simp only [Bool.and_eq_true] at h5
          obtain ⟨⟨⟨k1, k2⟩, k3⟩, k4⟩ := h5
          refine ⟨k1, Nat.eq_of_beq_eq_true k2, segsChk_ok k3, ?_⟩
          split at k4
          · rename_i fs hdd
            try simp only [hdd]
            exact structChk_ok k4
          · rename_i n e hdd
            try simp only [hdd]
            split at k4
            · rename_i f' hf'
              exact ⟨f', hf', fun k g hg => by simpa using arrChk_ok k4 k g hg⟩
            · cases k4
          · cases k4
    · cases h4
  · cases h
def lookT : List (Nat × TI) → Types
  | [], _ => none
  | (k, i) :: r, t => cond (Nat.beq t k) (some i) (lookT r t)
def tabChk (P : Program) : List (Nat × TI) → Bool
  | [] => true
  | (k, i) :: r => tiChk P k i && tabChk P r
theorem tabChk_ok {P : Program} : ∀ {l : List (Nat × TI)}, tabChk P l = true → TOK P (lookT l)
  | [], _, t, i, h => by simp [lookT] at h
  | (k, j) :: r, hc, t, i, h => by
    simp only [tabChk, Bool.and_eq_true] at hc
    simp only [lookT] at h
    cases hb : Nat.beq t k with
    | true =>
      rw [hb] at h
      injection h with h
      subst h
      rw [Nat.eq_of_beq_eq_true hb]
      exact tiChk_ok hc.1
    | false =>
      rw [hb] at h
      exact tabChk_ok hc.2 t i h
/-- A struct or an array, part by part. -/
def buildP (T : Types) (t : TypeId) (ps : List (Nat × AV)) (K : AV → Prop) : Prop :=
  match T t with
  | some i => match i.segs with
    | [] => False
    | g :: r => segsP (g :: r) ps fun segs => K (.agg (flat segs))
  | none => False
theorem repL_of_cells {E : Env} (segs : List Seg) (cells : Array Value) (hok : SegsOk E segs cells) (ht : tile 0 segs = true) (hs : (segs.map (·.s)).sum = cells.size) :
    RepL E (flat segs) cells.toList :=
  repL_of_get _ _ (by rw [flat_length segs hok, hs]; simp) fun j x u hx hu => by
    obtain ⟨u', h1, h2⟩ := flat_rep segs 0 hok ht j x hx
    simp only [Nat.zero_add] at h1
    simp only [Array.getElem?_toList] at hu
    rw [h1] at hu
    injection hu with hu
    rw [← hu]; exact h2
theorem setSeg_sum : ∀ (segs : List Seg) (i : Nat) (xs : List AV) (s : Nat) (segs' : List Seg), setSeg segs i xs = some (s, segs') → segs'.map (·.s) = segs.map (·.s)
  | [], i, xs, s, segs', h => by simp [setSeg] at h
  | g :: r, 0, xs, s, segs', h => by
    simp only [setSeg] at h
    injection h with h
    injection h with h1 h2
    subst h2; rfl
  | g :: r, i + 1, xs, s, segs', h => by
    simp only [setSeg] at h
    split at h
    · rename_i s' r' hr
      injection h with h
      injection h with h1 h2
      subst h2
      simp [setSeg_sum r i xs s' r' hr]
    · cases h
theorem segsP_sum {K : List Seg → Prop} : ∀ (ps : List (Nat × AV)) (segs : List Seg), segsP segs ps K → segsP segs ps fun segs' => K segs' ∧ segs'.map (·.s) = segs.map (·.s)
  | [], segs, h => by unfold segsP at h ⊢; exact ⟨h, rfl⟩
  | (i, x) :: ps, segs, h => by
    unfold segsP at h ⊢
    split at h
    · rename_i s segs' hs
      have he := setSeg_sum _ _ _ _ _ hs
      cases x <;> simp only at h ⊢
      case agg cs =>
        have := segsP_sum ps segs' h.2
        rw [he] at this
        exact ⟨h.1, this⟩
      all_goals
        revert h
        generalize (AV.one _ && Nat.beq s 1) = b
        cases b
        · exact fun h => h
        · intro h
          have := segsP_sum ps segs' h
          rw [he] at this
          exact this
    · exact h.elim
theorem places_of (P : Program) : ∀ (fs : List Field), (∀ (k : Nat) (fd : Field), fs[k]? = some fd → ∃ ff, P.info? fd.type = some ff) →
    ∃ places, fs.mapM (fun f => (P.info? f.type).map fun i => (f.offset, i.size)) = some places ∧ ∀ (k : Nat) (fd : Field) (ff : TypeInfo), fs[k]? = some fd → P.info? fd.type = some ff → places[k]? = some (fd.offset, ff.size)
  | [], _ => ⟨[], by simp, by simp⟩
  | f :: fs, h => by
    obtain ⟨ff, hff⟩ := h 0 f (by simp)
    obtain ⟨places, h1, h2⟩ := places_of P fs (fun k fd hk => h (k + 1) fd (by simpa using hk))
    refine ⟨(f.offset, ff.size) :: places, by simp [hff, h1], fun k fd ff' hk hf => ?_⟩
    cases k with
    | zero => simp at hk; subst hk; rw [hff] at hf; injection hf with hf; simp [hf]
    | succ k => simpa using h2 k fd ff' (by simpa using hk) hf
theorem buildP_sound {P : Program} {T : Types} (hT : TOK P T) {E : Env} (hη : ∀ i, scalar (E.η i) = true) {t : TypeId} {ps : List (Nat × AV)} {vs : List (Nat × Value)} {K : AV → Prop}
    (hr : RepPs E ps vs) (h : buildP T t ps K) : ∃ x r, K x ∧ (∀ w, (Instr.build t vs.toArray).run P w = .ok r w) ∧ RepV E x r := by
  unfold buildP at h
  split at h
  · rename_i i hi
    split at h
    · exact h.elim
    · rename_i g r hseg
      obtain ⟨f, hf, hsz, hby, z, hz, _, hzr, hsg⟩ := (hT t i hi).info
      obtain ⟨d, hd, hdo, _⟩ := (hT t i hi).und
      rcases hsg with hsg | ⟨s1, s2, s3, s4⟩
      · rw [hseg] at hsg; cases hsg
      · have hzv : ∀ w, (zeroValue t).run P w = .ok z w := fun w => by simp [zeroValue, typeInfo, hf, hz]
        rw [hseg] at s1 s2 s3 s4
        have h' := segsP_sum ps (g :: r) h
        split at s4
        · rename_i fs hdd
          rw [hdd] at hdo
          obtain ⟨a, rfl, ha⟩ := hdo
          obtain ⟨s4l, s4⟩ := s4
          have hall : ∀ (k : Nat) (fd : Field), a.toList[k]? = some fd → ∃ ff, P.info? fd.type = some ff := fun k fd hk => by
            have hlt : k < (g :: r).length := by
              rw [s4l, ← ha, List.length_map]
              rcases Nat.lt_or_ge k a.toList.length with h' | h'
              · exact h'
              · rw [List.getElem?_eq_none h'] at hk; cases hk
            obtain ⟨ft, ff, e1, e2, e3⟩ := s4 k _ (List.getElem?_eq_getElem hlt)
            rw [← ha, List.getElem?_map, hk] at e1
            simp at e1
            exact ⟨ff, by rw [e1.2]; exact e2⟩
          obtain ⟨places, hpl1, hpl2⟩ := places_of P a.toList hall
          have hp : PlaceOk (places.toArray[·]?) (g :: r) := fun k g' hg' => by
            obtain ⟨ft, ff, e1, e2, e3⟩ := s4 k g' hg'
            rw [← ha, List.getElem?_map] at e1
            cases hk : a.toList[k]? with
            | none => rw [hk] at e1; simp at e1
            | some fd =>
              rw [hk] at e1
              simp at e1
              have := hpl2 k fd ff hk (by rw [e1.2]; exact e2)
              simp [this, e1.1, e3]
          obtain ⟨segs', cells', k1, k2, k3, k4, k5⟩ := segsP_sound hη ps vs (g :: r) z.cells 0 (s3 E) s1 hp hr h'
          refine ⟨_, .agg cells', k1.1, fun w => ?_, ?_⟩
          · apply run_build
            simp only [Program.built, hf, hd, hz, hpl1]
            simpa using k2
          · simp only [RepV]
            exact ⟨_, rfl, repL_of_cells segs' cells' k3 k4 (by rw [k1.2, s2, k5])⟩
        · rename_i m e hdd
          rw [hdd] at hdo
          have hdo' : d = .array m e := hdo
          subst hdo'
          obtain ⟨fe, hfe, hpl⟩ := s4
          have hp : PlaceOk (fun i => some (i * fe.size, fe.size)) (g :: r) := fun k g' hg' => by
            obtain ⟨e1, e2⟩ := hpl k g' hg'
            simp [e1, e2]
          obtain ⟨segs', cells', k1, k2, k3, k4, k5⟩ := segsP_sound hη ps vs (g :: r) z.cells 0 (s3 E) s1 hp hr h'
          refine ⟨_, .agg cells', k1.1, fun w => ?_, ?_⟩
          · have hse : ∀ w, (sizeOf e).run P w = .ok fe.size w := fun w => by simp [sizeOf, typeInfo, hfe]
            simp [Instr.build, hzv, run_underlying hd, hse, k2]
          · simp only [RepV]
            exact ⟨_, rfl, repL_of_cells segs' cells' k3 k4 (by rw [k1.2, s2, k5])⟩
        · exact s4.elim
  · exact h.elim
end Go.Proofs.YtelnlfhdaelfdaaDoor.Abs
end
section
set_option linter.unusedVariables false
set_option linter.unusedSimpArgs false
namespace Go.Proofs.YtelnlfhdaelfdaaDoor.Abs
open Go
/-- What a source of an append or a copy holds: how many elements, their cells. -/
def srcP (H : Heap) (esz : Nat) (X : AV) (K : Nat → List AV → Prop) : Prop :=
  match X with
  | .nil => K 0 []
  | .ro len cs => cs.length = len * esz ∧ K len cs
  | .sl id off len es full => match H id with
    | some cs => ((es = esz ∧ off = 0 ∧ cs.length = len * esz) ∧ K len cs) ∨ ((es = esz ∧ off + len * esz ≤ cs.length) ∧ K len ((cs.drop off).take (len * esz)))
    | none => False
  | .str s => esz = 1 ∧ K s.length (s.map (AV.int .u8))
  | _ => False
theorem load_list {P : Program} {E : Env} {b off : Nat} {cs : List AV} (hm : ∀ (j : Nat) x, cs[j]? = some x → ∃ u, E.w.cell? ⟨b, off + j, none⟩ = some u ∧ RepV E x u) :
    ∃ vs : Array Value, (loadCells ⟨b, off, none⟩ cs.length).run P E.w = .ok vs E.w ∧ RepL E cs vs.toList := by
  have hex : ∀ n, n ≤ cs.length → ∃ vs : List Value, vs.length = n ∧ (∀ (j : Nat), j < n → ∃ x u, cs[j]? = some x ∧ vs[j]? = some u ∧ E.w.cell? ⟨b, off + j, none⟩ = some u ∧ RepV E x u) := by
    intro n
    induction n with
    | zero => exact fun _ => ⟨[], rfl, fun j hj => by omega⟩
    | succ n ih =>
      intro hn
      obtain ⟨vs, hl', hv⟩ := ih (by omega)
      obtain ⟨u, hu, hr⟩ := hm n cs[n] (by simp)
      refine ⟨vs ++ [u], by simp [hl'], fun j hj => ?_⟩
      by_cases hjn : j < n
      · obtain ⟨x, u', h1, h2, h3, h4⟩ := hv j hjn
        exact ⟨x, u', h1, by rw [List.getElem?_append_left (by omega)]; exact h2, h3, h4⟩
      · obtain rfl : j = n := by omega
        exact ⟨cs[j], u, by simp, by rw [List.getElem?_append_right (by omega)]; simp [hl'], hu, hr⟩
  obtain ⟨vs, hlen, hv⟩ := hex cs.length (Nat.le_refl _)
  refine ⟨vs.toArray, ?_, repL_of_get _ _ (by simp [hlen]) fun j x u hx hu => ?_⟩
  · have := run_loadCells_list (P := P) E.w ⟨b, off, none⟩ vs (fun j v hj => by
      have hjl : j < cs.length := by
        rcases Nat.lt_or_ge j vs.length with h' | h'
        · omega
        · simp [List.getElem?_eq_none h'] at hj
      obtain ⟨x, u, h1, h2, h3, h4⟩ := hv j hjl
      rw [addr_add]
      rw [h2] at hj
      injection hj with hj
      rw [← hj]; exact h3)
    rwa [hlen] at this
  · have hjl : j < cs.length := by
      rcases Nat.lt_or_ge j cs.length with h' | h'
      · exact h'
      · simp [List.getElem?_eq_none h'] at hx
    obtain ⟨x', u', h1, h2, h3, h4⟩ := hv j hjl
    simp only [List.toList_toArray] at hu
    rw [h1] at hx; injection hx with hx
    rw [h2] at hu; injection hu with hu
    rw [← hx, ← hu]; exact h4
/-- What is known of a source's values. -/
structure SrcOk (P : Program) (E : Env) (esz n : Nat) (src : List AV) (v : Value) : Prop where
  len : ∀ w, (Builtin.lenOf v).run P w = .ok n w
  some : ∀ k m, m ≤ n → ∃ vs : Array Value, (Builtin.firstCells esz m v).run P { E.w with drawn := k } = .ok vs { E.w with drawn := k } ∧ RepL E (src.take (m * esz)) vs.toList
  size : src.length = n * esz
theorem SrcOk.cells {P : Program} {E : Env} {esz n : Nat} {src : List AV} {v : Value} (h : SrcOk P E esz n src v) (k : Nat) :
    ∃ vs : Array Value, (Builtin.firstCells esz n v).run P { E.w with drawn := k } = .ok vs { E.w with drawn := k } ∧ RepL E src vs.toList := by
  have := h.some k n (Nat.le_refl _)
  rwa [List.take_of_length_le (by rw [h.size]; exact Nat.le_refl _)] at this
theorem repM_take {E : Env} {cs : List AV} {b off : Nat} (h : RepM E cs b off) (n : Nat) : RepM E (cs.take n) b off :=
  repM_of_get _ _ _ fun j x hx => by
    by_cases hj : j < n
    · rw [List.getElem?_take_of_lt hj] at hx; exact repM_get _ _ _ h j x hx
    · rw [List.getElem?_eq_none (by simp; omega)] at hx; cases hx
theorem srcP_sound {P : Program} {Z : Nat → Prop} {E : Env} {H : Heap} {nx : Nat} (hr : HeapRep Z E H nx) {esz : Nat} {X : AV} {v : Value} {K : Nat → List AV → Prop} (hx : RepV E X v) (h : srcP H esz X K) :
    ∃ n src, K n src ∧ SrcOk P E esz n src v := by
  unfold srcP at h
  split at h
  · simp only [RepV] at hx
    subst hx
    exact ⟨0, [], h, ⟨fun w => rfl, fun k m hm => ⟨#[], by simp [Builtin.firstCells], by simp [RepL]⟩, by simp⟩⟩
  · rename_i len cs
    obtain ⟨hl, hk⟩ := h
    simp only [RepV] at hx
    obtain ⟨a, cap, rfl, _, hc⟩ := hx
    refine ⟨len, cs, hk, ⟨fun w => rfl, fun k m hmn => ?_, hl⟩⟩
    have hmm : m * esz ≤ len * esz := Nat.mul_le_mul_right _ hmn
    rcases hc with rfl | ⟨b, off, rfl, hV, hm⟩
    · have h0 : m * esz = 0 := by have : len * esz = 0 := by simpa using hl.symm
                                  omega
      refine ⟨#[], ?_, by simp [RepL]⟩
      cases a with
      | none => simp [Builtin.firstCells]
      | some a => simp [Builtin.firstCells, h0, loadCells, loadCellsFrom]
    · obtain ⟨vs, h1, h2⟩ := load_list (P := P) (repM_get _ b off (repM_take (RepM.later (later_drawn E k) cs b off hV hm) (m * esz)))
      rw [List.length_take, Nat.min_eq_left (by omega)] at h1
      exact ⟨vs, by simp only [Builtin.firstCells]; exact h1, RepL.later (later_drawn (E.drawn k) E.w.drawn) _ _ h2⟩
  · rename_i id off len es full
    split at h
    · rename_i cs hcs
      have key : ∀ ds : List AV, es = esz → off + len * esz ≤ cs.length → ds = (cs.drop off).take (len * esz) → K len ds → ∃ n src, K n src ∧ SrcOk P E esz n src v := by
        intro ds hes hl hds hk
        subst hes
        simp only [RepV] at hx
        obtain ⟨a, cap, rfl, hlc, _, hc⟩ := hx
        have hdl : ds.length = len * es := by rw [hds]; simp; omega
        refine ⟨len, ds, hk, ⟨fun w => rfl, fun k m hmn => ?_, hdl⟩⟩
        have hmm : m * es ≤ len * es := Nat.mul_le_mul_right _ hmn
        rcases hc with rfl | ⟨n, c, e, fr, hn, rfl, hh, hs⟩
        · have : len = 0 := by omega
          subst this
          have : ds = [] := List.length_eq_zero_iff.1 (by rw [hdl]; simp)
          subst this
          have hm0 : m * es = 0 := by omega
          refine ⟨#[], ?_, by simp [RepL]⟩
          cases a with
          | none => simp [Builtin.firstCells]
          | some a => simp [Builtin.firstCells, hm0, loadCells, loadCellsFrom]
        · obtain ⟨vs, h1, h2⟩ := load_list (P := P) (E := E.drawn k) (b := n) (off := off) (cs := ds.take (m * es)) (fun j x hx' => by
            refine blk_cells (hr.drawn k) hcs hn (off + j) x ?_
            by_cases hjm : j < m * es
            case neg => rw [List.getElem?_eq_none (by simp; omega)] at hx'; cases hx'
            rw [List.getElem?_take_of_lt hjm, hds] at hx'
            by_cases hj : j < len * es
            · rwa [List.getElem?_take_of_lt hj, List.getElem?_drop] at hx'
            · rw [List.getElem?_eq_none (by simp; omega)] at hx'; cases hx')
          rw [List.length_take, Nat.min_eq_left (by omega)] at h1
          exact ⟨vs, by simp only [Builtin.firstCells]; exact h1, RepL.later (later_drawn (E.drawn k) E.w.drawn) _ _ h2⟩
      rcases h with ⟨⟨hes, ho, hl⟩, hk⟩ | ⟨⟨hes, hl⟩, hk⟩
      · exact key cs hes (by omega) (by rw [ho, List.drop_zero, List.take_of_length_le (by omega)]) hk
      · exact key _ hes hl rfl hk
    · exact h.elim
  · rename_i s
    obtain ⟨rfl, hk⟩ := h
    simp only [RepV] at hx
    obtain ⟨ba, rfl, rfl⟩ := hx
    refine ⟨_, _, hk, ⟨fun w => by simp [Builtin.lenOf, length_bytesOf], fun k m hm => ⟨_, rfl, ?_⟩, by simp⟩⟩
    rw [length_bytesOf] at hm
    have e : (ba.extract 0 m).data.toList = ba.data.toList.take m := by rw [Go.Lib.extract_data]; simp
    refine repL_of_get _ _ (by simp [length_bytesOf]) fun j x u hx hu => ?_
    have hd : ∀ j : Nat, (bytesOf ba)[j]? = (ba.data.toList[j]?).map (fun (b : UInt8) => (b.toNat : Int)) := fun j => by simp [bytesOf]
    by_cases hj : j < m
    case neg => rw [List.getElem?_eq_none (by simp; omega)] at hx; cases hx
    rw [List.getElem?_take_of_lt (by omega), List.getElem?_map, hd] at hx
    simp only [Array.toList_map, List.getElem?_map, e] at hu
    rw [List.getElem?_take_of_lt hj] at hu
    cases hjj : ba.data.toList[j]? with
    | none => rw [hjj] at hx; simp at hx
    | some y =>
      rw [hjj] at hx hu
      simp at hx hu
      rw [← hx, ← hu]; exact rep_int E _ _
  · exact h.elim
/-- The most bytes that a slice of our own may come to have. -/
def limB : Nat := 17592186044416
theorem nextcap_le (need old : Nat) (h : old < need) : Builtin.nextslicecap need old ≤ 2 * need + 4096 := by
  unfold Builtin.nextslicecap
  split
  · omega
  · split
    · omega
    · have g : ∀ r c, c ≤ 2 * need + 4096 → c < need + 1024 ∨ c ≤ 2 * need + 4096 → Builtin.growBy need r c ≤ 2 * need + 4096 := by
        intro r
        induction r with
        | zero => intro c h1 _; simpa [Builtin.growBy] using h1
        | succ r ih =>
          intro c h1 _
          unfold Builtin.growBy
          split
          · exact h1
          · exact ih _ (by omega) (by omega)
      exact g 4 old (by omega) (.inr (by omega))
/-- The memory of a block, with cells more of which nothing is known. -/
theorem BlkOk.tops {E : Env} {n : Nat} {cs : List AV} (h : BlkOk E n cs) (k : Nat) (hk : ∀ c e fr, E.w.heap[n]? = some (.cells c e fr) → cs.length + k ≤ c.size) :
    BlkOk E n (cs ++ List.replicate k .top) := by
  obtain ⟨c, e, fr, h1, h2, h3, h4⟩ := h
  refine ⟨c, e, fr, h1, h2, by simpa using hk c e fr h1, fun j x hx => ?_⟩
  by_cases hj : j < cs.length
  · rw [List.getElem?_append_left hj] at hx; exact h4 j x hx
  · rw [List.getElem?_append_right (by omega)] at hx
    have hjk : j - cs.length < k := by
      rcases Nat.lt_or_ge (j - cs.length) (List.replicate k AV.top).length with h' | h'
      · simpa using h'
      · rw [List.getElem?_eq_none h'] at hx; cases hx
    have hc := hk c e fr h1
    refine ⟨c[j]'(by omega), by simp, ?_⟩
    rw [List.getElem?_replicate, if_pos hjk] at hx
    injection hx with hx
    subst hx
    simp [RepV]
/-- A block goes under another name. -/
theorem HeapRep.move {Z : Nat → Prop} {E : Env} {H : Heap} {nx : Nat} (h : HeapRep Z E H nx) {id : Nat} {cs ds : List AV} (hi : H id = some cs)
    (hd : (E.ρ id = none ∧ ds = []) ∨ ∃ n, E.ρ id = some n ∧ BlkOk E n ds) :
    ∃ E', E'.w = E.w ∧ Later E E' ∧ E'.ρ nx = E.ρ id ∧ HeapRep Z E' (setH (setH H id none) nx (some ds)) (nx + 1) ∧ (∀ b, Wr E'.ρ (setH (setH H id none) nx (some ds)) b ↔ Wr E.ρ H b) := by
  have hnx := h.fresh nx (Nat.le_refl _)
  have hne : id ≠ nx := fun e => by rw [e, hnx.2] at hi; cases hi
  let E' : Env := { E with ρ := fun i => cond (Nat.beq i nx) (E.ρ id) (E.ρ i) }
  have r1 : E'.ρ nx = E.ρ id := by simp [E']
  have r2 : ∀ i, i ≠ nx → E'.ρ i = E.ρ i := fun i hi => by
    have : Nat.beq i nx = false := by
      cases hh : Nat.beq i nx
      · rfl
      · exact absurd (Nat.eq_of_beq_eq_true hh) hi
    simp [E', this]
  have L : Later E E' := by
    refine ⟨rfl, fun i n hn => ?_, Nat.le_refl _, fun _ c _ fr hh => ⟨c, fr, hh, rfl⟩, fun _ _ _ => rfl, fun _ _ hh => hh⟩
    have : i ≠ nx := fun e => by rw [e, hnx.1] at hn; cases hn
    rw [r2 i this]; exact hn
  have hget : ∀ i, i ≠ nx → i ≠ id → setH (setH H id none) nx (some ds) i = H i := fun i h1 h2 => by rw [setH_ne _ _ h1, setH_ne _ _ h2]
  have hid : setH (setH H id none) nx (some ds) id = none := by rw [setH_ne _ _ hne, setH_same]
  have hwr : ∀ b, Wr E'.ρ (setH (setH H id none) nx (some ds)) b ↔ Wr E.ρ H b := by
    intro b
    constructor
    · rintro ⟨i, es, h1, h2⟩
      by_cases hin : i = nx
      · subst hin; exact ⟨id, cs, hi, by rw [← r1]; exact h2⟩
      · by_cases hii : i = id
        · subst hii; rw [hid] at h1; cases h1
        · rw [hget i hin hii] at h1; rw [r2 i hin] at h2; exact ⟨i, es, h1, h2⟩
    · rintro ⟨i, es, h1, h2⟩
      have hin : i ≠ nx := fun e => by rw [e, hnx.2] at h1; cases h1
      by_cases hii : i = id
      · subst hii; exact ⟨nx, ds, setH_same _ _ _, by rw [r1]; exact h2⟩
      · exact ⟨i, es, by rw [hget i hin hii]; exact h1, by rw [r2 i hin]; exact h2⟩
  refine ⟨E', rfl, L, r1, ⟨fun i es hh => ?_, fun i i' n h1 h2 h3 h4 => ?_, fun b => by rw [hwr]; exact h.V b, fun i n h1 h2 => ?_, fun i hh => ?_, h.one, fun i n hn => ?_, h.zold, h.tab.later L⟩, hwr⟩
  · by_cases hin : i = nx
    · subst hin
      rw [setH_same] at hh
      injection hh with hh
      subst hh
      rw [r1]
      rcases hd with hd | ⟨n, hn, hb⟩
      · exact .inl hd
      · refine .inr ⟨n, hn, ?_⟩
        obtain ⟨c, e, fr, k1, k2, k3, k4⟩ := hb
        exact ⟨c, e, fr, k1, k2, k3, fun j x hx => let ⟨u, hu, hr⟩ := k4 j x hx; ⟨u, hu, RepV.later L x u hr⟩⟩
    · by_cases hii : i = id
      · subst hii; rw [hid] at hh; cases hh
      · rw [hget i hin hii] at hh
        rw [r2 i hin]
        rcases h.blk i es hh with h0 | ⟨m, hm, hb⟩
        · exact .inl h0
        · exact .inr ⟨m, hm, h.blk_later L hm hb rfl⟩
  · have nrm : ∀ i, setH (setH H id none) nx (some ds) i ≠ none → ∃ k, H k ≠ none ∧ E'.ρ i = E.ρ k ∧ ((i = nx ∧ k = id) ∨ (i ≠ nx ∧ k = i ∧ i ≠ id)) := by
      intro i hh
      by_cases hin : i = nx
      · subst hin; exact ⟨id, by rw [hi]; simp, r1, .inl ⟨rfl, rfl⟩⟩
      · by_cases hii : i = id
        · subst hii; exact absurd hid hh
        · rw [hget i hin hii] at hh; exact ⟨i, hh, r2 i hin, .inr ⟨hin, rfl, hii⟩⟩
    obtain ⟨k, q1, q2, q3⟩ := nrm i h1
    obtain ⟨k', q1', q2', q3'⟩ := nrm i' h2
    have := h.inj k k' n q1 q1' (by rw [← q2]; exact h3) (by rw [← q2']; exact h4)
    rcases q3 with ⟨a1, a2⟩ | ⟨a1, a2, a3⟩ <;> rcases q3' with ⟨b1, b2⟩ | ⟨b1, b2, b3⟩ <;> (try omega)
  · by_cases hin : i = nx
    · subst hin; rw [r1] at h2; exact h.apart id n (by rw [hi]; simp) h2
    · by_cases hii : i = id
      · subst hii; exact absurd hid h1
      · rw [hget i hin hii] at h1; rw [r2 i hin] at h2; exact h.apart i n h1 h2
  · have hin : i ≠ nx := by omega
    have hii : i ≠ id := fun e => by
      have := h.fresh i (by omega)
      rw [e] at this; rw [hi] at this; exact absurd this.2 (by simp)
    rw [r2 i hin, hget i hin hii]; exact h.fresh i (by omega)
  · by_cases hin : i = nx
    · subst hin; rw [r1] at hn; exact h.old id n hn
    · rw [r2 i hin] at hn; exact h.old i n hn
/-- An empty one, nil or without room. -/
theorem HeapRep.empty {Z : Nat → Prop} {E : Env} {H : Heap} {nx : Nat} (h : HeapRep Z E H nx) : HeapRep Z E (setH H nx (some [])) (nx + 1) := by
  have hnx := h.fresh nx (Nat.le_refl _)
  have hwr : ∀ b, Wr E.ρ (setH H nx (some [])) b ↔ Wr E.ρ H b := by
    intro b
    constructor
    · rintro ⟨i, es, h1, h2⟩
      by_cases hin : i = nx
      · subst hin; rw [hnx.1] at h2; cases h2
      · rw [setH_ne _ _ hin] at h1; exact ⟨i, es, h1, h2⟩
    · rintro ⟨i, es, h1, h2⟩
      have hin : i ≠ nx := fun e => by rw [e, hnx.2] at h1; cases h1
      exact ⟨i, es, by rw [setH_ne _ _ hin]; exact h1, h2⟩
  refine ⟨fun i es hh => ?_, fun i i' n h1 h2 h3 h4 => ?_, fun b => by rw [hwr]; exact h.V b, fun i n h1 h2 => ?_, fun i hh => ?_, h.one, h.old, h.zold, h.tab⟩
  · by_cases hin : i = nx
    · subst hin; rw [setH_same] at hh; injection hh with hh; exact .inl ⟨hnx.1, hh.symm⟩
    · rw [setH_ne _ _ hin] at hh; exact h.blk i es hh
  · have hin : i ≠ nx := fun e => by rw [e, hnx.1] at h3; cases h3
    have hin' : i' ≠ nx := fun e => by rw [e, hnx.1] at h4; cases h4
    rw [setH_ne _ _ hin] at h1
    rw [setH_ne _ _ hin'] at h2
    exact h.inj i i' n h1 h2 h3 h4
  · have hin : i ≠ nx := fun e => by rw [e, hnx.1] at h2; cases h2
    rw [setH_ne _ _ hin] at h1
    exact h.apart i n h1 h2
  · have hin : i ≠ nx := by omega
    rw [setH_ne _ _ hin]; exact h.fresh i (by omega)
end Go.Proofs.YtelnlfhdaelfdaaDoor.Abs
end
section
set_option linter.unusedVariables false
set_option linter.unusedSimpArgs false
namespace Go.Proofs.YtelnlfhdaelfdaaDoor.Abs
open Go
/-- The second operand is a slice or a string (not the length of a fused make). -/
def srcTy (T : Types) (t : TypeId) : Bool :=
  match T t with
  | some ⟨.slice _, _, _, _, _⟩ => true
  | some ⟨.str, _, _, _, _⟩ => true
  | _ => false
def appendP (T : Types) (H : Heap) (nx : Nat) (t tx : TypeId) (B X : AV) (K : AV → Heap → Nat → Prop) : Prop :=
  match T t with
  | some ⟨.slice e, _, _, _, _⟩ => match T e with
    | some ei => cond (srcTy T tx && !isTop ei.zero && Nat.ble 1 ei.bytes && Nat.ble ei.bytes 1048576) (srcP H ei.size X fun n src => src.all AV.one = true ∧ match B with
      | .nil => (n * ei.bytes ≤ limB) ∧ forceSz ei.size fun sz => K (.sl nx 0 n sz false) (setH H nx (some src)) (nx + 1)
      | .sl id off len es full => match H id with
        | some cs => match full with
          | false => (off = 0 ∧ es = ei.size ∧ cs.length = len * es ∧ (len + n) * ei.bytes ≤ limB) ∧ K (.sl nx 0 (len + n) es false) (setH (setH H id none) nx (some (cs ++ src))) (nx + 1)
          | true => (es = ei.size ∧ off + len * es ≤ cs.length ∧ (len = 0 ∨ 0 < n) ∧ (len + n) * ei.bytes ≤ limB) ∧ K (.sl nx 0 (len + n) es false) (setH H nx (some ((cs.drop off).take (len * es) ++ src))) (nx + 1)
        | none => False
      | _ => False) False
    | none => False
  | _ => False
theorem srcTy_zeros {P : Program} {T : Types} (hT : TOK P T) {t : TypeId} (h : srcTy T t = true) (w : World) :
    ∃ d, P.underlying t = some d ∧ ∀ k, d ≠ .int k := by
  unfold srcTy at h
  split at h
  · rename_i e a b z sg ht
    obtain ⟨d, hd, ho, _⟩ := (hT t _ ht).und
    have ho' : d = .slice e := ho
    subst ho'
    exact ⟨_, hd, fun k => by simp⟩
  · rename_i a b z sg ht
    obtain ⟨d, hd, ho, _⟩ := (hT t _ ht).und
    have ho' : d = .string := ho
    subst ho'
    exact ⟨_, hd, fun k => by simp⟩
  · cases h
/-- Nothing is appended beyond the room: the row itself is written. -/
theorem run_append_in {P : Program} {t tx ty e : TypeId} {d : TypeDesc} {size : Nat} (ht : P.underlying t = some (.slice e)) (hs : ∀ w, (sizeOf e).run P w = .ok size w)
    (hx : P.underlying tx = some d) (hd : ∀ k, d ≠ .int k) {base : Option Addr} {len cap n : Nat} {x : Value} {w w' : World} {vs : Array Value}
    (hlen : (Builtin.lenOf x).run P w = .ok n w) (hc : (Builtin.firstCells size n x).run P w = .ok vs w) (hroom : len + n ≤ cap)
    (hst : ∀ a, base = some a → (storeCells (a.add (len * size)) vs.toList).run P w = .ok () w') (hno : base = none → w' = w) :
    (Builtin.append_ #[t, tx] ty #[.slice base len cap, x]).run P w = .ok (.slice base (len + n) cap) w' := by
  have hz : (match (generalizing := false) d with | .int _ => true | _ => false) = false := by cases d <;> first | rfl | exact absurd rfl (hd _)
  cases base with
  | none =>
    obtain rfl := hno rfl
    simp [Builtin.append_, run_underlying ht, run_underlying hx, hs, hz, hlen, hroom, hc]
  | some a => simp [Builtin.append_, run_underlying ht, run_underlying hx, hs, hz, hlen, hroom, hc, hst a rfl]
/-- A new row is made. -/
theorem run_append_new {P : Program} {t tx ty e : TypeId} {d : TypeDesc} {f : TypeInfo} {z : Value} (ht : P.underlying t = some (.slice e)) (hf : P.info? e = some f) (hfz : f.zero = some z)
    (hx : P.underlying tx = some d) (hd : ∀ k, d ≠ .int k) {base : Option Addr} {len cap n : Nat} {x : Value} {w : World} {vs us : Array Value}
    (hlen : ∀ w, (Builtin.lenOf x).run P w = .ok n w) (hroom : ¬ len + n ≤ cap) (hb : 0 < f.bytes) (hb2 : f.bytes ≤ 1048576) (hlim : (len + n) * f.bytes ≤ limB)
    (ho : (Builtin.firstCells f.size len (.slice base len cap)).run P { w with drawn := w.drawn + 1 } = .ok us { w with drawn := w.drawn + 1 })
    (hc : (Builtin.firstCells f.size n x).run P { w with drawn := w.drawn + 1 } = .ok vs { w with drawn := w.drawn + 1 }) :
    ∃ newCap, len + n ≤ newCap ∧ (Builtin.append_ #[t, tx] ty #[.slice base len cap, x]).run P w =
      ((newRow e (us ++ vs ++ Builtin.zeroCells z.cells (newCap - (len + n)))).run P { w with drawn := w.drawn + 1 }).andThen fun a w' => .ok (.slice (some a) (len + n) newCap) w' := by
  have hz : (match (generalizing := false) d with | .int _ => true | _ => false) = false := by cases d <;> first | rfl | exact absurd rfl (hd _)
  have h1 : ¬ (9223372036854775807 < (len : Int) + (n : Int) ∧ f.bytes = 0) := by
    intro h; omega
  have h2 : ¬ (2 ^ 48 < Builtin.nextslicecap (len + n) cap * f.bytes) := by
    have := nextcap_le (len + n) cap (by omega)
    have h3 : Builtin.nextslicecap (len + n) cap * f.bytes ≤ (2 * (len + n) + 4096) * f.bytes := Nat.mul_le_mul_right _ this
    have h4 : (2 * (len + n) + 4096) * f.bytes = 2 * ((len + n) * f.bytes) + 4096 * f.bytes := by rw [Nat.add_mul, Nat.mul_assoc]
    unfold limB at hlim
    omega
  refine ⟨(Question.appendCap (len + n) cap e).cut (w.tape w.drawn (.appendCap (len + n) cap e)), by simp [Question.cut], ?_⟩
  have hs : ∀ w, (sizeOf e).run P w = .ok f.size w := fun w => by simp [sizeOf, typeInfo, hf]
  have hti : ∀ w, (typeInfo e).run P w = .ok f w := fun w => by simp [typeInfo, hf]
  have hzv : ∀ w, (zeroValue e).run P w = .ok z w := fun w => by simp [zeroValue, typeInfo, hf, hfz]
  have hask : ∀ k w, (askRoom k).run P w = .ok () w := fun k w => by unfold askRoom; split <;> simp [mark, Sem.run]
  simp only [Builtin.append_, run_underlying ht, run_underlying hx, hs, hti, hzv, hz, hlen, hroom, Sem.run_bind, Result.andThen_ok, Sem.run_pure, List.getElem?_toArray, List.getElem?_cons_zero, List.getElem?_cons_succ,
    Bool.false_eq_true, if_false, ite_false, false_and, false_or, Bool.not_false, if_true]
  rw [if_neg (by simp only [IntKind.max_i64]; omega)]
  simp only [Sem.run_bind, hti, Result.andThen_ok]
  rw [if_neg h2]
  have hch : ∀ q : Question, q.forced = false → ∀ w : World, (choose q).run P w = .ok (q.cut (w.tape w.drawn q)) { w with drawn := w.drawn + 1 } := fun q hq w => by simp [choose, Sem.run, hq]
  simp only [Sem.run_bind, hch _ (show (Question.appendCap (len + n) cap e).forced = false from rfl), Result.andThen_ok, hti, hask, ho, hc, hzv, Sem.run_pure]
/-- A block of one's own is given up: what reads it may stay. -/
theorem HeapRep.drop {Z : Nat → Prop} {E : Env} {H : Heap} {nx : Nat} (h : HeapRep Z E H nx) (id : Nat) :
    ∃ E', E'.w = E.w ∧ E'.ρ = E.ρ ∧ Later E E' ∧ HeapRep Z E' (setH H id none) nx ∧ (∀ b, Wr E'.ρ (setH H id none) b → Wr E.ρ H b) ∧ (∀ n, H id ≠ none → E.ρ id = some n → ¬ E'.V n) := by
  let E' : Env := { E with V := fun b => Z b ∨ Wr E.ρ (setH H id none) b }
  have hwr : ∀ b, Wr E.ρ (setH H id none) b → Wr E.ρ H b := by
    rintro b ⟨i, es, h1, h2⟩
    by_cases hi : i = id
    · subst hi; rw [setH_same] at h1; cases h1
    · rw [setH_ne _ _ hi] at h1; exact ⟨i, es, h1, h2⟩
  have L : Later E E' := ⟨rfl, fun _ _ h => h, Nat.le_refl _, fun _ c _ fr hh => ⟨c, fr, hh, rfl⟩, fun _ _ _ => rfl, fun b _ hb => (h.V b).2 (hb.imp (fun x => x) (hwr b))⟩
  have hne : ∀ i, setH H id none i ≠ none → H i ≠ none ∧ i ≠ id := fun i hi => by
    by_cases he : i = id
    · subst he; rw [setH_same] at hi; exact absurd rfl hi
    · rw [setH_ne _ _ he] at hi; exact ⟨hi, he⟩
  refine ⟨E', rfl, rfl, L, ⟨fun i es hh => ?_, fun i i' n h1 h2 h3 h4 => h.inj i i' n (hne i h1).1 (hne i' h2).1 h3 h4, fun b => Iff.rfl, fun i n h1 h2 => h.apart i n (hne i h1).1 h2, fun i hh => ?_, h.one, h.old, h.zold, h.tab.later L⟩, hwr, fun n hi hn hv => ?_⟩
  · by_cases he : i = id
    · subst he; rw [setH_same] at hh; cases hh
    · rw [setH_ne _ _ he] at hh
      rcases h.blk i es hh with h0 | ⟨m, hm, hb⟩
      · exact .inl h0
      · exact .inr ⟨m, hm, h.blk_later L hm hb rfl⟩
  · by_cases he : i = id
    · subst he; exact ⟨(h.fresh i hh).1, setH_same _ _ _⟩
    · rw [setH_ne _ _ he]; exact h.fresh i hh
  · rcases hv with hz | ⟨i, es, h1, h2⟩
    · exact h.apart id n hi hn hz
    · obtain ⟨k1, k2⟩ := hne i (by rw [h1]; simp)
      exact k2 (h.inj i id n k1 hi h2 hn)
theorem zeroCells_size (z : Array Value) (n : Nat) : (Builtin.zeroCells z n).size = n * z.size := size_zeroCells z n
/-- The new row of an append. -/
theorem grow_after {P : Program} {Z : Nat → Prop} {E0 E : Env} {H0 H : Heap} {nx : Nat} {e : TypeId} {us vs zs : Array Value} {cs src : List AV} {len n newCap esz : Nat}
    (hE : Later E0 E) (hev : Evo (Wr E0.ρ H0) E0.w E.w) (hw : ∀ b, b < E0.w.heap.size → Wr E.ρ H b → Wr E0.ρ H0 b) (h : HeapRep Z E H nx) (h1 : RepL E cs us.toList) (h2 : RepL E src vs.toList)
    (hc : cs.length = len * esz) (hs : src.length = n * esz) (hz : zs.size = (newCap - (len + n)) * esz) (hcap : len + n ≤ newCap) :
    ∃ a E', (newRow e (us ++ vs ++ zs)).run P E.w = .ok a E'.w ∧ After Z E0 H0 (.sl nx 0 (len + n) esz false) (setH H nx (some (cs ++ src))) (nx + 1) (.slice (some a) (len + n) newCap) E' := by
  have l1 := repL_length _ _ h1
  have l2 := repL_length _ _ h2
  simp only [Array.length_toList] at l1 l2
  obtain ⟨k1, k2, k3, k4, k5⟩ := newRow_sound (P := P) h e (us ++ vs ++ zs) (cs ++ src) (by simp; omega) (fun j x hx => by
    by_cases hj : j < cs.length
    · rw [List.getElem?_append_left hj] at hx
      obtain ⟨u, hu, hr⟩ := repL_get _ _ h1 j x hx
      rw [Array.getElem?_toList] at hu
      exact ⟨u, by rw [Array.append_assoc, Array.getElem?_append_left (by omega)]; exact hu, hr⟩
    · rw [List.getElem?_append_right (by omega)] at hx
      obtain ⟨u, hu, hr⟩ := repL_get _ _ h2 _ x hx
      rw [Array.getElem?_toList] at hu
      have hjv : j - us.size < vs.size := by
        rcases Nat.lt_or_ge (j - us.size) vs.size with h' | h'
        · exact h'
        · rw [Array.getElem?_eq_none (by omega)] at hu; cases hu
      exact ⟨u, by rw [Array.append_assoc, Array.getElem?_append_right (by omega), Array.getElem?_append_left hjv, ← l1]; exact hu, hr⟩)
  refine ⟨_, _, k1, ⟨hE.trans k2, hev.trans k3 hw, ?_, k4⟩⟩
  simp only [RepV]
  refine ⟨_, newCap, rfl, hcap, (nofun), .inr ⟨_, us ++ vs ++ zs, e, (0, 0), k5, rfl, Go.heap_alloc_new _ _, ?_⟩⟩
  simp only [Array.size_append, hz]
  have : (newCap - (len + n)) * esz + (len + n) * esz = newCap * esz := by rw [← Nat.add_mul]; congr 1; omega
  have e1 : (len + n) * esz = len * esz + n * esz := Nat.add_mul _ _ _
  omega
set_option maxHeartbeats 1000000 in
theorem appendP_sound {P : Program} {T : Types} (hT : TOK P T) {Z : Nat → Prop} {E : Env} {H : Heap} {nx : Nat} (hr : HeapRep Z E H nx) {t tx ty : TypeId} {B X : AV} {vb vx : Value} {K : AV → Heap → Nat → Prop}
    (hb : RepV E B vb) (hx : RepV E X vx) (h : appendP T H nx t tx B X K) :
    ∃ x H' nx' E' r, K x H' nx' ∧ (Builtin.append_ #[t, tx] ty #[vb, vx]).run P E.w = .ok r E'.w ∧ After Z E H x H' nx' r E' := by
  unfold appendP at h
  simp only [forceSz_eq] at h
  split at h
  case h_2 => exact h.elim
  rename_i e a1 b1 z1 sg1 ht
  obtain ⟨d, hd, hdo, _⟩ := (hT t _ ht).und
  have ho' : d = .slice e := hdo
  subst ho'
  split at h
  case h_2 => exact h.elim
  rename_i ei he
  cases hcond : (srcTy T tx && !isTop ei.zero && Nat.ble 1 ei.bytes && Nat.ble ei.bytes 1048576) with
  | false => rw [hcond] at h; exact h.elim
  | true =>
  rw [hcond] at h
  simp only [Bool.and_eq_true, Bool.not_eq_true'] at hcond
  obtain ⟨⟨⟨hsrc, hzt⟩, hb1⟩, hb2⟩ := hcond
  have hb1 := Nat.le_of_ble_eq_true hb1
  have hb2 := Nat.le_of_ble_eq_true hb2
  obtain ⟨dx, hdx, hdxn⟩ := srcTy_zeros hT hsrc E.w
  obtain ⟨f, hf, hfs, hfb, z, hfz, hzsz, hzr, _⟩ := (hT e _ he).info
  have hzr' : ∀ E, RepV E ei.zero z := hzr.resolve_left (fun e => by rw [e] at hzt; simp [isTop] at hzt)
  have hse := fun w => run_sizeOf (hT e _ he) w
  have h' := h
  simp only [cond_true] at h'
  clear h
  have hrd := hr.drawn (E.w.drawn + 1)
  have Ld := later_drawn E (E.w.drawn + 1)
  have evd : Evo (Wr E.ρ H) E.w (E.drawn (E.w.drawn + 1)).w := Evo.drawn _ _ _
  obtain ⟨n, src, ⟨hone, h⟩, hS⟩ := srcP_sound (P := P) hr hx h'
  clear h'
  obtain ⟨vs, hvs1, hvs2⟩ := hS.cells E.w.drawn
  obtain ⟨us, hus1, hus2⟩ := hS.cells (E.w.drawn + 1)
  have hus2' := RepL.later Ld _ _ hus2
  have hsc : ∀ v ∈ vs.toList, scalar v = true := repL_scalar hr.one _ _ hvs2 (by simpa using hone)
  have hz0 : ∀ k, (Builtin.zeroCells z.cells k).size = k * ei.size := fun k => by rw [zeroCells_size, hzsz]
  have hvl : vs.size = n * ei.size := by have := repL_length _ _ hvs2; rw [hS.size] at this; simpa using this.symm
  split at h
  · -- nil
    simp only [RepV] at hb
    subst hb
    by_cases hn : n = 0
    · subst hn
      have hs0 : src = [] := List.length_eq_zero_iff.1 (by rw [hS.size]; simp)
      subst hs0
      refine ⟨_, _, _, E, _, h.2, run_append_in hd hse hdx hdxn (hS.len E.w) hvs1 (by simp) (fun a ha => by cases ha) (fun _ => rfl), ⟨Later.refl E, Evo.refl _ _, ?_, hr.empty⟩⟩
      simp only [RepV]
      exact ⟨_, _, rfl, by simp, (nofun), .inl rfl⟩
    · obtain ⟨newCap, hc1, hc2⟩ := run_append_new (P := P) (ty := ty) hd hf hfz hdx hdxn (base := none) (len := 0) (cap := 0) hS.len (by omega) (by omega) (by omega) (by rw [hfb]; simpa using h.1) (us := #[]) (w := E.w)
        (by simp [Builtin.firstCells]) (by rw [hfs]; exact hus1)
      obtain ⟨a, E', k1, k2⟩ := grow_after (P := P) (e := e) (esz := ei.size) (len := 0) (n := n) (newCap := newCap) (zs := Builtin.zeroCells z.cells (newCap - (0 + n))) Ld evd (fun b _ hb => hb) hrd (us := #[]) (cs := []) (by simp [RepL]) hus2' (by simp) hS.size (hz0 _) hc1
      refine ⟨_, _, _, E', _, h.2, ?_, by simpa using k2⟩
      rw [hc2]
      have k1' := k1
      simp only [Env.drawn] at k1'
      rw [k1']
      simp
  · rename_i id off len es full
    split at h
    case h_2 => exact h.elim
    rename_i cs hcs
    simp only [RepV] at hb
    obtain ⟨ao, cap, rfl, hlc, hfull, hc⟩ := hb
    split at h
    · -- it may have room
      obtain ⟨⟨rfl, rfl, hcl, hlim⟩, hk⟩ := h
      by_cases hroom : len + n ≤ cap
      · rcases hc with rfl | ⟨m, c, e', fr, hm, rfl, hh, hs⟩
        · have hl0 : len = 0 := by omega
          have hn0 : n = 0 := by omega
          subst hl0; subst hn0
          have hs0 : src = [] := List.length_eq_zero_iff.1 (by rw [hS.size]; simp)
          have hc0 : cs = [] := List.length_eq_zero_iff.1 (by rw [hcl]; simp)
          subst hs0; subst hc0
          have hv0 : vs.toList = [] := by
            have : vs.size = 0 := by rw [hvl]; simp
            simpa using this
          obtain ⟨E', e1, L', r1, hr', hw'⟩ := hr.move (ds := []) hcs (by
            rcases hr.blk id [] hcs with h0 | ⟨m, hm, hb⟩
            · exact .inl h0
            · exact .inr ⟨m, hm, hb⟩)
          refine ⟨_, _, _, E', .slice ao 0 0, hk, ?_, ⟨L', e1 ▸ Evo.refl _ _, ?_, by simpa using hr'⟩⟩
          · rw [e1]
            exact run_append_in hd hse hdx hdxn (hS.len E.w) hvs1 (by simp) (fun a _ => by rw [hv0]; simp [storeCells]) (fun _ => rfl)
          · simp only [RepV]
            exact ⟨_, _, rfl, by simp, (nofun), .inl rfl⟩
        · have hblk : BlkOk E m cs := by
            rcases hr.blk id cs hcs with ⟨h0, _⟩ | ⟨m', hm', hb⟩
            · rw [hm] at h0; cases h0
            · obtain rfl : m = m' := by rw [hm] at hm'; injection hm'
              exact hb
          have hmul : (len + n) * ei.size ≤ cap * ei.size := Nat.mul_le_mul_right _ hroom
          have hmul2 : (len + n) * ei.size = len * ei.size + n * ei.size := Nat.add_mul _ _ _
          have hblk2 := hblk.tops src.length (fun c' e'' fr' hh' => by
            rw [hh] at hh'
            injection hh' with hh'
            injection hh' with q1 q2 q3
            subst q1
            rw [hcl, hS.size]; omega)
          obtain ⟨E1, e1, L1, r1, hr1, hw1⟩ := hr.move (ds := cs ++ List.replicate src.length .top) hcs (.inr ⟨m, hm, hblk2⟩)
          have hvs1' : RepL E1 src vs.toList := RepL.later L1 _ _ hvs2
          obtain ⟨E2, k1, k2, k3, k4⟩ := storeCells_sound (P := P) (off := len * ei.size) src vs.toList 0 E1 _ _ hr1 (setH_same _ _ _) (by rw [r1]; exact hm) (by simp; omega) hvs1' hsc
          rw [setH_twice, Nat.add_zero, setN_eq _ _ _ (by simp; omega)] at k4
          have hset : (cs ++ List.replicate src.length AV.top).take (len * ei.size) ++ src ++ (cs ++ List.replicate src.length AV.top).drop (len * ei.size + src.length) = cs ++ src := by
            rw [← hcl, List.take_left, List.drop_eq_nil_of_le (by simp), List.append_nil]
          rw [hset] at k4
          refine ⟨_, _, _, E2, .slice (some ⟨m, 0, none⟩) (len + n) cap, hk, ?_, ⟨L1.trans k2, ?_, ?_, k4⟩⟩
          · refine run_append_in hd hse hdx hdxn (hS.len E.w) hvs1 hroom (fun a ha => ?_) (fun hh => by cases hh)
            injection ha with ha
            subst ha
            rw [addr_add, Nat.zero_add, ← e1]
            exact k1
          · rw [← e1]
            exact k3.mono (fun b hb => (hw1 b).1 hb)
          · simp only [RepV]
            obtain ⟨c', fr', hc1, hc2⟩ := (L1.trans k2).kept m c e' fr hh
            exact ⟨_, _, rfl, hroom, (nofun), .inr ⟨m, c', e', fr', k2.ρ _ _ (by rw [r1]; exact hm), rfl, hc1, by omega⟩⟩
      · -- a new row
        obtain ⟨E1, e1, r1, L1, hr1, hw1, _⟩ := hrd.drop id
        have hold : ∃ os : Array Value, (Builtin.firstCells ei.size len (.slice ao len cap)).run P { E.w with drawn := E.w.drawn + 1 } = .ok os { E.w with drawn := E.w.drawn + 1 } ∧ RepL E1 cs os.toList := by
          rcases hc with rfl | ⟨m, c, e', fr, hm, rfl, hh, hs⟩
          · have hl0 : len = 0 := by omega
            subst hl0
            have hc0 : cs = [] := List.length_eq_zero_iff.1 (by rw [hcl]; simp)
            subst hc0
            refine ⟨#[], ?_, by simp [RepL]⟩
            cases ao with
            | none => simp [Builtin.firstCells]
            | some a => simp [Builtin.firstCells, loadCells, loadCellsFrom]
          · obtain ⟨os, h1, h2⟩ := load_list (P := P) (E := E.drawn (E.w.drawn + 1)) (b := m) (off := 0) (cs := cs) (fun j x hx' => by
              rw [Nat.zero_add]; exact blk_cells hrd hcs hm j x hx')
            exact ⟨os, by simp only [Builtin.firstCells, ← hcl]; exact h1, RepL.later L1 _ _ h2⟩
        obtain ⟨os, ho1, ho2⟩ := hold
        obtain ⟨newCap, hc1, hc2⟩ := run_append_new (P := P) (ty := ty) hd hf hfz hdx hdxn (base := ao) (len := len) (cap := cap) hS.len hroom (by omega) (by omega) (by rw [hfb]; exact hlim) (us := os) (w := E.w)
          (by rw [hfs]; exact ho1) (by rw [hfs]; exact hus1)
        obtain ⟨a, E', k1, k2⟩ := grow_after (P := P) (e := e) (esz := ei.size) (len := len) (n := n) (newCap := newCap) (zs := Builtin.zeroCells z.cells (newCap - (len + n))) (E0 := E) (H0 := H) (E := E1) (Ld.trans L1) (by rw [e1]; exact evd)
          (fun b _ hb => hw1 b hb) hr1 ho2 (RepL.later L1 _ _ hus2') hcl hS.size (hz0 _) hc1
        refine ⟨_, _, _, E', _, hk, ?_, k2⟩
        rw [hc2]
        rw [e1] at k1
        simp only [Env.drawn] at k1
        rw [k1]
        simp
    · -- without room
      obtain ⟨⟨rfl, hcl, hln, hlim⟩, hk⟩ := h
      have hcap := hfull rfl
      by_cases hn : n = 0
      · subst hn
        have hl0 : len = 0 := by omega
        subst hl0
        have hs0 : src = [] := List.length_eq_zero_iff.1 (by rw [hS.size]; simp)
        subst hs0
        have hv0 : vs.toList = [] := by
          have : vs.size = 0 := by rw [hvl]; simp
          simpa using this
        subst hcap
        refine ⟨_, _, _, E, .slice ao 0 0, hk, run_append_in hd hse hdx hdxn (hS.len E.w) hvs1 (by simp) (fun a _ => by rw [hv0]; simp [storeCells]) (fun _ => rfl), ⟨Later.refl E, Evo.refl _ _, ?_, by simpa using hr.empty⟩⟩
        simp only [RepV]
        exact ⟨_, _, rfl, by simp, (nofun), .inl rfl⟩
      · have hold : ∃ os : Array Value, (Builtin.firstCells ei.size len (.slice ao len cap)).run P { E.w with drawn := E.w.drawn + 1 } = .ok os { E.w with drawn := E.w.drawn + 1 } ∧ RepL (E.drawn (E.w.drawn + 1)) ((cs.drop off).take (len * ei.size)) os.toList := by
          have hdl : ((cs.drop off).take (len * ei.size)).length = len * ei.size := by simp; omega
          rcases hc with rfl | ⟨m, c, e', fr, hm, rfl, hh, hs⟩
          · have hl0 : len = 0 := by omega
            subst hl0
            refine ⟨#[], ?_, by simp [RepL]⟩
            cases ao with
            | none => simp [Builtin.firstCells]
            | some a => simp [Builtin.firstCells, loadCells, loadCellsFrom]
          · obtain ⟨os, h1, h2⟩ := load_list (P := P) (E := E.drawn (E.w.drawn + 1)) (b := m) (off := off) (cs := (cs.drop off).take (len * ei.size)) (fun j x hx' => by
              refine blk_cells hrd hcs hm (off + j) x ?_
              by_cases hj : j < len * ei.size
              · rwa [List.getElem?_take_of_lt hj, List.getElem?_drop] at hx'
              · rw [List.getElem?_eq_none (by omega)] at hx'; cases hx')
            rw [hdl] at h1
            exact ⟨os, by simp only [Builtin.firstCells]; exact h1, h2⟩
        obtain ⟨os, ho1, ho2⟩ := hold
        obtain ⟨newCap, hc1, hc2⟩ := run_append_new (P := P) (ty := ty) hd hf hfz hdx hdxn (base := ao) (len := len) (cap := cap) hS.len (by omega) (by omega) (by omega) (by rw [hfb]; exact hlim) (us := os) (w := E.w)
          (by rw [hfs]; exact ho1) (by rw [hfs]; exact hus1)
        obtain ⟨a, E', k1, k2⟩ := grow_after (P := P) (e := e) (esz := ei.size) (len := len) (n := n) (newCap := newCap) (zs := Builtin.zeroCells z.cells (newCap - (len + n))) (E0 := E) (H0 := H) (E := E.drawn (E.w.drawn + 1)) Ld evd
          (fun b _ hb => hb) hrd ho2 hus2' (by simp; omega) hS.size (hz0 _) hc1
        refine ⟨_, _, _, E', _, hk, ?_, k2⟩
        rw [hc2]
        have k1' := k1
        simp only [Env.drawn] at k1'
        rw [k1']
        simp
  · exact h.elim
end Go.Proofs.YtelnlfhdaelfdaaDoor.Abs
end
section
set_option linter.unusedVariables false
set_option linter.unusedSimpArgs false
namespace Go.Proofs.YtelnlfhdaelfdaaDoor.Abs
open Go
def appendZ (T : Types) (H : Heap) (nx : Nat) (t tx : TypeId) (n : Int) (K : AV → Heap → Nat → Prop) : Prop :=
  match T t, T tx with
  | some ⟨.slice e, _, _, _, _⟩, some ⟨.int k, _, _, _, _⟩ => match T e with
    | some ei => cond (kEq k .i64 && Nat.ble 1 ei.bytes && Nat.ble ei.bytes 1048576) ((0 < n ∧ n.toNat * ei.bytes ≤ limB) ∧ forceSz ei.size fun sz => K (.sl nx 0 n.toNat sz false) (setH H nx (some (List.replicate (n.toNat * sz) .top))) (nx + 1)) False
    | none => False
  | _, _ => False
theorem run_append_zero {P : Program} {t tx ty e : TypeId} {f : TypeInfo} {z : Value} (ht : P.underlying t = some (.slice e)) (hf : P.info? e = some f) (hfz : f.zero = some z)
    (hx : P.underlying tx = some (.int .i64)) {n : Int} {w : World} (hn : 0 < n) (hb : 0 < f.bytes) (hb2 : f.bytes ≤ 1048576) (hlim : n.toNat * f.bytes ≤ limB) (hzs : z.cells.size = f.size) :
    ∃ newCap, n.toNat ≤ newCap ∧ (Builtin.append_ #[t, tx] ty #[.slice none 0 0, .int .i64 n]).run P w =
      ((newRow e (Builtin.zeroCells z.cells n.toNat ++ Builtin.zeroCells z.cells (newCap - n.toNat))).run P { w with drawn := w.drawn + 1 }).andThen fun a w' => .ok (.slice (some a) n.toNat newCap) w' := by
  have hle : n.toNat ≤ n.toNat * f.bytes := Nat.le_mul_of_pos_right _ hb
  have hlb : limB < 9223372036854775807 := by unfold limB; omega
  have hw : IntKind.i64.wrap n = n := wrap_in (k := .i64) (by simp [IntKind.lo]; omega) (by simp [IntKind.hi]; omega)
  have hb48 : ¬ (2 ^ 48 < n * (f.bytes : Int)) := by
    have e : n * (f.bytes : Int) = ((n.toNat * f.bytes : Nat) : Int) := by rw [Int.natCast_mul]; congr 1; omega
    rw [e]
    have : limB ≤ 2 ^ 48 := by unfold limB; omega
    omega
  have h2 : ¬ (2 ^ 48 < Builtin.nextslicecap n.toNat 0 * f.bytes) := by
    have := nextcap_le n.toNat 0 (by omega)
    have h3 : Builtin.nextslicecap n.toNat 0 * f.bytes ≤ (2 * n.toNat + 4096) * f.bytes := Nat.mul_le_mul_right _ this
    have h4 : (2 * n.toNat + 4096) * f.bytes = 2 * (n.toNat * f.bytes) + 4096 * f.bytes := by rw [Nat.add_mul, Nat.mul_assoc]
    unfold limB at hlim
    omega
  have hroom : ¬ n.toNat ≤ 0 := by omega
  refine ⟨(Question.appendCap n.toNat 0 e).cut (w.tape w.drawn (.appendCap n.toNat 0 e)), by simp [Question.cut], ?_⟩
  have hs : ∀ w, (sizeOf e).run P w = .ok f.size w := fun w => by simp [sizeOf, typeInfo, hf]
  have hti : ∀ w, (typeInfo e).run P w = .ok f w := fun w => by simp [typeInfo, hf]
  have hzv : ∀ w, (zeroValue e).run P w = .ok z w := fun w => by simp [zeroValue, typeInfo, hf, hfz]
  have hask : ∀ k w, (askRoom k).run P w = .ok () w := fun k w => by unfold askRoom; split <;> simp [mark, Sem.run]
  have hch : ∀ q : Question, q.forced = false → ∀ w : World, (choose q).run P w = .ok (q.cut (w.tape w.drawn q)) { w with drawn := w.drawn + 1 } := fun q hq w => by simp [choose, Sem.run, hq]
  simp only [Builtin.append_, run_underlying ht, run_underlying hx, hs, hti, hzv, hroom, Sem.run_bind, Result.andThen_ok, Sem.run_pure, List.getElem?_toArray, List.getElem?_cons_zero, List.getElem?_cons_succ, if_true, ite_true, asInt, hw, Nat.zero_add]
  have hai : ∀ w, (asIntOf (Value.int IntKind.i64 n)).run P w = .ok (IntKind.i64, n) w := fun w => by simp [asIntOf]
  simp only [hai, Result.andThen_ok]
  rw [hw, if_neg (by omega)]
  simp only [Sem.run_bind, hti, Result.andThen_ok]
  rw [if_neg hb48]
  simp only [Sem.run_bind, Sem.run_pure, Result.andThen_ok]
  rw [if_neg hroom]
  simp only [Sem.run_bind, hti, Result.andThen_ok]
  rw [if_neg (by simp only [IntKind.max_i64]; omega)]
  simp only [Sem.run_bind, hti, Result.andThen_ok]
  rw [if_neg h2]
  simp only [Sem.run_bind, hch _ (show (Question.appendCap n.toNat 0 e).forced = false from rfl), Result.andThen_ok, hti, hask, hzv, Sem.run_pure, Bool.not_true, Bool.false_eq_true, if_false]
  have hfst : ∀ w, (Builtin.firstCells f.size 0 (.slice none 0 0)).run P w = .ok #[] w := fun w => by simp [Builtin.firstCells]
  simp only [hfst, Result.andThen_ok]
  by_cases h0 : n.toNat * f.size = 0
  · rw [if_pos h0]
    have : Builtin.zeroCells z.cells n.toNat = #[] := by
      apply Array.eq_empty_of_size_eq_zero
      rw [zeroCells_size, hzs]
      exact h0
    simp only [Sem.run_pure, Result.andThen_ok, this, hzv, Sem.run_bind, Array.empty_append, Array.append_empty]
  · rw [if_neg h0]
    simp only [Sem.run_bind, hzv, Sem.run_pure, Result.andThen_ok, Array.empty_append]
theorem repL_tops {E : Env} : ∀ (k : Nat) (vs : List Value), vs.length = k → RepL E (List.replicate k .top) vs
  | 0, [], _ => rfl
  | k + 1, v :: vs, h => by
    simp only [List.replicate_succ, RepL]
    exact ⟨v, vs, rfl, by simp [RepV], repL_tops k vs (by simpa using h)⟩
theorem appendZ_sound {P : Program} {T : Types} (hT : TOK P T) {Z : Nat → Prop} {E : Env} {H : Heap} {nx : Nat} (hr : HeapRep Z E H nx) {t tx ty : TypeId} {n : Int} {K : AV → Heap → Nat → Prop}
    (h : appendZ T H nx t tx n K) :
    ∃ x H' nx' E' r, K x H' nx' ∧ (Builtin.append_ #[t, tx] ty #[.slice none 0 0, .int .i64 n]).run P E.w = .ok r E'.w ∧ After Z E H x H' nx' r E' := by
  unfold appendZ at h
  simp only [forceSz_eq] at h
  split at h
  case h_2 => exact h.elim
  rename_i e a1 b1 z1 sg1 k a2 b2 z2 sg2 ht htx
  obtain ⟨d, hd, hdo, _⟩ := (hT t _ ht).und
  have ho' : d = .slice e := hdo
  subst ho'
  obtain ⟨dx, hdx, hdxo, _⟩ := (hT tx _ htx).und
  have hx' : dx = .int k := hdxo
  subst hx'
  split at h
  case h_2 => exact h.elim
  rename_i ei he
  cases hcond : (kEq k .i64 && Nat.ble 1 ei.bytes && Nat.ble ei.bytes 1048576) with
  | false => rw [hcond] at h; exact h.elim
  | true =>
  rw [hcond] at h
  simp only [Bool.and_eq_true] at hcond
  obtain ⟨⟨hk, hb1⟩, hb2⟩ := hcond
  obtain rfl := kEq_eq hk
  have hb1 := Nat.le_of_ble_eq_true hb1
  have hb2 := Nat.le_of_ble_eq_true hb2
  obtain ⟨f, hf, hfs, hfb, z, hfz, hzsz, hzr, _⟩ := (hT e _ he).info
  simp only [cond_true] at h
  obtain ⟨⟨hn, hlim⟩, hK⟩ := h
  have hrd := hr.drawn (E.w.drawn + 1)
  have Ld := later_drawn E (E.w.drawn + 1)
  have evd : Evo (Wr E.ρ H) E.w (E.drawn (E.w.drawn + 1)).w := Evo.drawn _ _ _
  obtain ⟨newCap, hc1, hc2⟩ := run_append_zero (P := P) (ty := ty) hd hf hfz hdx (w := E.w) hn (by omega) (by omega) (by rw [hfb]; exact hlim) (by rw [hzsz, hfs])
  have hz0 : ∀ k, (Builtin.zeroCells z.cells k).size = k * ei.size := fun k => by rw [zeroCells_size, hzsz]
  obtain ⟨a, E', k1, k2⟩ := grow_after (P := P) (e := e) (esz := ei.size) (len := 0) (n := n.toNat) (newCap := newCap) (zs := Builtin.zeroCells z.cells (newCap - n.toNat)) Ld evd (fun b _ hb => hb) hrd (us := #[]) (cs := []) (by simp [RepL])
    (vs := Builtin.zeroCells z.cells n.toNat) (src := List.replicate (n.toNat * ei.size) .top) (repL_tops _ _ (by rw [Array.length_toList, hz0])) (by simp) (by simp) (by rw [hz0, Nat.zero_add]) (by omega)
  refine ⟨_, _, _, E', _, hK, ?_, by simpa using k2⟩
  rw [hc2]
  have k1' := k1
  simp only [Env.drawn, Array.empty_append] at k1'
  rw [k1']
  simp
theorem cap_nil {P : Program} (w : World) {ts : Array TypeId} {ty t : TypeId} {e : TypeId} (ht : P.underlying t = some (.slice e)) : (Builtin.cap_ #[t] ty #[.slice none 0 0]).run P w = .ok (.int .i64 0) w := by
  simp [Builtin.cap_, run_underlying ht, goInt]
end Go.Proofs.YtelnlfhdaelfdaaDoor.Abs
end
section
set_option linter.unusedVariables false
set_option linter.unusedSimpArgs false
namespace Go.Proofs.YtelnlfhdaelfdaaDoor.Abs
open Go
def copyP (T : Types) (H : Heap) (t : TypeId) (B X : AV) (K : AV → Heap → Prop) : Prop :=
  match T t with
  | some ⟨.slice e, _, _, _, _⟩ => match T e with
    | some ei => match B with
      | .sl id off len es full => match H id with
        | some cs => srcP H ei.size X fun n src => (src.all AV.one = true ∧ es = ei.size ∧ off + len * es ≤ cs.length) ∧
            K (.int .i64 (Nat.min n len : Nat)) (setH H id (some (setN cs off (src.take (Nat.min n len * es)))))
        | none => False
      | _ => False
    | none => False
  | _ => False
theorem copyP_sound {P : Program} {T : Types} (hT : TOK P T) {Z : Nat → Prop} {E : Env} {H : Heap} {nx : Nat} (hr : HeapRep Z E H nx) {t tx ty : TypeId} {B X : AV} {vb vx : Value} {K : AV → Heap → Prop}
    (hb : RepV E B vb) (hx : RepV E X vx) (h : copyP T H t B X K) :
    ∃ x H' E' r, K x H' ∧ (Builtin.copy_ #[t, tx] ty #[vb, vx]).run P E.w = .ok r E'.w ∧ After Z E H x H' nx r E' := by
  unfold copyP at h
  split at h
  case h_2 => exact h.elim
  rename_i e a1 b1 z1 sg1 ht
  obtain ⟨d, hd, hdo, _⟩ := (hT t _ ht).und
  have ho' : d = .slice e := hdo
  subst ho'
  split at h
  case h_2 => exact h.elim
  rename_i ei he
  have hse := fun w => run_sizeOf (hT e _ he) w
  split at h
  case h_2 => exact h.elim
  rename_i id off len es full
  split at h
  case h_2 => exact h.elim
  rename_i cs hcs
  obtain ⟨n, src, ⟨⟨hone, rfl, hl⟩, hk⟩, hS⟩ := srcP_sound (P := P) hr hx h
  simp only [RepV] at hb
  obtain ⟨ao, cap, rfl, hlc, hfull, hc⟩ := hb
  obtain ⟨vs, h1, h2⟩ := hS.some E.w.drawn (Nat.min n len) (Nat.min_le_left _ _)
  have hlen := hS.len E.w
  have hmul : Nat.min n len * ei.size ≤ n * ei.size := Nat.mul_le_mul_right _ (Nat.min_le_left _ _)
  have hmul2 : Nat.min n len * ei.size ≤ len * ei.size := Nat.mul_le_mul_right _ (Nat.min_le_right _ _)
  have htl : (src.take (Nat.min n len * ei.size)).length = Nat.min n len * ei.size := by simp [hS.size]
  rcases hc with rfl | ⟨m, c, e', fr, hm, rfl, hh, hs⟩
  · have hl0 : len = 0 := by omega
    subst hl0
    have hm0 : Nat.min n 0 = 0 := Nat.min_zero n
    rw [hm0, Nat.zero_mul, List.take_zero] at hk h2
    simp only [RepL] at h2
    refine ⟨_, _, E, goInt 0, hk, ?_, ⟨Later.refl E, Evo.refl _ _, rep_int E _ _, by simp only [setN]; rw [setH_id _ _ _ hcs]; exact hr⟩⟩
    have h1' : (Builtin.firstCells ei.size (Nat.min n 0) vx).run P E.w = .ok vs E.w := h1
    rw [hm0] at h1'
    have hv0 : vs = #[] := by simpa using h2
    subst hv0
    cases ao with
    | none => simp [Builtin.copy_, run_underlying hd, hse, hlen, hm0, h1']
    | some a => simp [Builtin.copy_, run_underlying hd, hse, hlen, hm0, h1', storeCells]
  · have hsc : ∀ v ∈ vs.toList, scalar v = true := repL_scalar hr.one _ _ h2 (fun x hx' => by
      rw [List.all_eq_true] at hone; exact hone x (List.mem_of_mem_take hx'))
    obtain ⟨E', k1, k2, k3, k4⟩ := storeCells_sound (P := P) (off := off) _ vs.toList 0 E H cs hr hcs hm (by rw [htl]; omega) h2 hsc
    refine ⟨_, _, E', goInt (Nat.min n len : Nat), hk, ?_, ⟨k2, k3, rep_int E' _ _, by simpa using k4⟩⟩
    have h1' : (Builtin.firstCells ei.size (Nat.min n len) vx).run P E.w = .ok vs E.w := h1
    simp only [Builtin.copy_, List.getElem?_toArray, List.getElem?_cons_zero, List.getElem?_cons_succ, run_underlying hd, hse, hlen, h1', Sem.run_bind, Result.andThen_ok, k1, Sem.run_pure]
def zerosA (n : Nat) : List AV → List AV
  | [z] => List.replicate n z
  | zc => (List.replicate n zc).flatten
theorem zerosA_get (n : Nat) (zc : List AV) (hz : 0 < zc.length) : (zerosA n zc).length = n * zc.length ∧ ∀ j, j < n * zc.length → (zerosA n zc)[j]? = zc[j % zc.length]? := by
  have key : ((List.replicate n zc).flatten).length = n * zc.length ∧ ∀ j, j < n * zc.length → ((List.replicate n zc).flatten)[j]? = zc[j % zc.length]? := by
    refine ⟨by simp [List.length_flatten], ?_⟩
    induction n with
    | zero => intro j hj; simp at hj
    | succ n ih =>
      intro j hj
      rw [List.replicate_succ, List.flatten_cons]
      by_cases hjz : j < zc.length
      · rw [List.getElem?_append_left hjz, Nat.mod_eq_of_lt hjz]
      · have e1 : j % zc.length = (j - zc.length) % zc.length := Nat.mod_eq_sub_mod (by omega)
        rw [List.getElem?_append_right (by omega), ih _ (by rw [Nat.add_mul] at hj; omega), e1]
  unfold zerosA
  split
  · rename_i z
    refine ⟨by simp, fun j hj => ?_⟩
    simp only [List.length_cons, List.length_nil, Nat.zero_add, Nat.mul_one] at hj
    simp [List.getElem?_replicate, hj, Nat.mod_one]
  · exact key
theorem zeros_rep {E : Env} {zv : Value} {zc : List AV} (hz : RepL E zc zv.cells.toList) (h0 : 0 < zc.length) (n : Nat) :
    ∀ (j : Nat) x, (zerosA n zc)[j]? = some x → ∃ u, ((Array.range (n * zc.length)).map (zv.cells[· % zv.cells.size]!))[j]? = some u ∧ RepV E x u := by
  have hsz : zv.cells.size = zc.length := by have := repL_length _ _ hz; simpa using this.symm
  obtain ⟨g1, g2⟩ := zerosA_get n zc h0
  intro j x hx
  have hj : j < n * zc.length := by
    rcases Nat.lt_or_ge j (zerosA n zc).length with h' | h'
    · omega
    · rw [List.getElem?_eq_none h'] at hx; cases hx
  rw [g2 j hj] at hx
  obtain ⟨u, hu, hr⟩ := repL_get _ _ hz _ x hx
  rw [Array.getElem?_toList] at hu
  refine ⟨u, ?_, hr⟩
  have hlt : j % zc.length < zv.cells.size := by rw [hsz]; exact Nat.mod_lt _ h0
  simp only [Array.getElem?_map, Array.getElem?_range, hj, if_true, Option.map_some, hsz]
  rw [Array.getElem?_eq_getElem hlt] at hu
  rw [getElem!_pos zv.cells (j % zc.length) hlt]
  exact hu
def makeSliceP (T : Types) (H : Heap) (nx : Nat) (t : TypeId) (L C : AV) (K : AV → Heap → Nat → Prop) : Prop :=
  match T t with
  | some ⟨.slice e, _, _, _, _⟩ => match T e with
    | some ei => match L, C with
      | .int _ l, .int _ c => (c = l ∧ 0 ≤ l ∧ l * ei.bytes ≤ 17592186044416 ∧ l ≤ 17592186044416 ∧ 0 < (cellsA ei.zero).length ∧ (cellsA ei.zero).length = ei.size ∧ ei.zero.ones = true) ∧
          forceL (cellsA ei.zero) fun zs => forceSz ei.size fun sz => K (.sl nx 0 l.toNat sz true) (setH H nx (some (zerosA l.toNat zs))) (nx + 1)
      | _, _ => False
    | none => False
  | _ => False
theorem makeSliceP_sound {P : Program} {T : Types} (hT : TOK P T) {Z : Nat → Prop} {E : Env} {H : Heap} {nx : Nat} (hr : HeapRep Z E H nx) {t : TypeId} {L C : AV} {vl vc : Value} {K : AV → Heap → Nat → Prop}
    (hl : RepV E L vl) (hc : RepV E C vc) (h : makeSliceP T H nx t L C K) :
    ∃ x H' nx' E' r, K x H' nx' ∧ (Instr.makeSlice t vl vc).run P E.w = .ok r E'.w ∧ After Z E H x H' nx' r E' := by
  unfold makeSliceP at h
  simp only [forceL_eq, forceSz_eq] at h
  split at h
  case h_2 => exact h.elim
  rename_i e a1 b1 z1 sg1 ht
  obtain ⟨d, hd, hdo, _⟩ := (hT t _ ht).und
  have ho' : d = .slice e := hdo
  subst ho'
  split at h
  case h_2 => exact h.elim
  rename_i ei he
  have hse := fun w => run_sizeOf (hT e _ he) w
  split at h
  case h_2 => exact h.elim
  rename_i k l k' c
  obtain ⟨⟨rfl, hl0, hlb, hll, hz0, hzs, hzo⟩, hk⟩ := h
  simp only [RepV] at hl hc
  subst hl; subst hc
  have hznt : ei.zero ≠ .top := fun e => by rw [e] at hzo; simp [AV.ones, cellsA, AV.one] at hzo
  obtain ⟨z, hzv, hzr⟩ := run_zeroValue (hT e _ he) hznt E.w
  have hzc := (ones_cells hr.one (hzr E) hzo).1
  have hzv' : ∀ w, (zeroValue e).run P w = .ok z w := fun w => by
    obtain ⟨f, hf, _, _, z', hz', _⟩ := (hT e _ he).info
    have e1 : (zeroValue e).run P E.w = .ok z' E.w := by simp [zeroValue, typeInfo, hf, hz']
    rw [hzv] at e1
    injection e1 with e1 _
    subst e1
    simp [zeroValue, typeInfo, hf, hz']
  obtain ⟨f, hf, hfs, hfb, _⟩ := (hT e _ he).info
  have hw : IntKind.i64.wrap c = c := wrap_in (by simp only [IntKind.lo]; omega) (by simp only [IntKind.hi]; omega)
  obtain ⟨g1, g2⟩ := zerosA_get c.toNat (cellsA ei.zero) hz0
  have hcs := zeros_rep hzc hz0 c.toNat
  obtain ⟨k1, k2, k3, k4, k5⟩ := newRow_sound (P := P) hr e ((Array.range (c.toNat * (cellsA ei.zero).length)).map (z.cells[· % z.cells.size]!)) (zerosA c.toNat (cellsA ei.zero)) (by rw [g1]; simp) hcs
  refine ⟨_, _, _, _, .slice (some ⟨E.w.heap.size, 0, none⟩) c.toNat c.toNat, hk, ?_, ⟨k2, k3, ?_, k4⟩⟩
  · have hti : ∀ w, (typeInfo e).run P w = .ok f w := fun w => by simp [typeInfo, hf]
    have hask : ∀ k w, (askRoom k).run P w = .ok () w := fun k w => by unfold askRoom; split <;> simp [mark, Sem.run]
    have fin : ∀ R', R' = (Array.range (c.toNat * (cellsA ei.zero).length)).map (z.cells[· % z.cells.size]!) →
        (((newRow e R').run P E.w).andThen fun a w' => Result.ok (Value.slice (some a) c.toNat c.toNat) w') =
          .ok (.slice (some ⟨E.w.heap.size, 0, none⟩) c.toNat c.toNat) (E.alloc nx (.cells ((Array.range (c.toNat * (cellsA ei.zero).length)).map (z.cells[· % z.cells.size]!)) e)).w := by
      rintro R' rfl
      rw [k1]; rfl
    by_cases hn : c.toNat * ei.size = 0
    · have hc0 : c.toNat = 0 := by
        rcases Nat.mul_eq_zero.1 hn with h | h
        · exact h
        · omega
      have hfe : ¬ ((f.bytes : Int) * c > 2 ^ 48) := by
        have : (f.bytes : Int) * c ≤ 17592186044416 := by rw [hfb, Int.mul_comm]; exact hlb
        omega
      simp only [Instr.makeSlice, Sem.run_bind, run_underlying hd, Result.andThen_ok, asInt, asIntOf, Sem.run_pure, hti, hw]
      rw [if_neg (by simp; omega)]
      simp only [Sem.run_bind, hask, Result.andThen_ok, hse, hn, if_true, Sem.run_pure]
      exact fin _ (by rw [hc0]; simp)
    · have hfe : ¬ ((f.bytes : Int) * c > 2 ^ 48) := by
        have : (f.bytes : Int) * c ≤ 17592186044416 := by rw [hfb, Int.mul_comm]; exact hlb
        omega
      simp only [Instr.makeSlice, Sem.run_bind, run_underlying hd, Result.andThen_ok, asInt, asIntOf, Sem.run_pure, hti, hw]
      rw [if_neg (by simp; omega)]
      simp only [Sem.run_bind, hask, Result.andThen_ok, hse, hn, if_false, Sem.run_pure, hzv']
      exact fin _ (by rw [hzs])
  · simp only [RepV]
    exact ⟨_, _, rfl, Nat.le_refl _, fun _ => rfl, .inr ⟨_, _, e, (0, 0), k5, rfl, Go.heap_alloc_new _ _, by simp; rw [hzs]; exact Nat.le_refl _⟩⟩
end Go.Proofs.YtelnlfhdaelfdaaDoor.Abs
end
section
set_option linter.unusedVariables false
set_option linter.unusedSimpArgs false
namespace Go.Proofs.YtelnlfhdaelfdaaDoor.Abs
open Go
def repSegs : Nat → Nat → Nat → List AV → List Seg
  | 0, _, _, _ => []
  | n + 1, k, sz, zc => ⟨k, sz, zc⟩ :: repSegs n (k + sz) sz zc
theorem repSegs_tile : ∀ (n k sz : Nat) (zc : List AV), tile k (repSegs n k sz zc) = true
  | 0, _, _, _ => rfl
  | n + 1, k, sz, zc => by simp [repSegs, tile, repSegs_tile n (k + sz) sz zc]
theorem repSegs_sum : ∀ (n k sz : Nat) (zc : List AV), ((repSegs n k sz zc).map (·.s)).sum = n * sz
  | 0, _, _, _ => by simp [repSegs]
  | n + 1, k, sz, zc => by
    simp only [repSegs, List.map_cons, List.sum_cons, repSegs_sum n (k + sz) sz zc]
    rw [Nat.add_mul]; omega
theorem repSegs_get : ∀ (n i sz : Nat) (zc : List AV) (k : Nat) (g : Seg), (repSegs n (i * sz) sz zc)[k]? = some g → g.o = (i + k) * sz ∧ g.s = sz ∧ g.cs = zc ∧ k < n
  | 0, _, _, _, k, g, h => by simp [repSegs] at h
  | n + 1, i, sz, zc, k, g, h => by
    cases k with
    | zero => simp [repSegs] at h; subst h; simp
    | succ k =>
      simp only [repSegs, List.getElem?_cons_succ] at h
      have e : i * sz + sz = (i + 1) * sz := by rw [Nat.add_mul]; omega
      rw [e] at h
      obtain ⟨h1, h2, h3, h4⟩ := repSegs_get n (i + 1) sz zc k g h
      exact ⟨by rw [h1]; congr 1; omega, h2, h3, by omega⟩
def buildSliceP (T : Types) (H : Heap) (nx : Nat) (t : TypeId) (len : Nat) (ps : List (Nat × AV)) (K : AV → Heap → Nat → Prop) : Prop :=
  match T t with
  | some ⟨.slice e, _, _, _, _⟩ => match T e with
    | some ei => cond (Nat.beq (cellsA ei.zero).length ei.size && ei.zero.ones && Nat.ble 1 ei.size && Nat.ble (len * ei.size) 16777216)
        (segsP (repSegs len 0 ei.size (cellsA ei.zero)) ps fun segs => forceL (flat segs) fun ds => forceSz ei.size fun sz => K (.sl nx 0 len sz true) (setH H nx (some ds)) (nx + 1)) False
    | none => False
  | _ => False
theorem buildSliceP_sound {P : Program} {T : Types} (hT : TOK P T) {Z : Nat → Prop} {E : Env} {H : Heap} {nx : Nat} (hr : HeapRep Z E H nx) {t : TypeId} {len : Nat} {ps : List (Nat × AV)} {vs : List (Nat × Value)}
    {K : AV → Heap → Nat → Prop} (hps : RepPs E ps vs) (h : buildSliceP T H nx t len ps K) :
    ∃ x H' nx' E' r, K x H' nx' ∧ (Instr.buildSlice t len vs.toArray).run P E.w = .ok r E'.w ∧ After Z E H x H' nx' r E' := by
  unfold buildSliceP at h
  simp only [forceL_eq, forceSz_eq] at h
  split at h
  case h_2 => exact h.elim
  rename_i e a1 b1 z1 sg1 ht
  obtain ⟨d, hd, hdo, _⟩ := (hT t _ ht).und
  have ho' : d = .slice e := hdo
  subst ho'
  split at h
  case h_2 => exact h.elim
  rename_i ei he
  have hse := fun w => run_sizeOf (hT e _ he) w
  cases hcond : (Nat.beq (cellsA ei.zero).length ei.size && ei.zero.ones && Nat.ble 1 ei.size && Nat.ble (len * ei.size) 16777216) with
  | false => rw [hcond] at h; exact h.elim
  | true =>
  rw [hcond] at h
  simp only [cond_true] at h
  simp only [Bool.and_eq_true] at hcond
  obtain ⟨⟨⟨hzs, hzo⟩, hs1⟩, hlim⟩ := hcond
  have hzs := Nat.eq_of_beq_eq_true hzs
  have hs1 := Nat.le_of_ble_eq_true hs1
  have hlim := Nat.le_of_ble_eq_true hlim
  have hznt : ei.zero ≠ .top := fun e => by rw [e] at hzo; simp [AV.ones, cellsA, AV.one] at hzo
  obtain ⟨f, hf, hfs, hfb, z, hfz, hzsz, hzr, _⟩ := (hT e _ he).info
  have hzr' := hzr.resolve_left hznt
  have hzv : ∀ w, (zeroValue e).run P w = .ok z w := fun w => by simp [zeroValue, typeInfo, hf, hfz]
  have hzc := (ones_cells hr.one (hzr' E) hzo).1
  let cells : Array Value := (Array.range (len * ei.size)).map (z.cells[· % z.cells.size]!)
  have hrep := zeros_rep hzc (by omega) len
  obtain ⟨g1, g2⟩ := zerosA_get len (cellsA ei.zero) (by omega)
  have hok : SegsOk E (repSegs len 0 ei.size (cellsA ei.zero)) cells := by
    intro g hg
    obtain ⟨k, hk⟩ := List.getElem?_of_mem hg
    have := repSegs_get len 0 ei.size (cellsA ei.zero) k g (by rw [Nat.zero_mul]; exact hk)
    obtain ⟨q1, q2, q3, q4⟩ := this
    rw [Nat.zero_add] at q1
    have hk1 : (k + 1) * ei.size ≤ len * ei.size := Nat.mul_le_mul_right _ (by omega)
    have hk2 : (k + 1) * ei.size = k * ei.size + ei.size := by rw [Nat.add_mul]; omega
    refine ⟨by rw [q3, q2, hzs], by rw [q1, q2]; simp [cells]; omega, fun j x hx => ?_⟩
    rw [q3] at hx
    have hj : j < ei.size := by
      rcases Nat.lt_or_ge j (cellsA ei.zero).length with h' | h'
      · omega
      · rw [List.getElem?_eq_none h'] at hx; cases hx
    have := hrep (g.o + j) x (by
      rw [g2 _ (by rw [hzs, q1]; omega), q1, hzs]
      rw [Nat.mul_comm, Nat.mul_add_mod, Nat.mod_eq_of_lt hj]; exact hx)
    rw [hzs] at this
    exact this
  have hp : PlaceOk (fun i => some (i * ei.size, ei.size)) (repSegs len 0 ei.size (cellsA ei.zero)) := fun k g hg => by
    obtain ⟨q1, q2, _⟩ := repSegs_get len 0 ei.size (cellsA ei.zero) k g (by rw [Nat.zero_mul]; exact hg)
    simp [q1, q2]
  obtain ⟨segs', cells', ⟨k1, k1s⟩, k2, k3, k4, k5⟩ := segsP_sound hr.one ps vs _ cells 0 hok (repSegs_tile _ _ _ _) hp hps (segsP_sum _ _ h)
  have hcl : cells.size = len * ei.size := by simp [cells]
  have hfl := repL_of_cells segs' cells' k3 k4 (by rw [k1s, repSegs_sum, k5, hcl])
  obtain ⟨m1, m2, m3, m4, m5⟩ := newRow_sound (P := P) hr e cells' (flat segs') (by have := repL_length _ _ hfl; simp at this; omega)
    (fun j x hx => by obtain ⟨u, hu, hr'⟩ := repL_get _ _ hfl j x hx; exact ⟨u, by simpa using hu, hr'⟩)
  refine ⟨_, _, _, _, .slice (some ⟨E.w.heap.size, 0, none⟩) len len, k1, ?_, ⟨m2, m3, ?_, m4⟩⟩
  · have hnl : ¬ (len * ei.size > 2 ^ 24) := by omega
    have hzcells : ∀ zz : Array Value, (len * ei.size = 0 → True) → True := fun _ _ => trivial
    have fin2 : (do let a ← newRow e cells'; Pure.pure (Value.slice (some a) len len) : Sem Value).run P E.w = .ok (.slice (some ⟨E.w.heap.size, 0, none⟩) len len) (E.alloc nx (.cells cells' e)).w := by
      simp [m1]
    by_cases hn : len * ei.size = 0
    · simp only [Instr.buildSlice, Sem.run_bind, run_underlying hd, Result.andThen_ok, hse]
      rw [if_neg hnl]
      simp only [Sem.run_bind, Result.andThen_ok, hn, if_true, Sem.run_pure]
      have e0 : Array.map (fun (x : Nat) => (#[] : Array Value)[x % (#[] : Array Value).size]!) (Array.range 0) = cells := by simp [cells, hn]
      simp only [e0, k2]
      exact fin2
    · simp only [Instr.buildSlice, Sem.run_bind, run_underlying hd, Result.andThen_ok, hse]
      rw [if_neg hnl]
      simp only [Sem.run_bind, Result.andThen_ok, hn, if_false, Sem.run_pure, hzv]
      have e0 : Array.map (fun (x : Nat) => z.cells[x % z.cells.size]!) (Array.range (len * ei.size)) = cells := rfl
      simp only [e0, k2]
      exact fin2
  · simp only [RepV]
    exact ⟨_, _, rfl, Nat.le_refl _, fun _ => rfl, .inr ⟨_, cells', e, (0, 0), m5, rfl, Go.heap_alloc_new _ _, by rw [k5, hcl]; omega⟩⟩
end Go.Proofs.YtelnlfhdaelfdaaDoor.Abs
end
section
set_option linter.unusedVariables false
set_option linter.unusedSimpArgs false
namespace Go.Proofs.YtelnlfhdaelfdaaDoor.Abs
open Go
theorem all_range_eq : ∀ (x y : List Int), x.length = y.length → (List.range x.length).all (fun i => x.getD i 0 == y.getD i 0) = decide (x = y)
  | [], [], _ => rfl
  | a :: x, b :: y, h => by
    rw [List.length_cons, List.range_succ_eq_map, List.all_cons, List.all_map]
    have := all_range_eq x y (by simpa using h)
    simp only [Function.comp_def, List.getD_cons_succ, List.getD_cons_zero]
    rw [this]
    rw [Bool.eq_iff_iff]
    simp
  | [], _ :: _, h => by simp at h
  | _ :: _, [], h => by simp at h
theorem run_eqA {P : Program} {w : World} (d : Nat) (t e : TypeId) (n : Nat) (k : IntKind) (ht : P.underlying t = some (.array n e)) (he : P.underlying e = some (.int k)) (hsz : ∀ w, (sizeOf e).run P w = .ok 1 w)
    (xs ys : List Int) (hx : xs.length = n) (hy : ys.length = n) :
    (Op.equalIn (d + 2) t (.agg (xs.map (Value.int k)).toArray) (.agg (ys.map (Value.int k)).toArray)).run P w = .ok (decide (xs = ys)) w := by
  rw [← all_range_eq xs ys (hx.trans hy.symm), hx, List.range_eq_range', Op.equalIn]
  simp only [Sem.run_bind, run_underlying ht, Result.andThen_ok, hsz, Std.Legacy.Range.forIn_eq_forIn_range', Std.Legacy.Range.size, Nat.sub_zero, Nat.add_sub_cancel, Nat.div_one]
  have hl : ∀ i ∈ List.range' 0 n 1, i < n := fun i hi => by simpa using (List.mem_range'_1.1 hi).2
  generalize List.range' 0 n 1 = l at hl ⊢
  induction l with
  | nil => simp
  | cons i l ih =>
    have hi : i < n := hl i (by simp)
    have px : (part e (xs.map (Value.int k)).toArray (i * 1)).run P w = .ok (Value.int k (xs.getD i 0)) w := by
      simp [part, isAgg, run_underlying he, List.getD, List.getElem?_eq_getElem (show i < xs.length by omega)]
    have py : (part e (ys.map (Value.int k)).toArray (i * 1)).run P w = .ok (Value.int k (ys.getD i 0)) w := by
      simp [part, isAgg, run_underlying he, List.getD, List.getElem?_eq_getElem (show i < ys.length by omega)]
    have pe : (Op.equalIn (d + 1) e (Value.int k (xs.getD i 0)) (Value.int k (ys.getD i 0))).run P w = .ok (xs.getD i 0 == ys.getD i 0) w :=
      run_equalIn_int w d e k k _ _ he
    simp only [List.forIn_cons, Sem.run_bind, px, py, pe, Result.andThen_ok, List.all_cons]
    cases hb : (xs.getD i 0 == ys.getD i 0)
    · simp
    · simp only [Bool.not_true, Bool.false_eq_true, if_false, Sem.run_pure, Result.andThen_ok, Bool.true_and]
      exact ih fun j hj => hl j (by simp [hj])
theorem run_eq_ptr {P : Program} (w : World) (t e : TypeId) (a : Option Addr) (h : P.underlying t = some (.pointer e)) : (Op.equal t (.pointer a) (.pointer none)).run P w = .ok a.isNone w := by
  unfold Op.equal Op.maxDepth
  rw [show (10000 : Nat) = 9999 + 1 from rfl, Op.equalIn]
  cases a <;> simp [run_underlying h]
theorem repL_ints {E : Env} {k : IntKind} : ∀ (xs : List Int) (vs : List Value), RepL E (xs.map (AV.int k)) vs → vs = xs.map (Value.int k)
  | [], vs, h => by simpa [RepL] using h
  | x :: xs, vs, h => by
    simp only [List.map_cons, RepL] at h ⊢
    obtain ⟨u, us, rfl, hu, h⟩ := h
    simp only [RepV] at hu
    rw [hu, repL_ints xs us h]
/-- Two arrays of numbers, two slices one of which is nil, a pointer and nil: alike? -/
def eqP (T : Types) (t : TypeId) (X Y : AV) (K : AV → Prop) (f : Bool → AV) : Prop :=
  match X, Y with
  | .agg cs, .agg ds => match T t with
    | some ⟨.arr n e, _, _, _, _⟩ => match T e with
      | some ⟨.int k, sz, _, _, _⟩ => ∃ xs ys : List Int, (sz = 1 ∧ cs = xs.map (AV.int k) ∧ ds = ys.map (AV.int k) ∧ xs.length = n ∧ ys.length = n) ∧ K (f (decide (xs = ys)))
      | _ => False
    | _ => False
  | .bool a, .bool b => match T t with
    | some ⟨.bool, _, _, _, _⟩ => K (f (a == b))
    | _ => False
  | .ptr _ _, .nilp => match T t with
    | some ⟨.ptr _, _, _, _, _⟩ => K (f false)
    | _ => False
  | .rop _, .nilp => match T t with
    | some ⟨.ptr _, _, _, _, _⟩ => K (f false)
    | _ => False
  | .nil, .nil => match T t with
    | some ⟨.slice _, _, _, _, _⟩ => K (f true)
    | _ => False
  | .ro len cs, .nil => match T t with
    | some ⟨.slice _, _, _, _, _⟩ => (cs = [] → K (f true)) ∧ K (f false)
    | _ => False
  | .sl _ _ len _ _, .nil => match T t with
    | some ⟨.slice _, _, _, _, _⟩ => (len = 0 → K (f true)) ∧ K (f false)
    | _ => False
  | _, _ => False
theorem run_eq_bool {P : Program} (n : Nat) (w : World) (t : TypeId) (a b : Bool) (hd : P.underlying t = some .bool) : (Op.equalIn (n + 1) t (.bool a) (.bool b)).run P w = .ok (a == b) w := by
  simp [Op.equalIn, run_underlying hd]
theorem eqP_sound {P : Program} {T : Types} (hT : TOK P T) {E : Env} {t : TypeId} {X Y : AV} {u v : Value} {K : AV → Prop} {f : Bool → AV} {g : Bool → Bool} (hf : ∀ b, f b = .bool (g b)) (hu : RepV E X u) (hv : RepV E Y v)
    (h : eqP T t X Y K f) : ∃ x b, K x ∧ RepV E x (.bool (g b)) ∧ (∀ w, (Op.equal t u v).run P w = .ok b w) ∧ ∀ op xo yo w, (eqGuard op t xo yo u v).run P w = .ok () w := by
  have hfr : ∀ b, RepV E (f b) (.bool (g b)) := fun b => by rw [hf]; exact rep_bool E _
  unfold eqP at h
  split at h
  · rename_i cs ds
    split at h
    case h_2 => exact h.elim
    rename_i n e a b z sg ht
    obtain ⟨d, hd, ho, _⟩ := (hT t _ ht).und
    have ho' : d = .array n e := ho
    subst ho'
    split at h
    case h_2 => exact h.elim
    rename_i k sz b' z' sg' he
    obtain ⟨d', hd', ho2, _⟩ := (hT e _ he).und
    have ho2' : d' = .int k := ho2
    subst ho2'
    obtain ⟨xs, ys, ⟨rfl, rfl, rfl, hx, hy⟩, hk⟩ := h
    simp only [RepV] at hu hv
    obtain ⟨us, rfl, hus⟩ := hu
    obtain ⟨vs, rfl, hvs⟩ := hv
    have e1 := repL_ints _ _ hus
    have e2 := repL_ints _ _ hvs
    have e1' : us = (xs.map (Value.int k)).toArray := by rw [← e1]
    have e2' : vs = (ys.map (Value.int k)).toArray := by rw [← e2]
    subst e1'; subst e2'
    refine ⟨_, decide (xs = ys), hk, hfr _, fun w => run_eqA 9998 t e n k hd hd' (fun w => run_sizeOf (hT e _ he) w) xs ys hx hy, fun op xo yo w => ?_⟩
    have hdep : ∃ m, P.depth = m + 2 := ⟨2 * (P.types.size + Made.depth), rfl⟩
    obtain ⟨m, hm⟩ := hdep
    refine run_eqGuard_agg w op t xo yo _ _ ?_
    rw [hm]
    simp [Program.eqGuardType, hd, hd']
  · rename_i a b
    split at h
    case h_2 => exact h.elim
    rename_i a1 b1 z1 sg1 ht
    obtain ⟨d, hd, ho, _⟩ := (hT t _ ht).und
    have ho' : d = .bool := ho
    subst ho'
    simp only [RepV] at hu hv
    subst hu; subst hv
    refine ⟨_, a == b, h, hfr _, fun w => ?_, fun op xo yo w => ?_⟩
    · exact run_eq_bool 9999 w t a b hd
    · unfold eqGuard
      cases op <;> rfl
  · split at h
    case h_2 => exact h.elim
    rename_i pe a b z sg ht
    obtain ⟨d, hd, ho, _⟩ := (hT t _ ht).und
    have ho' : d = .pointer pe := ho
    subst ho'
    simp only [RepV] at hu hv
    obtain ⟨m, hm, rfl⟩ := hu
    subst hv
    exact ⟨_, false, h, hfr _, fun w => run_eq_ptr w t pe _ hd, fun op xo yo w => by rw [eqGuard_at_pointer]; rfl⟩
  · split at h
    case h_2 => exact h.elim
    rename_i pe a b z sg ht
    obtain ⟨d, hd, ho, _⟩ := (hT t _ ht).und
    have ho' : d = .pointer pe := ho
    subst ho'
    simp only [RepV] at hu hv
    obtain ⟨bb, off, rfl, _⟩ := hu
    subst hv
    exact ⟨_, false, h, hfr _, fun w => run_eq_ptr w t pe _ hd, fun op xo yo w => by rw [eqGuard_at_pointer]; rfl⟩
  · split at h
    case h_2 => exact h.elim
    rename_i se a b z sg ht
    obtain ⟨d, hd, ho, _⟩ := (hT t _ ht).und
    have ho' : d = .slice se := ho
    subst ho'
    simp only [RepV] at hu hv
    subst hu; subst hv
    exact ⟨_, true, h, hfr _, fun w => by simp [run_equal_slice_nil w t se _ _ _ hd], fun op xo yo w => by rw [eqGuard_at_slice]; rfl⟩
  · split at h
    case h_2 => exact h.elim
    rename_i se a b z sg ht
    obtain ⟨d, hd, ho, _⟩ := (hT t _ ht).und
    have ho' : d = .slice se := ho
    subst ho'
    simp only [RepV] at hu hv
    obtain ⟨ao, cap, rfl, hl, hc⟩ := hu
    subst hv
    cases hao : ao with
    | none =>
      subst hao
      rcases hc with rfl | ⟨bb, off, he, _⟩
      · exact ⟨_, true, h.1 rfl, hfr _, fun w => by simp [run_equal_slice_nil w t se _ _ _ hd], fun op xo yo w => by rw [eqGuard_at_slice]; rfl⟩
      · cases he
    | some ad => exact ⟨_, false, h.2, hfr _, fun w => by simp [run_equal_slice_nil w t se _ _ _ hd], fun op xo yo w => by rw [eqGuard_at_slice]; rfl⟩
  · split at h
    case h_2 => exact h.elim
    rename_i se a b z sg ht
    obtain ⟨d, hd, ho, _⟩ := (hT t _ ht).und
    have ho' : d = .slice se := ho
    subst ho'
    simp only [RepV] at hu hv
    obtain ⟨ao, cap, rfl, hl, _, hc⟩ := hu
    subst hv
    cases hao : ao with
    | none =>
      subst hao
      rcases hc with rfl | ⟨m, c, e', fr, _, he, _⟩
      · exact ⟨_, true, h.1 (by omega), hfr _, fun w => by simp [run_equal_slice_nil w t se _ _ _ hd], fun op xo yo w => by rw [eqGuard_at_slice]; rfl⟩
      · cases he
    | some ad => exact ⟨_, false, h.2, hfr _, fun w => by simp [run_equal_slice_nil w t se _ _ _ hd], fun op xo yo w => by rw [eqGuard_at_slice]; rfl⟩
  · exact h.elim
def unP (op : UnOp) (X : AV) (K : AV → Prop) : Prop :=
  match op, X with
  | .not, .bool b => K (.bool (!b))
  | .not, .anyb => K .anyb
  | .neg, .int k n => fitP k (0 - n) fun m => K (.int k m)
  | .xor, .int k n => K (.int k (bits .xor k (if k.signed then -1 else k.max) n))
  | _, _ => False
theorem unP_sound {P : Program} {E : Env} {op : UnOp} {X : AV} {v : Value} {K : AV → Prop} (hx : RepV E X v) (h : unP op X K) :
    ∃ x r, K x ∧ RepV E x r ∧ ∀ w, (Op.unary op v).run P w = .ok r w := by
  unfold unP at h
  split at h <;> (try simp only [RepV] at hx)
  · subst hx; exact ⟨_, _, h, rep_bool E _, fun w => rfl⟩
  · obtain ⟨b, rfl⟩ := hx; exact ⟨_, .bool (!b), h, by simp [RepV], fun w => rfl⟩
  · subst hx; exact ⟨_, _, h.elim, rep_int E _ _, fun w => by simp [Op.unary, Op.intArith]⟩
  · subst hx; exact ⟨_, _, h, rep_int E _ _, fun w => by simp [Op.unary, intBits_xor]⟩
  · exact h.elim
def arrayAtP (T : Types) (t : TypeId) (X : AV) (K : AV → Prop) : Prop :=
  match T t with
  | some ⟨.arr n e, _, _, _, _⟩ => match X with
    | .sl id off len es full => (0 < n ∧ n ≤ len) ∧ K (.ptr id off)
    | .ro len cs => (0 < cs.length ∧ n ≤ len) ∧ K (.rop cs)
    | _ => False
  | _ => False
theorem arrayAtP_sound {P : Program} {T : Types} (hT : TOK P T) {E : Env} {t : TypeId} {X : AV} {v : Value} {K : AV → Prop} (hx : RepV E X v) (h : arrayAtP T t X K) :
    ∃ x r, K x ∧ (∀ w, (Instr.arrayAt t v).run P w = .ok r w) ∧ RepV E x r := by
  unfold arrayAtP at h
  split at h
  case h_2 => exact h.elim
  rename_i n e a b z sg ht
  obtain ⟨d, hd, ho, _⟩ := (hT t _ ht).und
  have ho' : d = .array n e := ho
  subst ho'
  split at h
  · rename_i id off len es full
    obtain ⟨⟨h0, h1⟩, hk⟩ := h
    simp only [RepV] at hx
    obtain ⟨ao, cap, rfl, hl, _, hc⟩ := hx
    rcases hc with rfl | ⟨m, c, e', fr, hm, rfl, _⟩
    · omega
    · refine ⟨_, .pointer (some ⟨m, off, none⟩), hk, fun w => ?_, ?_⟩
      · simp only [Instr.arrayAt, Sem.run_bind, run_underlying hd, Result.andThen_ok]
        rw [if_neg (by omega)]; rfl
      · simp only [RepV]; exact ⟨m, hm, rfl⟩
  · obtain ⟨⟨h0, h1⟩, hk⟩ := h
    simp only [RepV] at hx
    obtain ⟨ao, cap, rfl, hl, hc⟩ := hx
    rcases hc with rfl | ⟨bb, off, rfl, hV, hm⟩
    · simp at h0
    · refine ⟨_, .pointer (some ⟨bb, off, none⟩), hk, fun w => ?_, ?_⟩
      · simp only [Instr.arrayAt, Sem.run_bind, run_underlying hd, Result.andThen_ok]
        rw [if_neg (by omega)]; rfl
      · simp only [RepV]; exact ⟨bb, off, rfl, .inr ⟨hV, hm⟩⟩
  · exact h.elim
end Go.Proofs.YtelnlfhdaelfdaaDoor.Abs
end
section
set_option linter.unusedVariables false
set_option linter.unusedSimpArgs false
namespace Go.Proofs.YtelnlfhdaelfdaaDoor.Abs
open Go
def convP (T : Types) (H : Heap) (nx : Nat) (src dst : TypeId) (X : AV) (K : AV → Heap → Nat → Prop) : Prop :=
  match T src, T dst with
  | some si, some di => match di.d, X with
    | .int k, .int _ n => fitP k n fun m => K (.int k m) H nx
    | .str, .str s => K (.str s) H nx
    | .str, .int _ n => match si.d with
      | .int _ => K (.str (bytesOf (Utf8.encode n))) H nx
      | _ => False
    | .slice e, .str s => match si.d, T e with
      | .str, some ⟨.int k, _, _, _, _⟩ => cond (kEq k .u8) (K (.sl nx 0 s.length 1 false) (setH H nx (some (s.map (AV.int .u8)))) (nx + 1)) False
      | _, _ => False
    | .str, X => match si.d with
      | .slice e => match T e with
        | some ⟨.int k, _, _, _, _⟩ => cond (kEq k .u8) (srcP H 1 X fun n src => ∃ xs : List Int, (src = xs.map (AV.int .u8) ∧ ∀ x ∈ xs, 0 ≤ x ∧ x < 256) ∧ K (.str xs) H nx) False
        | _ => False
      | _ => False
    | _, _ => False
  | _, _ => False
theorem freeze_alloc (w : World) (c : Array Value) (e : TypeId) (n : Nat) :
    (w.alloc (.cells c e (0, 0))).freeze ⟨w.heap.size, n, none⟩ 1 = w.alloc (.cells c e (n, n + 1)) := by
  simp only [World.freeze, World.alloc]
  rw [if_neg (by decide)]
  congr 1
  apply Array.ext_getElem?
  intro i
  rw [Array.getElem?_modify]
  simp only [Array.getElem?_push]
  by_cases h : w.heap.size = i
  · subst h; simp
  · rw [if_neg h, if_neg (Ne.symm h), if_neg (Ne.symm h)]
theorem bytes_push (ns : List Int) (h : ∀ x ∈ ns, 0 ≤ x ∧ x < 256) : ∀ s : ByteArray, bytesOf (ns.foldl (fun r n => r.push (UInt8.ofNat n.toNat)) s) = bytesOf s ++ ns := by
  induction ns with
  | nil => intro s; simp
  | cons n ns ih =>
    intro s
    rw [List.foldl_cons, ih (fun x hx => h x (by simp [hx]))]
    have hb : bytesOf (s.push (UInt8.ofNat n.toNat)) = bytesOf s ++ [n] := by
      have := h n (by simp)
      simp only [bytesOf, ByteArray.push, Array.toList_push, List.map_append, List.map_cons, List.map_nil]
      congr 2
      simp only [UInt8.toNat_ofNat']
      omega
    rw [hb, List.append_assoc]; rfl
set_option maxHeartbeats 1000000 in
theorem convP_sound {P : Program} {T : Types} (hT : TOK P T) {Z : Nat → Prop} {E : Env} {H : Heap} {nx : Nat} (hr : HeapRep Z E H nx) {src dst : TypeId} {X : AV} {v : Value} {K : AV → Heap → Nat → Prop}
    (hx : RepV E X v) (h : convP T H nx src dst X K) :
    ∃ x H' nx' E' r, K x H' nx' ∧ (convert src dst v).run P E.w = .ok r E'.w ∧ After Z E H x H' nx' r E' := by
  unfold convP at h
  split at h
  case h_2 => exact h.elim
  rename_i si di hs hd
  obtain ⟨ds, hds, hso, _⟩ := (hT src _ hs).und
  obtain ⟨dd, hdd, hdo, _⟩ := (hT dst _ hd).und
  split at h
  · rename_i k j n hdk
    rw [hdk] at hdo
    have ho' : dd = .int k := hdo
    subst ho'
    simp only [RepV] at hx
    subst hx
    exact ⟨_, _, _, E, _, h.elim, by simp [convert, run_underlying hds, run_underlying hdd, Conv.intToInt], After.pure hr (rep_int E _ _)⟩
  · rename_i s hdk
    rw [hdk] at hdo
    have ho' : dd = .string := hdo
    subst ho'
    simp only [RepV] at hx
    obtain ⟨ba, rfl, rfl⟩ := hx
    exact ⟨_, _, _, E, .string ba, h, by simp [convert, run_underlying hds, run_underlying hdd], After.pure hr (by simp only [RepV]; exact ⟨ba, rfl, rfl⟩)⟩
  · rename_i j n hdk
    split at h
    case h_2 => exact h.elim
    rename_i k hsk
    rw [hdk] at hdo
    have ho' : dd = .string := hdo
    subst ho'
    rw [hsk] at hso
    have hs' : ds = .int k := hso
    subst hs'
    simp only [RepV] at hx
    subst hx
    exact ⟨_, _, _, E, .string (Utf8.encode n), h, by simp [convert, run_underlying hds, run_underlying hdd, Conv.intToString], After.pure hr (by simp only [RepV]; exact ⟨_, rfl, rfl⟩)⟩
  · rename_i e s hdk
    split at h
    case h_2 => exact h.elim
    rename_i k b1 b2 b3 b4 hsk he
    cases hkk : kEq k .u8 with
    | false => rw [hkk] at h; exact h.elim
    | true =>
    rw [hkk] at h
    simp only [cond_true] at h
    obtain rfl := kEq_eq hkk
    rw [hdk] at hdo
    have ho' : dd = .slice e := hdo
    subst ho'
    rw [hsk] at hso
    have hs' : ds = .string := hso
    subst hs'
    obtain ⟨de, hde, heo, _⟩ := (hT e _ he).und
    have he' : de = .int .u8 := heo
    subst he'
    simp only [RepV] at hx
    obtain ⟨ba, rfl, rfl⟩ := hx
    have hrd := hr.drawn (E.w.drawn + 1)
    have Ld := later_drawn E (E.w.drawn + 1)
    let q := Question.appendCap ba.size 0 e
    let cap := q.cut (E.w.tape E.w.drawn q)
    have hcap : ba.size ≤ cap := by simp [cap, q, Question.cut]
    let cells : Array Value := (ba.data.map fun b => Value.int .u8 b.toNat) ++ Array.replicate (cap - ba.size) (.int .u8 0)
    have hcs : cells.size = cap := by
      have : ba.data.size = ba.size := rfl
      simp [cells, this]; omega
    have hcell : ∀ (j : Nat) x, ((bytesOf ba).map (AV.int .u8))[j]? = some x → ∃ u, cells[j]? = some u ∧ RepV (E.drawn (E.w.drawn + 1)) x u := by
      intro j x hx
      rw [List.getElem?_map] at hx
      simp only [bytesOf, List.getElem?_map] at hx
      cases hj : ba.data.toList[j]? with
      | none => rw [hj] at hx; simp at hx
      | some y =>
        rw [hj] at hx
        simp at hx
        refine ⟨.int .u8 y.toNat, ?_, by rw [← hx]; exact rep_int _ _ _⟩
        have hlt : j < ba.data.size := by
          rcases Nat.lt_or_ge j ba.data.toList.length with h' | h'
          · simpa using h'
          · rw [List.getElem?_eq_none h'] at hj; cases hj
        simp only [cells]
        rw [Array.getElem?_append_left (by simpa using hlt), Array.getElem?_map]
        rw [Array.getElem?_toList] at hj
        rw [hj]; rfl
    have hal := hrd.alloc cells e (cap, cap + 1) ((bytesOf ba).map (AV.int .u8)) (fun j hj hc => by omega) (by simp [length_bytesOf]; omega) hcell
    refine ⟨_, _, _, _, .slice (some ⟨E.w.heap.size, 0, none⟩) ba.size cap, h, ?_, ⟨Ld.trans (later_alloc _ _ (hrd.fresh nx (Nat.le_refl _)).1), (Evo.drawn _ _ _).trans (Evo.alloc (Wr E.ρ H) _ _) (fun _ _ h => h), ?_, hal⟩⟩
    · have hch : (choose q).run P E.w = .ok cap { E.w with drawn := E.w.drawn + 1 } := by simp [choose, Sem.run, Question.forced, q, cap]
      have hnew : (newRow e cells).run P { E.w with drawn := E.w.drawn + 1 } = .ok ⟨E.w.heap.size, 0, none⟩ (World.alloc { E.w with drawn := E.w.drawn + 1 } (.cells cells e)) := by simp [newRow, newObj, Sem.run]; rfl
      have hsh : (World.alloc { E.w with drawn := E.w.drawn + 1 } (.cells cells e)).shape? E.w.heap.size = some (e, cells.size) := by
        simp [World.shape?, World.alloc]
      have hfz := freeze_alloc { E.w with drawn := E.w.drawn + 1 } cells e cells.size
      have hmk : (markStringish ⟨E.w.heap.size, 0, none⟩).run P (World.alloc { E.w with drawn := E.w.drawn + 1 } (.cells cells e)) = .ok () (World.alloc { E.w with drawn := E.w.drawn + 1 } (.cells cells e (cap, cap + 1))) := by
        simp only [markStringish, Sem.run_bind, shape, Sem.run, hsh, Result.andThen_ok, freeze]
        rw [hcs] at hfz
        simpa [Sem.run, hcs] using hfz
      have : (Conv.stringToBytes e ba).run P E.w = .ok (.slice (some ⟨E.w.heap.size, 0, none⟩) ba.size cap) (World.alloc { E.w with drawn := E.w.drawn + 1 } (.cells cells e (cap, cap + 1))) := by
        simp only [Conv.stringToBytes, Sem.run_bind, Result.andThen_ok]
        rw [hch]
        simp only [Result.andThen_ok]
        show (((newRow e cells).run P { E.w with drawn := E.w.drawn + 1 }).andThen _) = _
        rw [hnew]
        simp only [Result.andThen_ok, hmk, Sem.run_pure]
      simp only [convert, Sem.run_bind, run_underlying hds, run_underlying hdd, run_underlying hde, Result.andThen_ok]
      exact this
    · simp only [RepV]
      exact ⟨some ⟨E.w.heap.size, 0, none⟩, cap, by rw [length_bytesOf], by rw [length_bytesOf]; exact hcap, (nofun), .inr ⟨_, cells, e, (cap, cap + 1), alloc_ρ_same _ _ _, rfl, Go.heap_alloc_new _ _, by omega⟩⟩
  · rename_i X hdk hn1 hn2
    split at h
    case h_2 => exact h.elim
    rename_i e hsk
    split at h
    case h_2 => exact h.elim
    rename_i k b1 b2 b3 b4 he
    cases hkk : kEq k .u8 with
    | false => rw [hkk] at h; exact h.elim
    | true =>
    rw [hkk] at h
    simp only [cond_true] at h
    obtain rfl := kEq_eq hkk
    rw [hdk] at hdo
    have ho' : dd = .string := hdo
    subst ho'
    rw [hsk] at hso
    have hs' : ds = .slice e := hso
    subst hs'
    obtain ⟨de, hde, heo, _⟩ := (hT e _ he).und
    have he' : de = .int .u8 := heo
    subst he'
    obtain ⟨n, src', ⟨xs, ⟨rfl, hb⟩, hk⟩, hS⟩ := srcP_sound (P := P) hr hx h
    obtain ⟨vs, h1, h2⟩ := hS.cells E.w.drawn
    have h1' : (Builtin.firstCells 1 n v).run P E.w = .ok vs E.w := h1
    have h3 := repL_ints _ _ h2
    have hvs : vs = (xs.map (Value.int .u8)).toArray := by rw [← h3]
    subst hvs
    have hlen := hS.len E.w
    refine ⟨_, _, _, E, .string (xs.foldl (fun r n => r.push (UInt8.ofNat n.toNat)) ByteArray.empty), hk, ?_, After.pure hr ?_⟩
    · have hsl : ∃ a cap, v = .slice a n cap := by
        cases v <;> simp [Builtin.lenOf, stuck] at hlen
        case slice a m c => exact ⟨a, c, by rw [hlen]⟩
        case string s =>
          exfalso
          unfold srcP at h
          split at h
          · simp only [RepV] at hx; cases hx
          · simp only [RepV] at hx; obtain ⟨_, _, hx, _⟩ := hx; cases hx
          · simp only [RepV] at hx; obtain ⟨_, _, hx, _⟩ := hx; cases hx
          · first | exact hn1 _ rfl | exact hn2 _ rfl | exact hn1 _ _ rfl | exact hn2 _ _ rfl
          · exact h
      obtain ⟨a, cap, rfl⟩ := hsl
      cases a with
      | none =>
        have hxs : xs = [] := by
          simp [Builtin.firstCells] at h1'
          exact h1'
        subst hxs
        simp [convert, run_underlying hds, run_underlying hdd, run_underlying hde, Conv.bytesToString]
      | some a =>
        simp only [Builtin.firstCells, Nat.mul_one] at h1'
        simp only [convert, Sem.run_bind, run_underlying hds, run_underlying hdd, run_underlying hde, Result.andThen_ok]
        exact run_bytesToString E.w a n cap xs h1'
    · simp only [RepV]
      exact ⟨_, rfl, by rw [bytes_push xs hb]; rfl⟩
  · exact h.elim
end Go.Proofs.YtelnlfhdaelfdaaDoor.Abs
end
section
set_option linter.unusedVariables false
set_option linter.unusedSimpArgs false
namespace Go.Proofs.YtelnlfhdaelfdaaDoor.Abs
open Go
mutual
/-- No handle on a block of the abstract heap in it. -/
def pureV : AV → Bool
  | .sl _ _ _ _ _ | .ptr _ _ | .own _ _ _ | .ref _ => false
  | .agg cs | .tuple cs | .ro _ cs | .rop cs | .fn _ cs => pureL cs
  | _ => true
def pureL : List AV → Bool
  | [] => true
  | c :: cs => pureV c && pureL cs
end
mutual
/-- Nothing that reads foreign memory in it. -/
def noRoV : AV → Bool
  | .ro _ cs => match cs with
    | [] => true
    | _ :: _ => false
  | .rop cs => match cs with
    | [] => true
    | _ :: _ => false
  | .agg cs | .tuple cs | .own _ _ cs | .ref cs | .fn _ cs => noRoL cs
  | _ => true
def noRoL : List AV → Bool
  | [] => true
  | c :: cs => noRoV c && noRoL cs
end
/-- A pure value's reading hangs on no naming of blocks. -/
structure SameMem (E E' : Env) : Prop where
  η : E'.η = E.η
  w : E'.w = E.w
mutual
theorem pureV_rep {E E' : Env} (h : SameMem E E') (hV : ∀ b, E'.V b → E.V b) : ∀ (x : AV) (v : Value), pureV x = true → RepV E x v → RepV E' x v
  | .top, _, _, _ => by simp [RepV]
  | .int k n, v, _, h' => by simpa [RepV] using h'
  | .bool b, v, _, h' => by simpa [RepV] using h'
  | .anyb, v, _, h' => by simpa [RepV] using h'
  | .str s, v, _, h' => by simpa [RepV] using h'
  | .agg cs, v, hp, h' => by
    simp only [RepV] at h' ⊢
    obtain ⟨vs, rfl, hl⟩ := h'
    exact ⟨vs, rfl, pureL_rep h hV cs _ (by simpa [pureV] using hp) hl⟩
  | .tuple cs, v, hp, h' => by
    simp only [RepV] at h' ⊢
    obtain ⟨vs, rfl, hl⟩ := h'
    exact ⟨vs, rfl, pureL_rep h hV cs _ (by simpa [pureV] using hp) hl⟩
  | .nil, v, _, h' => by simpa [RepV] using h'
  | .ro len cs, v, hp, h' => by
    simp only [RepV] at h' ⊢
    obtain ⟨a, cap, rfl, hl, hc⟩ := h'
    refine ⟨a, cap, rfl, hl, hc.imp (fun x => x) ?_⟩
    rintro ⟨b, off, rfl, hb, hm⟩
    exact ⟨b, off, rfl, fun hh => hb (hV b hh), pureM_rep h hV cs b off (by simpa [pureV] using hp) hm⟩
  | .own _ _ _, _, hp, _ => by simp [pureV] at hp
  | .ref _, _, hp, _ => by simp [pureV] at hp
  | .sl _ _ _ _ _, _, hp, _ => by simp [pureV] at hp
  | .ptr _ _, _, hp, _ => by simp [pureV] at hp
  | .rop cs, v, hp, h' => by
    simp only [RepV] at h' ⊢
    obtain ⟨b, off, rfl, hc⟩ := h'
    refine ⟨b, off, rfl, hc.imp (fun x => x) ?_⟩
    rintro ⟨hb, hm⟩
    exact ⟨fun hh => hb (hV b hh), pureM_rep h hV cs b off (by simpa [pureV] using hp) hm⟩
  | .nilp, v, _, h' => by simpa [RepV] using h'
  | .hid i, v, _, h' => by simpa [RepV, h.η] using h'
  | .fn f cs, v, hp, h' => by
    simp only [RepV] at h' ⊢
    obtain ⟨vs, rfl, hl⟩ := h'
    exact ⟨vs, rfl, pureL_rep h hV cs _ (by simpa [pureV] using hp) hl⟩
theorem pureL_rep {E E' : Env} (h : SameMem E E') (hV : ∀ b, E'.V b → E.V b) : ∀ (cs : List AV) (vs : List Value), pureL cs = true → RepL E cs vs → RepL E' cs vs
  | [], vs, _, h' => by simpa [RepL] using h'
  | c :: cs, vs, hp, h' => by
    simp only [pureL, Bool.and_eq_true] at hp
    simp only [RepL] at h' ⊢
    obtain ⟨u, us, rfl, h1, h2⟩ := h'
    exact ⟨u, us, rfl, pureV_rep h hV c u hp.1 h1, pureL_rep h hV cs us hp.2 h2⟩
theorem pureM_rep {E E' : Env} (h : SameMem E E') (hV : ∀ b, E'.V b → E.V b) : ∀ (cs : List AV) (b off : Nat), pureL cs = true → RepM E cs b off → RepM E' cs b off
  | [], _, _, _, _ => by simp [RepM]
  | c :: cs, b, off, hp, h' => by
    simp only [pureL, Bool.and_eq_true] at hp
    simp only [RepM] at h' ⊢
    obtain ⟨⟨u, hu, hr⟩, h2⟩ := h'
    exact ⟨⟨u, by rw [h.w]; exact hu, pureV_rep h hV c u hp.1 hr⟩, pureM_rep h hV cs b (off + 1) hp.2 h2⟩
end
mutual
/-- Where nothing foreign is read, no forbidden block matters. -/
theorem noRoV_rep {E E' : Env} (h : SameMem E E') (hρ : E'.ρ = E.ρ) : ∀ (x : AV) (v : Value), noRoV x = true → RepV E x v → RepV E' x v
  | .top, _, _, _ => by simp [RepV]
  | .int k n, v, _, h' => by simpa [RepV] using h'
  | .bool b, v, _, h' => by simpa [RepV] using h'
  | .anyb, v, _, h' => by simpa [RepV] using h'
  | .str s, v, _, h' => by simpa [RepV] using h'
  | .agg cs, v, hp, h' => by
    simp only [RepV] at h' ⊢
    obtain ⟨vs, rfl, hl⟩ := h'
    exact ⟨vs, rfl, noRoL_rep h hρ cs _ (by simpa [noRoV] using hp) hl⟩
  | .tuple cs, v, hp, h' => by
    simp only [RepV] at h' ⊢
    obtain ⟨vs, rfl, hl⟩ := h'
    exact ⟨vs, rfl, noRoL_rep h hρ cs _ (by simpa [noRoV] using hp) hl⟩
  | .nil, v, _, h' => by simpa [RepV] using h'
  | .ro len [], v, hp, h' => by
    simp only [RepV] at h' ⊢
    obtain ⟨a, cap, rfl, hl, hc⟩ := h'
    exact ⟨a, cap, rfl, hl, .inl trivial⟩
  | .ro len (_ :: _), v, hp, h' => by simp [noRoV] at hp
  | .own _ _ _, _, _, h' => by simp [RepV] at h'
  | .ref _, _, _, h' => by simp [RepV] at h'
  | .sl id off len esz full, v, hp, h' => by
    simp only [RepV] at h' ⊢
    rw [hρ, h.w]; exact h'
  | .ptr id off, v, hp, h' => by
    simp only [RepV] at h' ⊢
    rw [hρ]; exact h'
  | .rop [], v, hp, h' => by
    simp only [RepV] at h' ⊢
    obtain ⟨b, off, rfl, hc⟩ := h'
    exact ⟨b, off, rfl, .inl trivial⟩
  | .rop (_ :: _), v, hp, h' => by simp [noRoV] at hp
  | .nilp, v, _, h' => by simpa [RepV] using h'
  | .hid i, v, _, h' => by simpa [RepV, h.η] using h'
  | .fn f cs, v, hp, h' => by
    simp only [RepV] at h' ⊢
    obtain ⟨vs, rfl, hl⟩ := h'
    exact ⟨vs, rfl, noRoL_rep h hρ cs _ (by simpa [noRoV] using hp) hl⟩
theorem noRoL_rep {E E' : Env} (h : SameMem E E') (hρ : E'.ρ = E.ρ) : ∀ (cs : List AV) (vs : List Value), noRoL cs = true → RepL E cs vs → RepL E' cs vs
  | [], vs, _, h' => by simpa [RepL] using h'
  | c :: cs, vs, hp, h' => by
    simp only [noRoL, Bool.and_eq_true] at hp
    simp only [RepL] at h' ⊢
    obtain ⟨u, us, rfl, h1, h2⟩ := h'
    exact ⟨u, us, rfl, noRoV_rep h hρ c u hp.1 h1, noRoL_rep h hρ cs us hp.2 h2⟩
end
mutual
/-- What a value at the border is; X: the blocks that go over with it, in order. -/
def RepB (E : Env) : AV → Value → List Nat → Prop
  | .own len esz cs, v, X => pureL cs = true ∧ ∃ a cap, v = .slice a len cap ∧ len ≤ cap ∧ ((cap = 0 ∧ cs = [] ∧ X.length ≤ 1) ∨
      ∃ n c e fr, a = some ⟨n, 0, none⟩ ∧ X = [n] ∧ E.w.heap[n]? = some (.cells c e fr) ∧ cap * esz ≤ c.size ∧ (∀ j, j < c.size → ¬ (fr.1 ≤ j ∧ j < fr.2)) ∧ cs.length ≤ c.size ∧
        RepL E cs (c.toList.take cs.length))
  | .ref cs, v, X => ∃ n Y c e fr, v = .pointer (some ⟨n, 0, none⟩) ∧ X = Y ++ [n] ∧ E.w.heap[n]? = some (.cells c e fr) ∧ (∀ j, j < c.size → ¬ (fr.1 ≤ j ∧ j < fr.2)) ∧ cs.length ≤ c.size ∧
      RepBL E cs (c.toList.take cs.length) Y
  | .agg cs, v, X => ∃ vs : Array Value, v = .agg vs ∧ RepBL E cs vs.toList X
  | .tuple cs, v, X => ∃ vs : Array Value, v = .tuple vs ∧ RepBL E cs vs.toList X
  | x, v, X => pureV x = true ∧ RepV E x v ∧ X = []
def RepBL (E : Env) : List AV → List Value → List Nat → Prop
  | [], vs, X => vs = [] ∧ X = []
  | c :: cs, vs, X => ∃ u us Y Y', vs = u :: us ∧ X = Y ++ Y' ∧ RepB E c u Y ∧ RepBL E cs us Y'
end
mutual
/-- Taken up: blocks get names. -/
def matV : AV → Heap × Nat → AV × (Heap × Nat)
  | .own len esz cs, (H, nx) => (.sl nx 0 len esz false, (setH H nx (some cs), nx + 1))
  | .ref cs, s => match matL cs s with
    | (cs', (H, nx)) => (.ptr nx 0, (setH H nx (some cs'), nx + 1))
  | .agg cs, s => match matL cs s with
    | (cs', s') => (.agg cs', s')
  | .tuple cs, s => match matL cs s with
    | (cs', s') => (.tuple cs', s')
  | x, s => (x, s)
def matL : List AV → Heap × Nat → List AV × (Heap × Nat)
  | [], s => ([], s)
  | c :: cs, s => match matV c s with
    | (c', s') => match matL cs s' with
      | (cs', s'') => (c' :: cs', s'')
end
/-- A block that was foreign becomes one's own. -/
theorem HeapRep.adopt {Z : Nat → Prop} {E : Env} {H : Heap} {nx n : Nat} {cs : List AV} (h : HeapRep Z E H nx) (hn : Z n) (hb : BlkOk E n cs) :
    ∃ E', E'.w = E.w ∧ E'.η = E.η ∧ (∀ b, E'.V b ↔ E.V b) ∧ (∀ i, i ≠ nx → E'.ρ i = E.ρ i) ∧ E'.ρ nx = some n ∧ HeapRep (fun b => Z b ∧ b ≠ n) E' (setH H nx (some cs)) (nx + 1) := by
  have hnx := h.fresh nx (Nat.le_refl _)
  let E' : Env := { E with ρ := fun i => cond (Nat.beq i nx) (some n) (E.ρ i) }
  have r1 : E'.ρ nx = some n := by simp [E']
  have r2 : ∀ i, i ≠ nx → E'.ρ i = E.ρ i := fun i hi => by
    have : Nat.beq i nx = false := by
      cases hh : Nat.beq i nx
      · rfl
      · exact absurd (Nat.eq_of_beq_eq_true hh) hi
    simp [E', this]
  have L : Later E E' := by
    refine ⟨rfl, fun i m hm => ?_, Nat.le_refl _, fun _ c _ fr hh => ⟨c, fr, hh, rfl⟩, fun _ _ _ => rfl, fun _ _ hh => hh⟩
    have : i ≠ nx := fun e => by rw [e, hnx.1] at hm; cases hm
    rw [r2 i this]; exact hm
  have hwr : ∀ b, Wr E'.ρ (setH H nx (some cs)) b ↔ Wr E.ρ H b ∨ b = n := by
    intro b
    constructor
    · rintro ⟨i, es, h1, h2⟩
      by_cases hi : i = nx
      · subst hi; rw [r1] at h2; injection h2 with h2; exact .inr h2.symm
      · rw [setH_ne _ _ hi] at h1; rw [r2 i hi] at h2; exact .inl ⟨i, es, h1, h2⟩
    · rintro (⟨i, es, h1, h2⟩ | rfl)
      · have hi : i ≠ nx := fun e => by rw [e, hnx.2] at h1; cases h1
        exact ⟨i, es, by rw [setH_ne _ _ hi]; exact h1, by rw [r2 i hi]; exact h2⟩
      · exact ⟨nx, cs, setH_same _ _ _, r1⟩
  refine ⟨E', rfl, rfl, fun b => Iff.rfl, r2, r1, ⟨fun i es hh => ?_, fun i i' m h1 h2 h3 h4 => ?_, fun b => ?_, fun i m h1 h2 hz => ?_, fun i hh => ?_, h.one, fun i m hm => ?_, fun b hb => h.zold b hb.1, h.tab.later L⟩⟩
  · by_cases hi : i = nx
    · subst hi
      rw [setH_same] at hh
      injection hh with hh
      subst hh
      refine .inr ⟨n, r1, ?_⟩
      obtain ⟨c, e, fr, k1, k2, k3, k4⟩ := hb
      exact ⟨c, e, fr, k1, k2, k3, fun j x hx => let ⟨u, hu, hr⟩ := k4 j x hx; ⟨u, hu, RepV.later L x u hr⟩⟩
    · rw [setH_ne _ _ hi] at hh
      rw [r2 i hi]
      rcases h.blk i es hh with h0 | ⟨m, hm, hb'⟩
      · exact .inl h0
      · exact .inr ⟨m, hm, h.blk_later L hm hb' rfl⟩
  · by_cases hi : i = nx <;> by_cases hi' : i' = nx
    · rw [hi, hi']
    · subst hi
      rw [r1] at h3; injection h3 with h3; subst h3
      rw [setH_ne _ _ hi'] at h2
      rw [r2 i' hi'] at h4
      exact absurd hn (h.apart i' n h2 h4)
    · subst hi'
      rw [r1] at h4; injection h4 with h4; subst h4
      rw [setH_ne _ _ hi] at h1
      rw [r2 i hi] at h3
      exact absurd hn (h.apart i n h1 h3)
    · rw [setH_ne _ _ hi] at h1
      rw [setH_ne _ _ hi'] at h2
      rw [r2 i hi] at h3
      rw [r2 i' hi'] at h4
      exact h.inj i i' m h1 h2 h3 h4
  · show E.V b ↔ _
    rw [hwr, h.V b]
    constructor
    · rintro (hz | hw)
      · by_cases hbn : b = n
        · exact .inr (.inr hbn)
        · exact .inl ⟨hz, hbn⟩
      · exact .inr (.inl hw)
    · rintro (⟨hz, _⟩ | hw | rfl)
      · exact .inl hz
      · exact .inr hw
      · exact .inl hn
  · by_cases hi : i = nx
    · subst hi; rw [r1] at h2; injection h2 with h2; exact hz.2 h2.symm
    · rw [setH_ne _ _ hi] at h1; rw [r2 i hi] at h2; exact h.apart i m h1 h2 hz.1
  · have hi : i ≠ nx := by omega
    rw [setH_ne _ _ hi, r2 i hi]; exact h.fresh i (by omega)
  · by_cases hi : i = nx
    · subst hi; rw [r1] at hm; injection hm with hm; subst hm; exact h.zold _ hn
    · rw [r2 i hi] at hm; exact h.old i m hm
/-- A block of one's own is given over. -/
theorem HeapRep.release {Z : Nat → Prop} {E : Env} {H : Heap} {nx id n : Nat} (h : HeapRep Z E H nx) (hi : H id ≠ none) (hn : E.ρ id = some n) :
    HeapRep (fun b => Z b ∨ b = n) E (setH H id none) nx := by
  have hne : ∀ i, setH H id none i ≠ none → H i ≠ none ∧ i ≠ id := fun i hi => by
    by_cases he : i = id
    · subst he; rw [setH_same] at hi; exact absurd rfl hi
    · rw [setH_ne _ _ he] at hi; exact ⟨hi, he⟩
  refine ⟨fun i es hh => ?_, fun i i' m h1 h2 h3 h4 => h.inj i i' m (hne i h1).1 (hne i' h2).1 h3 h4, fun b => ?_, fun i m h1 h2 hz => ?_, fun i hh => ?_, h.one, h.old, fun b hb => ?_, h.tab⟩
  · by_cases he : i = id
    · subst he; rw [setH_same] at hh; cases hh
    · rw [setH_ne _ _ he] at hh; exact h.blk i es hh
  · rw [h.V b]
    constructor
    · rintro (hz | ⟨i, es, h1, h2⟩)
      · exact .inl (.inl hz)
      · by_cases he : i = id
        · subst he; rw [hn] at h2; injection h2 with h2; exact .inl (.inr h2.symm)
        · exact .inr ⟨i, es, by rw [setH_ne _ _ he]; exact h1, h2⟩
    · rintro ((hz | rfl) | ⟨i, es, h1, h2⟩)
      · exact .inl hz
      · cases hh : H id with
        | none => exact absurd hh hi
        | some es => exact .inr ⟨id, es, hh, hn⟩
      · by_cases he : i = id
        · subst he; rw [setH_same] at h1; cases h1
        · rw [setH_ne _ _ he] at h1; exact .inr ⟨i, es, h1, h2⟩
  · obtain ⟨k1, k2⟩ := hne i h1
    rcases hz with hz | rfl
    · exact h.apart i m k1 h2 hz
    · exact k2 (h.inj i id m k1 hi h2 hn)
  · by_cases he : i = id
    · subst he; exact ⟨(h.fresh i hh).1, setH_same _ _ _⟩
    · rw [setH_ne _ _ he]; exact h.fresh i hh
  · rcases hb with hz | rfl
    · exact h.zold b hz
    · exact h.old id b hn
/-- An empty one that has no block is given up. -/
theorem HeapRep.release0 {Z : Nat → Prop} {E : Env} {H : Heap} {nx id : Nat} (h : HeapRep Z E H nx) (hn : E.ρ id = none) : HeapRep Z E (setH H id none) nx := by
  have hne : ∀ i, setH H id none i ≠ none → H i ≠ none ∧ i ≠ id := fun i hi => by
    by_cases he : i = id
    · subst he; rw [setH_same] at hi; exact absurd rfl hi
    · rw [setH_ne _ _ he] at hi; exact ⟨hi, he⟩
  refine ⟨fun i es hh => ?_, fun i i' m h1 h2 h3 h4 => h.inj i i' m (hne i h1).1 (hne i' h2).1 h3 h4, fun b => ?_, fun i m h1 h2 hz => h.apart i m (hne i h1).1 h2 hz, fun i hh => ?_, h.one, h.old, h.zold, h.tab⟩
  · by_cases he : i = id
    · subst he; rw [setH_same] at hh; cases hh
    · rw [setH_ne _ _ he] at hh; exact h.blk i es hh
  · rw [h.V b]
    constructor
    · rintro (hz | ⟨i, es, h1, h2⟩)
      · exact .inl hz
      · have he : i ≠ id := fun e => by rw [e, hn] at h2; cases h2
        exact .inr ⟨i, es, by rw [setH_ne _ _ he]; exact h1, h2⟩
    · rintro (hz | ⟨i, es, h1, h2⟩)
      · exact .inl hz
      · have he : i ≠ id := fun e => by rw [e, hn] at h2; cases h2
        rw [setH_ne _ _ he] at h1
        exact .inr ⟨i, es, h1, h2⟩
  · by_cases he : i = id
    · subst he; exact ⟨(h.fresh i hh).1, setH_same _ _ _⟩
    · rw [setH_ne _ _ he]; exact h.fresh i hh
end Go.Proofs.YtelnlfhdaelfdaaDoor.Abs
end
section
set_option linter.unusedVariables false
set_option linter.unusedSimpArgs false
namespace Go.Proofs.YtelnlfhdaelfdaaDoor.Abs
open Go
theorem SameMem.later {E E' : Env} (h : SameMem E E') (hρ : ∀ id n, E.ρ id = some n → E'.ρ id = some n) (hV : ∀ b, E'.V b → E.V b) : Later E E' :=
  ⟨h.η, hρ, by rw [h.w]; exact Nat.le_refl _, fun b c e fr hh => ⟨c, _, by rw [h.w]; exact hh, rfl⟩, fun b _ _ => by rw [h.w], fun b _ hb => hV b hb⟩
mutual
theorem RepB.mono {E E' : Env} (h : SameMem E E') (hV : ∀ b, E'.V b → E.V b) : ∀ (y : AV) (v : Value) (X : List Nat), RepB E y v X → RepB E' y v X
  | .own len esz cs, v, X, hb => by
    simp only [RepB] at hb ⊢
    obtain ⟨hp, a, cap, rfl, hl, hc⟩ := hb
    refine ⟨hp, a, cap, rfl, hl, hc.imp (fun x => x) ?_⟩
    rintro ⟨n, c, e, fr, rfl, rfl, k1, k2, k3, k4, k5⟩
    exact ⟨n, c, e, fr, rfl, rfl, by rw [h.w]; exact k1, k2, k3, k4, pureL_rep h hV _ _ hp k5⟩
  | .ref cs, v, X, hb => by
    simp only [RepB] at hb ⊢
    obtain ⟨n, Y, c, e, fr, rfl, rfl, k1, k2, k3, k4⟩ := hb
    exact ⟨n, Y, c, e, fr, rfl, rfl, by rw [h.w]; exact k1, k2, k3, RepBL.mono h hV cs _ Y k4⟩
  | .agg cs, v, X, hb => by
    simp only [RepB] at hb ⊢
    obtain ⟨vs, rfl, hl⟩ := hb
    exact ⟨vs, rfl, RepBL.mono h hV cs _ X hl⟩
  | .tuple cs, v, X, hb => by
    simp only [RepB] at hb ⊢
    obtain ⟨vs, rfl, hl⟩ := hb
    exact ⟨vs, rfl, RepBL.mono h hV cs _ X hl⟩
  | .top, v, X, hb => by simp only [RepB] at hb ⊢; exact ⟨hb.1, pureV_rep h hV _ v hb.1 hb.2.1, hb.2.2⟩
  | .int k n, v, X, hb => by simp only [RepB] at hb ⊢; exact ⟨hb.1, pureV_rep h hV _ v hb.1 hb.2.1, hb.2.2⟩
  | .bool b, v, X, hb => by simp only [RepB] at hb ⊢; exact ⟨hb.1, pureV_rep h hV _ v hb.1 hb.2.1, hb.2.2⟩
  | .anyb, v, X, hb => by simp only [RepB] at hb ⊢; exact ⟨hb.1, pureV_rep h hV _ v hb.1 hb.2.1, hb.2.2⟩
  | .str s, v, X, hb => by simp only [RepB] at hb ⊢; exact ⟨hb.1, pureV_rep h hV _ v hb.1 hb.2.1, hb.2.2⟩
  | .nil, v, X, hb => by simp only [RepB] at hb ⊢; exact ⟨hb.1, pureV_rep h hV _ v hb.1 hb.2.1, hb.2.2⟩
  | .ro len cs, v, X, hb => by simp only [RepB] at hb ⊢; exact ⟨hb.1, pureV_rep h hV _ v hb.1 hb.2.1, hb.2.2⟩
  | .sl _ _ _ _ _, v, X, hb => by simp only [RepB] at hb ⊢; exact ⟨hb.1, pureV_rep h hV _ v hb.1 hb.2.1, hb.2.2⟩
  | .ptr _ _, v, X, hb => by simp only [RepB] at hb ⊢; exact ⟨hb.1, pureV_rep h hV _ v hb.1 hb.2.1, hb.2.2⟩
  | .rop cs, v, X, hb => by simp only [RepB] at hb ⊢; exact ⟨hb.1, pureV_rep h hV _ v hb.1 hb.2.1, hb.2.2⟩
  | .nilp, v, X, hb => by simp only [RepB] at hb ⊢; exact ⟨hb.1, pureV_rep h hV _ v hb.1 hb.2.1, hb.2.2⟩
  | .hid i, v, X, hb => by simp only [RepB] at hb ⊢; exact ⟨hb.1, pureV_rep h hV _ v hb.1 hb.2.1, hb.2.2⟩
  | .fn f cs, v, X, hb => by simp only [RepB] at hb ⊢; exact ⟨hb.1, pureV_rep h hV _ v hb.1 hb.2.1, hb.2.2⟩
theorem RepBL.mono {E E' : Env} (h : SameMem E E') (hV : ∀ b, E'.V b → E.V b) : ∀ (cs : List AV) (vs : List Value) (X : List Nat), RepBL E cs vs X → RepBL E' cs vs X
  | [], vs, X, hb => by simpa [RepBL] using hb
  | c :: cs, vs, X, hb => by
    simp only [RepBL] at hb ⊢
    obtain ⟨u, us, Y, Y', rfl, rfl, h1, h2⟩ := hb
    exact ⟨u, us, Y, Y', rfl, rfl, RepB.mono h hV c u Y h1, RepBL.mono h hV cs us Y' h2⟩
end
/-- What is left when the blocks of X are taken up. -/
structure Taken (Z : Nat → Prop) (E : Env) (H : Heap) (nx : Nat) (X : List Nat) (E' : Env) (H' : Heap) (nx' : Nat) : Prop where
  mem : SameMem E E'
  V : ∀ b, E'.V b → E.V b
  ρ : ∀ i, i < nx → E'.ρ i = E.ρ i
  H : ∀ i, i < nx → H' i = H i
  nx : nx ≤ nx'
  heap : HeapRep (fun b => Z b ∧ b ∉ X) E' H' nx'
theorem Taken.later {Z : Nat → Prop} {E : Env} {H : Heap} {nx : Nat} {X : List Nat} {E' : Env} {H' : Heap} {nx' : Nat} (h : HeapRep Z E H nx) (t : Taken Z E H nx X E' H' nx') : Later E E' :=
  t.mem.later (fun id n hn => by
    rcases Nat.lt_or_ge id nx with hi | hi
    · rw [t.ρ id hi]; exact hn
    · rw [(h.fresh id hi).1] at hn; cases hn) t.V
theorem HeapRep.congrZ {Z Z' : Nat → Prop} {E : Env} {H : Heap} {nx : Nat} (h : HeapRep Z E H nx) (hz : ∀ b, Z b ↔ Z' b) : HeapRep Z' E H nx := by
  have : Z = Z' := funext fun b => propext (hz b)
  subst this
  exact h
/-- Fewer foreign blocks are forbidden. -/
theorem HeapRep.weakZ {Z Z' : Nat → Prop} {E : Env} {H : Heap} {nx : Nat} (h : HeapRep Z E H nx) (hz : ∀ b, Z' b → Z b) :
    ∃ E', E'.w = E.w ∧ E'.ρ = E.ρ ∧ E'.η = E.η ∧ (∀ b, E'.V b → E.V b) ∧ HeapRep Z' E' H nx := by
  let E' : Env := { E with V := fun b => Z' b ∨ Wr E.ρ H b }
  have hV : ∀ b, E'.V b → E.V b := fun b hb => (h.V b).2 (hb.imp (hz b) (fun x => x))
  have L : Later E E' := ⟨rfl, fun _ _ h => h, Nat.le_refl _, fun _ c _ fr hh => ⟨c, fr, hh, rfl⟩, fun _ _ _ => rfl, fun b _ hb => hV b hb⟩
  refine ⟨E', rfl, rfl, rfl, hV, ⟨fun i es hh => ?_, h.inj, fun b => Iff.rfl, fun i n h1 h2 hzz => h.apart i n h1 h2 (hz n hzz), h.fresh, h.one, h.old, fun b hb => h.zold b (hz b hb), h.tab.later L⟩⟩
  rcases h.blk i es hh with h0 | ⟨m, hm, hb⟩
  · exact .inl h0
  · exact .inr ⟨m, hm, h.blk_later L hm hb rfl⟩
theorem Taken.none {Z : Nat → Prop} {E : Env} {H : Heap} {nx : Nat} (h : HeapRep Z E H nx) : Taken Z E H nx [] E H nx :=
  ⟨⟨rfl, rfl⟩, fun _ h => h, fun _ _ => rfl, fun _ _ => rfl, Nat.le_refl _, h.congrZ fun b => by simp⟩
theorem Taken.trans {Z : Nat → Prop} {E E1 E2 : Env} {H H1 H2 : Heap} {nx nx1 nx2 : Nat} {X Y : List Nat} (a : Taken Z E H nx X E1 H1 nx1)
    (b : Taken (fun b => Z b ∧ b ∉ X) E1 H1 nx1 Y E2 H2 nx2) : Taken Z E H nx (X ++ Y) E2 H2 nx2 where
  mem := ⟨b.mem.η.trans a.mem.η, b.mem.w.trans a.mem.w⟩
  V := fun x hx => a.V x (b.V x hx)
  ρ := fun i hi => (b.ρ i (Nat.lt_of_lt_of_le hi a.nx)).trans (a.ρ i hi)
  H := fun i hi => (b.H i (Nat.lt_of_lt_of_le hi a.nx)).trans (a.H i hi)
  nx := Nat.le_trans a.nx b.nx
  heap := b.heap.congrZ fun x => by simp [and_assoc]
theorem pure_taken {Z : Nat → Prop} {E : Env} {H : Heap} {nx : Nat} {y : AV} {v : Value} {X : List Nat} (h : HeapRep Z E H nx) (hb : pureV y = true ∧ RepV E y v ∧ X = []) :
    ∃ E', Taken Z E H nx X E' H nx ∧ RepV E' y v := by
  obtain ⟨_, hr, rfl⟩ := hb
  exact ⟨E, Taken.none h, hr⟩
mutual
theorem matV_ok : ∀ (y : AV) (v : Value) (X : List Nat) (Z : Nat → Prop) (E : Env) (H : Heap) (nx : Nat), HeapRep Z E H nx → RepB E y v X → X.Nodup → (∀ b ∈ X, Z b) →
    ∃ E', Taken Z E H nx X E' (matV y (H, nx)).2.1 (matV y (H, nx)).2.2 ∧ RepV E' (matV y (H, nx)).1 v
  | .own len esz cs, v, X, Z, E, H, nx, h, hb, hnd, hz => by
    simp only [RepB] at hb
    obtain ⟨hp, a, cap, rfl, hl, hc⟩ := hb
    simp only [matV]
    rcases hc with ⟨rfl, rfl, _⟩ | ⟨n, c, e, fr, rfl, rfl, k1, k2, k3, k4, k5⟩
    · obtain ⟨E1, e1, e2, e3, e4, e5⟩ := h.empty.weakZ (Z' := fun b => Z b ∧ b ∉ X) (fun b hb => hb.1)
      refine ⟨E1, ⟨⟨e3, e1⟩, e4, fun i _ => by rw [e2], fun i hi => setH_ne _ _ (by omega), by omega, e5⟩, ?_⟩
      simp only [RepV]
      exact ⟨a, 0, rfl, hl, (nofun), .inl rfl⟩
    · have hblk : BlkOk E n cs := ⟨c, e, fr, k1, k3, k4, fun j x hx => by
        have hj : j < cs.length := by
          rcases Nat.lt_or_ge j cs.length with h' | h'
          · exact h'
          · rw [List.getElem?_eq_none h'] at hx; cases hx
        obtain ⟨u, hu, hr⟩ := repL_get _ _ k5 j x hx
        rw [List.getElem?_take_of_lt hj] at hu
        exact ⟨u, by simpa using hu, hr⟩⟩
      obtain ⟨E', e1, e2, e3, e4, e5, e6⟩ := h.adopt (hz n (by simp)) hblk
      refine ⟨E', ⟨⟨e2, e1⟩, fun b hb => (e3 b).1 hb, fun i hi => e4 i (by omega), fun i hi => setH_ne _ _ (by omega), by omega, e6.congrZ fun b => by simp⟩, ?_⟩
      simp only [RepV]
      exact ⟨_, cap, rfl, hl, (nofun), .inr ⟨n, c, e, fr, e5, rfl, by rw [e1]; exact k1, by omega⟩⟩
  | .ref cs, v, X, Z, E, H, nx, h, hb, hnd, hz => by
    simp only [RepB] at hb
    obtain ⟨n, Y, c, e, fr, rfl, rfl, k1, k2, k3, k4⟩ := hb
    obtain ⟨hy1, hy2, hy3⟩ := List.nodup_append.1 hnd
    obtain ⟨E1, t1, r1⟩ := matL_ok cs _ Y Z E H nx h k4 hy1 (fun b hb => hz b (by simp [hb]))
    simp only [matV]
    have hlen : (matL cs (H, nx)).1.length = (c.toList.take cs.length).length := repL_length _ _ r1
    have hblk : BlkOk E1 n (matL cs (H, nx)).1 := ⟨c, e, fr, by rw [t1.mem.w]; exact k1, k2, by rw [hlen]; simp; omega, fun j x hx => by
      obtain ⟨u, hu, hr⟩ := repL_get _ _ r1 j x hx
      have hj : j < cs.length := by
        rcases Nat.lt_or_ge j (c.toList.take cs.length).length with h' | h'
        · simp at h'; omega
        · rw [List.getElem?_eq_none h'] at hu; cases hu
      rw [List.getElem?_take_of_lt hj] at hu
      exact ⟨u, by simpa using hu, hr⟩⟩
    obtain ⟨E', e1, e2, e3, e4, e5, e6⟩ := t1.heap.adopt ⟨hz n (by simp), fun hn => hy3 n hn n (by simp) rfl⟩ hblk
    have t2 : Taken (fun b => Z b ∧ b ∉ Y) E1 (matL cs (H, nx)).2.1 (matL cs (H, nx)).2.2 [n] E' (setH (matL cs (H, nx)).2.1 (matL cs (H, nx)).2.2 (some (matL cs (H, nx)).1)) ((matL cs (H, nx)).2.2 + 1) :=
      ⟨⟨e2, e1⟩, fun b hb => (e3 b).1 hb, fun i hi => e4 i (by omega), fun i hi => setH_ne _ _ (by omega), by omega, e6.congrZ fun b => by simp⟩
    refine ⟨E', t1.trans t2, ?_⟩
    simp only [RepV]
    exact ⟨n, e5, rfl⟩
  | .agg cs, v, X, Z, E, H, nx, h, hb, hnd, hz => by
    simp only [RepB] at hb
    obtain ⟨vs, rfl, hl⟩ := hb
    obtain ⟨E1, t1, r1⟩ := matL_ok cs _ X Z E H nx h hl hnd hz
    exact ⟨E1, t1, by simp only [matV, RepV]; exact ⟨vs, rfl, r1⟩⟩
  | .tuple cs, v, X, Z, E, H, nx, h, hb, hnd, hz => by
    simp only [RepB] at hb
    obtain ⟨vs, rfl, hl⟩ := hb
    obtain ⟨E1, t1, r1⟩ := matL_ok cs _ X Z E H nx h hl hnd hz
    exact ⟨E1, t1, by simp only [matV, RepV]; exact ⟨vs, rfl, r1⟩⟩
  | .top, v, X, Z, E, H, nx, h, hb, _, _ => by simp only [RepB] at hb; exact pure_taken h hb
  | .int k n, v, X, Z, E, H, nx, h, hb, _, _ => by simp only [RepB] at hb; exact pure_taken h hb
  | .bool b, v, X, Z, E, H, nx, h, hb, _, _ => by simp only [RepB] at hb; exact pure_taken h hb
  | .anyb, v, X, Z, E, H, nx, h, hb, _, _ => by simp only [RepB] at hb; exact pure_taken h hb
  | .str s, v, X, Z, E, H, nx, h, hb, _, _ => by simp only [RepB] at hb; exact pure_taken h hb
  | .nil, v, X, Z, E, H, nx, h, hb, _, _ => by simp only [RepB] at hb; exact pure_taken h hb
  | .ro len cs, v, X, Z, E, H, nx, h, hb, _, _ => by simp only [RepB] at hb; exact pure_taken h hb
  | .sl _ _ _ _ _, v, X, Z, E, H, nx, h, hb, _, _ => by simp only [RepB] at hb; exact pure_taken h hb
  | .ptr _ _, v, X, Z, E, H, nx, h, hb, _, _ => by simp only [RepB] at hb; exact pure_taken h hb
  | .rop cs, v, X, Z, E, H, nx, h, hb, _, _ => by simp only [RepB] at hb; exact pure_taken h hb
  | .nilp, v, X, Z, E, H, nx, h, hb, _, _ => by simp only [RepB] at hb; exact pure_taken h hb
  | .hid i, v, X, Z, E, H, nx, h, hb, _, _ => by simp only [RepB] at hb; exact pure_taken h hb
  | .fn f cs, v, X, Z, E, H, nx, h, hb, _, _ => by simp only [RepB] at hb; exact pure_taken h hb
theorem matL_ok : ∀ (cs : List AV) (vs : List Value) (X : List Nat) (Z : Nat → Prop) (E : Env) (H : Heap) (nx : Nat), HeapRep Z E H nx → RepBL E cs vs X → X.Nodup → (∀ b ∈ X, Z b) →
    ∃ E', Taken Z E H nx X E' (matL cs (H, nx)).2.1 (matL cs (H, nx)).2.2 ∧ RepL E' (matL cs (H, nx)).1 vs
  | [], vs, X, Z, E, H, nx, h, hb, _, _ => by
    simp only [RepBL] at hb
    obtain ⟨rfl, rfl⟩ := hb
    exact ⟨E, Taken.none h, by simp [matL, RepL]⟩
  | c :: cs, vs, X, Z, E, H, nx, h, hb, hnd, hz => by
    simp only [RepBL] at hb
    obtain ⟨u, us, Y, Y', rfl, rfl, h1, h2⟩ := hb
    obtain ⟨hy1, hy2, hy3⟩ := List.nodup_append.1 hnd
    obtain ⟨E1, t1, r1⟩ := matV_ok c u Y Z E H nx h h1 hy1 (fun b hb => hz b (by simp [hb]))
    have h2' := RepBL.mono t1.mem t1.V cs us Y' h2
    obtain ⟨E2, t2, r2⟩ := matL_ok cs us Y' (fun b => Z b ∧ b ∉ Y) E1 (matV c (H, nx)).2.1 (matV c (H, nx)).2.2 t1.heap h2' hy2 (fun b hb => ⟨hz b (by simp [hb]), fun hy => hy3 b hy b hb rfl⟩)
    refine ⟨E2, t1.trans t2, ?_⟩
    simp only [matL, RepL]
    exact ⟨u, us, rfl, RepV.later (Taken.later t1.heap t2) _ _ r1, r2⟩
end
end Go.Proofs.YtelnlfhdaelfdaaDoor.Abs
end
section
set_option linter.unusedVariables false
set_option linter.unusedSimpArgs false
namespace Go.Proofs.YtelnlfhdaelfdaaDoor.Abs
open Go
mutual
/-- The value x, with its blocks `ids` of the heap H, is y at the border. -/
def Dem (H : Heap) : AV → AV → List Nat → Prop
  | .own len esz cs, x, ids => pureL cs = true ∧ cs.length = len * esz ∧ ((x = .nil ∧ len = 0 ∧ cs = [] ∧ ids = []) ∨ ∃ id full, x = .sl id 0 len esz full ∧ H id = some cs ∧ ids = [id])
  | .ref cs, x, ids => ∃ id zs is, x = .ptr id 0 ∧ H id = some zs ∧ DemL H cs zs is ∧ ids = is ++ [id]
  | .agg cs, x, ids => ∃ zs, x = .agg zs ∧ DemL H cs zs ids
  | .tuple cs, x, ids => ∃ zs, x = .tuple zs ∧ DemL H cs zs ids
  | .ro len cs, x, ids => (x = .ro len cs ∧ pureL cs = true ∧ ids = []) ∨ (x = .nil ∧ len = 0 ∧ cs = [] ∧ ids = [])
  | y, x, ids => x = y ∧ pureV y = true ∧ ids = []
def DemL (H : Heap) : List AV → List AV → List Nat → Prop
  | [], zs, ids => zs = [] ∧ ids = []
  | c :: cs, zs, ids => ∃ z zs' i i', zs = z :: zs' ∧ ids = i ++ i' ∧ Dem H c z i ∧ DemL H cs zs' i'
end
theorem rep_take {E : Env} {zs : List AV} {c : Array Value} (hl : zs.length ≤ c.size) (h : ∀ (j : Nat) x, zs[j]? = some x → ∃ u, c[j]? = some u ∧ RepV E x u) : RepL E zs (c.toList.take zs.length) :=
  repL_of_get _ _ (by simp; omega) fun j x u hx hu => by
    obtain ⟨u', h1, h2⟩ := h j x hx
    have hj : j < zs.length := by
      rcases Nat.lt_or_ge j zs.length with h' | h'
      · exact h'
      · rw [List.getElem?_eq_none h'] at hx; cases hx
    rw [List.getElem?_take_of_lt hj, Array.getElem?_toList, h1] at hu
    injection hu with hu
    rw [← hu]; exact h2
theorem pure_out {E : Env} {ρ : Nat → Option Nat} {x y : AV} {v : Value} {ids : List Nat} (hr : RepV E x v) (h : x = y ∧ pureV y = true ∧ ids = []) : pureV y = true ∧ RepV E y v ∧ ids.filterMap ρ = [] := by
  obtain ⟨rfl, hp, rfl⟩ := h
  exact ⟨hp, hr, rfl⟩
mutual
theorem Dem_ok {Z : Nat → Prop} {E : Env} {H : Heap} {nx : Nat} (h : HeapRep Z E H nx) : ∀ (y x : AV) (v : Value) (ids : List Nat), RepV E x v → Dem H y x ids → RepB E y v (ids.filterMap E.ρ)
  | .own len esz cs, x, v, ids, hr, hd => by
    simp only [Dem] at hd
    obtain ⟨hp, hl, hd⟩ := hd
    simp only [RepB]
    refine ⟨hp, ?_⟩
    rcases hd with ⟨rfl, rfl, rfl, rfl⟩ | ⟨id, full, rfl, hi, rfl⟩
    · simp only [RepV] at hr
      subst hr
      exact ⟨none, 0, rfl, Nat.le_refl _, .inl ⟨rfl, rfl, by simp⟩⟩
    · simp only [RepV] at hr
      obtain ⟨a, cap, rfl, hlc, _, hc⟩ := hr
      refine ⟨a, cap, rfl, hlc, ?_⟩
      rcases h.blk id cs hi with ⟨h0, rfl⟩ | ⟨n, hn, c, e, fr, b1, b2, b3, b4⟩
      · left
        rcases hc with rfl | ⟨n, c, e, fr, hn, _⟩
        · exact ⟨rfl, rfl, by simp [h0]⟩
        · rw [h0] at hn; cases hn
      · rcases hc with rfl | ⟨n', c', e', fr', hn', rfl, hh, hs⟩
        · left
          have hl0 : len = 0 := by omega
          subst hl0
          exact ⟨rfl, List.length_eq_zero_iff.1 (by rw [hl]; simp), by simp [hn]⟩
        · right
          obtain rfl : n = n' := by rw [hn] at hn'; injection hn'
          rw [b1] at hh
          injection hh with hh
          injection hh with q1 q2 q3
          subst q1
          exact ⟨n, c, e, fr, rfl, by simp [hn], b1, by omega, b2, b3, rep_take b3 b4⟩
  | .ref cs, x, v, ids, hr, hd => by
    simp only [Dem] at hd
    obtain ⟨id, zs, is, rfl, hi, hd, rfl⟩ := hd
    simp only [RepV] at hr
    obtain ⟨n, hn, rfl⟩ := hr
    rcases h.blk id zs hi with ⟨h0, _⟩ | ⟨n', hn', c, e, fr, b1, b2, b3, b4⟩
    · rw [hn] at h0; cases h0
    · obtain rfl : n = n' := by rw [hn] at hn'; injection hn'
      have hlen := DemL_len cs zs is hd
      simp only [RepB]
      refine ⟨n, is.filterMap E.ρ, c, e, fr, rfl, by simp [hn], b1, b2, by rw [hlen]; exact b3, ?_⟩
      rw [hlen]
      exact DemL_ok h cs zs _ is (rep_take b3 b4) hd
  | .agg cs, x, v, ids, hr, hd => by
    simp only [Dem] at hd
    obtain ⟨zs, rfl, hd⟩ := hd
    simp only [RepV] at hr
    obtain ⟨vs, rfl, hr⟩ := hr
    simp only [RepB]
    exact ⟨vs, rfl, DemL_ok h cs zs _ ids hr hd⟩
  | .tuple cs, x, v, ids, hr, hd => by
    simp only [Dem] at hd
    obtain ⟨zs, rfl, hd⟩ := hd
    simp only [RepV] at hr
    obtain ⟨vs, rfl, hr⟩ := hr
    simp only [RepB]
    exact ⟨vs, rfl, DemL_ok h cs zs _ ids hr hd⟩
  | .ro len cs, x, v, ids, hr, hd => by
    simp only [Dem] at hd
    simp only [RepB]
    rcases hd with ⟨rfl, hp, rfl⟩ | ⟨rfl, rfl, rfl, rfl⟩
    · exact ⟨by simpa [pureV] using hp, hr, rfl⟩
    · simp only [RepV] at hr
      subst hr
      exact ⟨rfl, by simp only [RepV]; exact ⟨none, 0, rfl, Nat.le_refl _, .inl trivial⟩, rfl⟩
  | .top, x, v, ids, hr, hd => by simp only [Dem] at hd; simp only [RepB]; exact pure_out hr hd
  | .int k n, x, v, ids, hr, hd => by simp only [Dem] at hd; simp only [RepB]; exact pure_out hr hd
  | .bool b, x, v, ids, hr, hd => by simp only [Dem] at hd; simp only [RepB]; exact pure_out hr hd
  | .anyb, x, v, ids, hr, hd => by simp only [Dem] at hd; simp only [RepB]; exact pure_out hr hd
  | .str s, x, v, ids, hr, hd => by simp only [Dem] at hd; simp only [RepB]; exact pure_out hr hd
  | .nil, x, v, ids, hr, hd => by simp only [Dem] at hd; simp only [RepB]; exact pure_out hr hd
  | .sl _ _ _ _ _, x, v, ids, hr, hd => by simp only [Dem] at hd; simp only [RepB]; exact pure_out hr hd
  | .ptr _ _, x, v, ids, hr, hd => by simp only [Dem] at hd; simp only [RepB]; exact pure_out hr hd
  | .rop cs, x, v, ids, hr, hd => by simp only [Dem] at hd; simp only [RepB]; exact pure_out hr hd
  | .nilp, x, v, ids, hr, hd => by simp only [Dem] at hd; simp only [RepB]; exact pure_out hr hd
  | .hid i, x, v, ids, hr, hd => by simp only [Dem] at hd; simp only [RepB]; exact pure_out hr hd
  | .fn f cs, x, v, ids, hr, hd => by simp only [Dem] at hd; simp only [RepB]; exact pure_out hr hd
theorem DemL_len {H : Heap} : ∀ (cs zs : List AV) (ids : List Nat), DemL H cs zs ids → cs.length = zs.length
  | [], zs, ids, hd => by simp only [DemL] at hd; rw [hd.1]
  | c :: cs, zs, ids, hd => by
    simp only [DemL] at hd
    obtain ⟨z, zs', i, i', rfl, rfl, _, h2⟩ := hd
    simp [DemL_len cs zs' i' h2]
theorem DemL_ok {Z : Nat → Prop} {E : Env} {H : Heap} {nx : Nat} (h : HeapRep Z E H nx) : ∀ (cs zs : List AV) (vs : List Value) (ids : List Nat), RepL E zs vs → DemL H cs zs ids → RepBL E cs vs (ids.filterMap E.ρ)
  | [], zs, vs, ids, hr, hd => by
    simp only [DemL] at hd
    obtain ⟨rfl, rfl⟩ := hd
    simp only [RepL] at hr
    simp [RepBL, hr]
  | c :: cs, zs, vs, ids, hr, hd => by
    simp only [DemL] at hd
    obtain ⟨z, zs', i, i', rfl, rfl, h1, h2⟩ := hd
    simp only [RepL] at hr
    obtain ⟨u, us, rfl, hu, hr⟩ := hr
    simp only [RepBL]
    exact ⟨u, us, _, _, rfl, List.filterMap_append, Dem_ok h c z u i hu h1, DemL_ok h cs zs' us i' hr h2⟩
end
mutual
theorem Dem_mem {H : Heap} : ∀ (y x : AV) (ids : List Nat), Dem H y x ids → ∀ i ∈ ids, H i ≠ none
  | .own len esz cs, x, ids, hd => by
    simp only [Dem] at hd
    rcases hd.2.2 with ⟨_, _, _, rfl⟩ | ⟨id, full, _, hi, rfl⟩
    · simp
    · intro i hi'; simp at hi'; subst hi'; rw [hi]; simp
  | .ref cs, x, ids, hd => by
    simp only [Dem] at hd
    obtain ⟨id, zs, is, rfl, hi, hd, rfl⟩ := hd
    intro i hi'
    rcases List.mem_append.1 hi' with h' | h'
    · exact DemL_mem cs zs is hd i h'
    · simp at h'; subst h'; rw [hi]; simp
  | .agg cs, x, ids, hd => by
    simp only [Dem] at hd
    obtain ⟨zs, _, hd⟩ := hd
    exact DemL_mem cs zs ids hd
  | .tuple cs, x, ids, hd => by
    simp only [Dem] at hd
    obtain ⟨zs, _, hd⟩ := hd
    exact DemL_mem cs zs ids hd
  | .ro len cs, x, ids, hd => by
    simp only [Dem] at hd
    rcases hd with ⟨_, _, rfl⟩ | ⟨_, _, _, rfl⟩ <;> simp
  | .top, x, ids, hd => by simp only [Dem] at hd; rw [hd.2.2]; simp
  | .int k n, x, ids, hd => by simp only [Dem] at hd; rw [hd.2.2]; simp
  | .bool b, x, ids, hd => by simp only [Dem] at hd; rw [hd.2.2]; simp
  | .anyb, x, ids, hd => by simp only [Dem] at hd; rw [hd.2.2]; simp
  | .str s, x, ids, hd => by simp only [Dem] at hd; rw [hd.2.2]; simp
  | .nil, x, ids, hd => by simp only [Dem] at hd; rw [hd.2.2]; simp
  | .sl _ _ _ _ _, x, ids, hd => by simp only [Dem] at hd; rw [hd.2.2]; simp
  | .ptr _ _, x, ids, hd => by simp only [Dem] at hd; rw [hd.2.2]; simp
  | .rop cs, x, ids, hd => by simp only [Dem] at hd; rw [hd.2.2]; simp
  | .nilp, x, ids, hd => by simp only [Dem] at hd; rw [hd.2.2]; simp
  | .hid i, x, ids, hd => by simp only [Dem] at hd; rw [hd.2.2]; simp
  | .fn f cs, x, ids, hd => by simp only [Dem] at hd; rw [hd.2.2]; simp
theorem DemL_mem {H : Heap} : ∀ (cs zs : List AV) (ids : List Nat), DemL H cs zs ids → ∀ i ∈ ids, H i ≠ none
  | [], zs, ids, hd => by simp only [DemL] at hd; rw [hd.2]; simp
  | c :: cs, zs, ids, hd => by
    simp only [DemL] at hd
    obtain ⟨z, zs', i, i', rfl, rfl, h1, h2⟩ := hd
    intro j hj
    rcases List.mem_append.1 hj with h' | h'
    · exact Dem_mem c z i h1 j h'
    · exact DemL_mem cs zs' i' h2 j h'
end
/-- The heap without some blocks. -/
def remH : Heap → List Nat → Heap
  | H, [] => H
  | H, i :: r => remH (setH H i none) r
theorem remH_ok {E : Env} {nx : Nat} : ∀ (ids : List Nat) (Z : Nat → Prop) (H : Heap), HeapRep Z E H nx → ids.Nodup → (∀ i ∈ ids, H i ≠ none) →
    HeapRep (fun b => Z b ∨ b ∈ ids.filterMap E.ρ) E (remH H ids) nx ∧ (ids.filterMap E.ρ).Nodup ∧ (∀ b ∈ ids.filterMap E.ρ, Wr E.ρ H b ∧ ¬ Z b) ∧ (∀ b, Wr E.ρ (remH H ids) b → Wr E.ρ H b)
  | [], Z, H, h, _, _ => ⟨h.congrZ fun b => by simp, by simp, by simp, fun b hb => hb⟩
  | i :: r, Z, H, h, hnd, hm => by
    obtain ⟨hi, hnd⟩ := List.nodup_cons.1 hnd
    have hmi := hm i (by simp)
    have hm' : ∀ j ∈ r, setH H i none j ≠ none := fun j hj => by
      have : j ≠ i := fun e => hi (e ▸ hj)
      rw [setH_ne _ _ this]; exact hm j (by simp [hj])
    have hwr : ∀ b, Wr E.ρ (setH H i none) b → Wr E.ρ H b := by
      rintro b ⟨k, es, h1, h2⟩
      by_cases hk : k = i
      · subst hk; rw [setH_same] at h1; cases h1
      · rw [setH_ne _ _ hk] at h1; exact ⟨k, es, h1, h2⟩
    cases hρ : E.ρ i with
    | none =>
      obtain ⟨k1, k2, k3, k4⟩ := remH_ok r Z (setH H i none) (h.release0 hρ) hnd hm'
      simp only [List.filterMap_cons, hρ, remH]
      exact ⟨k1, k2, fun b hb => ⟨hwr b (k3 b hb).1, (k3 b hb).2⟩, fun b hb => hwr b (k4 b hb)⟩
    | some n =>
      obtain ⟨k1, k2, k3, k4⟩ := remH_ok r (fun b => Z b ∨ b = n) (setH H i none) (h.release hmi hρ) hnd hm'
      simp only [List.filterMap_cons, hρ, remH]
      have hwn : Wr E.ρ H n := by
        cases hh : H i with
        | none => exact absurd hh hmi
        | some es => exact ⟨i, es, hh, hρ⟩
      refine ⟨k1.congrZ fun b => by simp [or_assoc, or_left_comm], List.nodup_cons.2 ⟨fun hn => (k3 n hn).2 (.inr rfl), k2⟩, fun b hb => ?_, fun b hb => hwr b (k4 b hb)⟩
      rcases List.mem_cons.1 hb with rfl | hb
      · exact ⟨hwn, h.apart i _ hmi hρ⟩
      · exact ⟨hwr b (k3 b hb).1, fun hz => (k3 b hb).2 (.inl hz)⟩
end Go.Proofs.YtelnlfhdaelfdaaDoor.Abs
end
section
set_option linter.unusedVariables false
set_option linter.unusedSimpArgs false
namespace Go.Proofs.YtelnlfhdaelfdaaDoor.Abs
open Go
def isRef : AV → Bool
  | .ref _ => true
  | _ => false
/-- The values of those arguments that are pointers to what goes over. -/
def refVals : List AV → List Value → List Value
  | y :: ys, v :: vs => cond (isRef y) (v :: refVals ys vs) (refVals ys vs)
  | _, _ => []
def noHeap : Heap := fun _ => none
/-- The function has a body to be entered. -/
def Enters (P : Program) (f : FuncId) : Prop := ∀ (args : Array Value) (w : World), (callFunc f args).run P w = .ok (.enter f args) w
/-- Called with such arguments the function returns r; what it was given by pointer is then `outs`. -/
def ACall (P : Program) (f : FuncId) (args : List AV) (r : AV) (outs : List AV) : Prop :=
  Enters P f ∧ ∀ (Z : Nat → Prop) (E : Env) (vals : List Value) (X : List Nat), HeapRep (fun b => Z b ∨ b ∈ X) E noHeap 0 → RepBL E args vals X → X.Nodup → (∀ b ∈ X, ¬ Z b) →
    Calls P f vals.toArray E.w fun e w' => ∃ v E' Xr, e = .returned v ∧ E'.w = w' ∧ E'.η = E.η ∧ Evo (· ∈ X) E.w w' ∧ (∀ b, E'.V b ↔ Z b ∨ b ∈ Xr) ∧
      RepBL E' (outs ++ [r]) (refVals args vals ++ [v]) Xr ∧ Xr.Nodup ∧ ∀ b ∈ Xr, ¬ Z b ∧ (b < E.w.heap.size → b ∈ X) ∧ b < w'.heap.size
/-- How an argument is handed on: read, lent for reading, given over, given by pointer. -/
inductive Mode where
  | rd | bw | mv (esz : Nat) | rf (ms : List Mode) | hd | cmp
/-- What an argument is at the border. -/
inductive Passed (H : Heap) : AV → AV → List Nat → List Nat → Prop where
  | dem {x y : AV} {ids : List Nat} (h : Dem H y x ids) : Passed H x y ids []
  | bor {id off len esz : Nat} {full : Bool} {cs ds : List AV} (h : H id = some cs) (hd : ds = (cs.drop off).take (len * esz)) (hp : pureL ds = true) : Passed H (.sl id off len esz full) (.ro len ds) [] [id]
inductive PassedL (H : Heap) : List AV → List AV → List Nat → List Nat → Prop where
  | nil : PassedL H [] [] [] []
  | cons {x y : AV} {xs ys : List AV} {i is b bs : List Nat} (h : Passed H x y i b) (t : PassedL H xs ys is bs) : PassedL H (x :: xs) (y :: ys) (i ++ is) (b ++ bs)
theorem PassedL_mem {H : Heap} {xs ys : List AV} {ids bs : List Nat} (h : PassedL H xs ys ids bs) : ∀ i ∈ ids, H i ≠ none := by
  induction h with
  | nil => simp
  | cons h t ih =>
    intro i hi
    rcases List.mem_append.1 hi with h' | h'
    · cases h with
      | dem hd => exact Dem_mem _ _ _ hd i h'
      | bor => simp at h'
    · exact ih i h'
theorem pass_ok {Z : Nat → Prop} {E E' : Env} {H : Heap} {nx : Nat} (h : HeapRep Z E H nx) (hm : SameMem E E') (hV : ∀ b, E'.V b → E.V b) {x y : AV} {v : Value} {ids bs : List Nat}
    (hp : Passed H x y ids bs) (hb : ∀ id ∈ bs, ∀ n, E.ρ id = some n → ¬ E'.V n) (hr : RepV E x v) : RepB E' y v (ids.filterMap E.ρ) := by
  cases hp with
  | dem hd => exact RepB.mono hm hV _ _ _ (Dem_ok h _ _ _ _ hr hd)
  | bor hc hd hpu =>
    rename_i id off len esz full cs ds
    subst hd
    simp only [RepB]
    refine ⟨by simpa [pureV] using hpu, ?_, rfl⟩
    simp only [RepV] at hr ⊢
    obtain ⟨a, cap, rfl, hl, _, hcc⟩ := hr
    refine ⟨a, cap, rfl, hl, ?_⟩
    rcases hcc with rfl | ⟨n, c, e, fr, hn, rfl, hh, hs⟩
    · left
      have : len = 0 := by omega
      subst this
      simp
    · right
      refine ⟨n, off, rfl, hb id (by simp) n hn, ?_⟩
      refine pureM_rep (E := E) hm hV _ _ _ hpu (repM_of_get _ _ _ fun j x hx => ?_)
      refine blk_cells h hc hn (off + j) x ?_
      by_cases hj : j < len * esz
      · rwa [List.getElem?_take_of_lt hj, List.getElem?_drop] at hx
      · rw [List.getElem?_eq_none (by simp; omega)] at hx; cases hx
theorem passL_ok {Z : Nat → Prop} {E E' : Env} {H : Heap} {nx : Nat} (h : HeapRep Z E H nx) (hm : SameMem E E') (hV : ∀ b, E'.V b → E.V b) {xs ys : List AV} {ids bs : List Nat}
    (hp : PassedL H xs ys ids bs) (hb : ∀ id ∈ bs, ∀ n, E.ρ id = some n → ¬ E'.V n) : ∀ {vs : List Value}, RepL E xs vs → RepBL E' ys vs (ids.filterMap E.ρ) := by
  induction hp with
  | nil => intro vs hr; simp only [RepL] at hr; simp [RepBL, hr]
  | cons h1 t ih =>
    intro vs hr
    simp only [RepL] at hr
    obtain ⟨u, us, rfl, hu, hr⟩ := hr
    simp only [RepBL]
    exact ⟨u, us, _, _, rfl, List.filterMap_append, pass_ok h hm hV h1 (fun id hi => hb id (by simp [hi])) hu, ih (fun id hi => hb id (by simp [hi])) hr⟩
/-- The pointers among the arguments, by the names of their blocks. -/
def refIds : List AV → List AV → List Nat
  | .ref _ :: ys, .ptr id _ :: xs => id :: refIds ys xs
  | _ :: ys, _ :: xs => refIds ys xs
  | _, _ => []
def takeRefs : Heap × Nat → List Nat → List AV → Option (Heap × Nat)
  | s, [], [] => some s
  | s, i :: is, .ref cs :: os => match matL cs s with
    | (cs', (H', nx')) => takeRefs (setH H' i (some cs'), nx') is os
  | _, _, _ => none
theorem HeapRep.readopt {Z : Nat → Prop} {E : Env} {H : Heap} {nx id n : Nat} {cs : List AV} (h : HeapRep Z E H nx) (hi : H id = none) (hn : E.ρ id = some n) (hz : Z n) (hb : BlkOk E n cs) :
    HeapRep (fun b => Z b ∧ b ≠ n) E (setH H id (some cs)) nx := by
  have hwr : ∀ b, Wr E.ρ (setH H id (some cs)) b ↔ Wr E.ρ H b ∨ b = n := by
    intro b
    constructor
    · rintro ⟨i, es, h1, h2⟩
      by_cases he : i = id
      · subst he; rw [hn] at h2; injection h2 with h2; exact .inr h2.symm
      · rw [setH_ne _ _ he] at h1; exact .inl ⟨i, es, h1, h2⟩
    · rintro (⟨i, es, h1, h2⟩ | rfl)
      · have he : i ≠ id := fun e => by rw [e, hi] at h1; cases h1
        exact ⟨i, es, by rw [setH_ne _ _ he]; exact h1, h2⟩
      · exact ⟨id, cs, setH_same _ _ _, hn⟩
  refine ⟨fun i es hh => ?_, fun i i' m h1 h2 h3 h4 => ?_, fun b => ?_, fun i m h1 h2 hzz => ?_, fun i hh => ?_, h.one, h.old, fun b hb => h.zold b hb.1, h.tab⟩
  · by_cases he : i = id
    · subst he; rw [setH_same] at hh; injection hh with hh; subst hh; exact .inr ⟨n, hn, hb⟩
    · rw [setH_ne _ _ he] at hh; exact h.blk i es hh
  · by_cases he : i = id <;> by_cases he' : i' = id
    · rw [he, he']
    · subst he
      rw [hn] at h3; injection h3 with h3; subst h3
      rw [setH_ne _ _ he'] at h2
      exact absurd hz (h.apart i' n h2 h4)
    · subst he'
      rw [hn] at h4; injection h4 with h4; subst h4
      rw [setH_ne _ _ he] at h1
      exact absurd hz (h.apart i n h1 h3)
    · rw [setH_ne _ _ he] at h1
      rw [setH_ne _ _ he'] at h2
      exact h.inj i i' m h1 h2 h3 h4
  · rw [hwr, h.V b]
    constructor
    · rintro (hzz | hw)
      · by_cases hbn : b = n
        · exact .inr (.inr hbn)
        · exact .inl ⟨hzz, hbn⟩
      · exact .inr (.inl hw)
    · rintro (⟨hzz, _⟩ | hw | rfl)
      · exact .inl hzz
      · exact .inr hw
      · exact .inl hz
  · by_cases he : i = id
    · subst he; rw [hn] at h2; injection h2 with h2; exact hzz.2 h2.symm
    · rw [setH_ne _ _ he] at h1; exact h.apart i m h1 h2 hzz.1
  · have he : i ≠ id := fun e => by
      rw [e] at hh
      rw [(h.fresh id hh).1] at hn; cases hn
    rw [setH_ne _ _ he]; exact h.fresh i hh
/-- Memory has moved on, but for what is foreign now. -/
theorem HeapRep.evolve {Z1 Z2 : Nat → Prop} {E : Env} {H : Heap} {nx : Nat} {W : Nat → Prop} {w' : World} (h : HeapRep Z1 E H nx) (ev : Evo W E.w w') (hW : ∀ b, W b → Z1 b)
    (h2 : ∀ b, Z2 b → b < w'.heap.size) (h3 : ∀ b, Z2 b → b < E.w.heap.size → Z1 b) :
    ∃ E', E'.w = w' ∧ E'.η = E.η ∧ E'.ρ = E.ρ ∧ Later E E' ∧ HeapRep Z2 E' H nx := by
  let E' : Env := { E with w := w', V := fun b => Z2 b ∨ Wr E.ρ H b }
  have L : Later E E' := Later.of_evo (W := W) ev rfl (fun _ _ h => h) (fun b hb => (h.V b).2 (.inl (hW b hb))) (fun b hb hv => (h.V b).2 (hv.imp (fun hz => h3 b hz hb) (fun x => x)))
  refine ⟨E', rfl, rfl, rfl, L, ⟨fun i es hh => ?_, h.inj, fun b => Iff.rfl, fun i n k1 k2 hz => h.apart i n k1 k2 (h3 n hz (h.old i n k2)), h.fresh, h.one, fun i n hn => Nat.lt_of_lt_of_le (h.old i n hn) ev.size, h2, h.tab.later L⟩⟩
  rcases h.blk i es hh with h0 | ⟨m, hm, hb⟩
  · exact .inl h0
  · refine .inr ⟨m, hm, h.blk_later L hm hb (ev.same m (h.old i m hm) fun hw => ?_)⟩
    exact h.apart i m (by rw [hh]; simp) hm (hW m hw)
/-- The environment without forbidden blocks. -/
def Env.free (E : Env) : Env := { E with V := fun _ => False }
theorem pure_noRo {E E' : Env} (h : SameMem E E') {x : AV} {v : Value} (hp : pureV x = true) (hn : noRoV x = true) (hr : RepV E x v) : RepV E' x v := by
  have h1 : RepV E'.free x v := pureV_rep (E := E) (E' := E'.free) ⟨h.η, h.w⟩ (fun b (hf : False) => hf.elim) x v hp hr
  exact noRoV_rep (E := E'.free) (E' := E') ⟨rfl, rfl⟩ rfl x v hn h1
theorem pure_noRoL {E E' : Env} (h : SameMem E E') {cs : List AV} {vs : List Value} (hp : pureL cs = true) (hn : noRoL cs = true) (hr : RepL E cs vs) : RepL E' cs vs := by
  have h1 : RepL E'.free cs vs := pureL_rep (E := E) (E' := E'.free) ⟨h.η, h.w⟩ (fun b (hf : False) => hf.elim) cs vs hp hr
  exact noRoL_rep (E := E'.free) (E' := E') ⟨rfl, rfl⟩ rfl cs vs hn h1
mutual
/-- Where nothing foreign is read the border's value hangs on no forbidden block. -/
theorem RepB.noRo {E E' : Env} (h : SameMem E E') : ∀ (y : AV) (v : Value) (X : List Nat), noRoV y = true → RepB E y v X → RepB E' y v X
  | .own len esz cs, v, X, hn, hb => by
    simp only [RepB] at hb ⊢
    obtain ⟨hp, a, cap, rfl, hl, hc⟩ := hb
    refine ⟨hp, a, cap, rfl, hl, hc.imp (fun x => x) ?_⟩
    rintro ⟨n, c, e, fr, rfl, rfl, k1, k2, k3, k4, k5⟩
    exact ⟨n, c, e, fr, rfl, rfl, by rw [h.w]; exact k1, k2, k3, k4, pure_noRoL h hp (by simpa [noRoV] using hn) k5⟩
  | .ref cs, v, X, hn, hb => by
    simp only [RepB] at hb ⊢
    obtain ⟨n, Y, c, e, fr, rfl, rfl, k1, k2, k3, k4⟩ := hb
    exact ⟨n, Y, c, e, fr, rfl, rfl, by rw [h.w]; exact k1, k2, k3, RepBL.noRo h cs _ Y (by simpa [noRoV] using hn) k4⟩
  | .agg cs, v, X, hn, hb => by
    simp only [RepB] at hb ⊢
    obtain ⟨vs, rfl, hl⟩ := hb
    exact ⟨vs, rfl, RepBL.noRo h cs _ X (by simpa [noRoV] using hn) hl⟩
  | .tuple cs, v, X, hn, hb => by
    simp only [RepB] at hb ⊢
    obtain ⟨vs, rfl, hl⟩ := hb
    exact ⟨vs, rfl, RepBL.noRo h cs _ X (by simpa [noRoV] using hn) hl⟩
  | .top, v, X, hn, hb => by simp only [RepB] at hb ⊢; exact ⟨hb.1, pure_noRo h hb.1 hn hb.2.1, hb.2.2⟩
  | .int k n, v, X, hn, hb => by simp only [RepB] at hb ⊢; exact ⟨hb.1, pure_noRo h hb.1 hn hb.2.1, hb.2.2⟩
  | .bool b, v, X, hn, hb => by simp only [RepB] at hb ⊢; exact ⟨hb.1, pure_noRo h hb.1 hn hb.2.1, hb.2.2⟩
  | .anyb, v, X, hn, hb => by simp only [RepB] at hb ⊢; exact ⟨hb.1, pure_noRo h hb.1 hn hb.2.1, hb.2.2⟩
  | .str s, v, X, hn, hb => by simp only [RepB] at hb ⊢; exact ⟨hb.1, pure_noRo h hb.1 hn hb.2.1, hb.2.2⟩
  | .nil, v, X, hn, hb => by simp only [RepB] at hb ⊢; exact ⟨hb.1, pure_noRo h hb.1 hn hb.2.1, hb.2.2⟩
  | .ro len cs, v, X, hn, hb => by simp only [RepB] at hb ⊢; exact ⟨hb.1, pure_noRo h hb.1 hn hb.2.1, hb.2.2⟩
  | .sl _ _ _ _ _, v, X, hn, hb => by simp only [RepB] at hb ⊢; exact ⟨hb.1, pure_noRo h hb.1 hn hb.2.1, hb.2.2⟩
  | .ptr _ _, v, X, hn, hb => by simp only [RepB] at hb ⊢; exact ⟨hb.1, pure_noRo h hb.1 hn hb.2.1, hb.2.2⟩
  | .rop cs, v, X, hn, hb => by simp only [RepB] at hb ⊢; exact ⟨hb.1, pure_noRo h hb.1 hn hb.2.1, hb.2.2⟩
  | .nilp, v, X, hn, hb => by simp only [RepB] at hb ⊢; exact ⟨hb.1, pure_noRo h hb.1 hn hb.2.1, hb.2.2⟩
  | .hid i, v, X, hn, hb => by simp only [RepB] at hb ⊢; exact ⟨hb.1, pure_noRo h hb.1 hn hb.2.1, hb.2.2⟩
  | .fn f cs, v, X, hn, hb => by simp only [RepB] at hb ⊢; exact ⟨hb.1, pure_noRo h hb.1 hn hb.2.1, hb.2.2⟩
theorem RepBL.noRo {E E' : Env} (h : SameMem E E') : ∀ (cs : List AV) (vs : List Value) (X : List Nat), noRoL cs = true → RepBL E cs vs X → RepBL E' cs vs X
  | [], vs, X, _, hb => by simpa [RepBL] using hb
  | c :: cs, vs, X, hn, hb => by
    simp only [noRoL, Bool.and_eq_true] at hn
    simp only [RepBL] at hb ⊢
    obtain ⟨u, us, Y, Y', rfl, rfl, h1, h2⟩ := hb
    exact ⟨u, us, Y, Y', rfl, rfl, RepB.noRo h c u Y hn.1 h1, RepBL.noRo h cs us Y' hn.2 h2⟩
end
end Go.Proofs.YtelnlfhdaelfdaaDoor.Abs
end
