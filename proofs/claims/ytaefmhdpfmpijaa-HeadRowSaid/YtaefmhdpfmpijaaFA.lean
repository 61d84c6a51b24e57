/- An abstract domain for Go values and memory, what it means that a concrete value is such a one, and that this is kept while memory grows. -/
import Derived.WalkKit
import Derived.Laws.Rows
import Derived.Laws.Cells
import Derived.Test.YtaefmhdpfmpijaaTB
set_option linter.unusedVariables false
namespace Go.Proofs.Ytaefmhdpfmpijaa.Abs
open Go

/-- Abstract values. `own`, `ref` stand at the borders of calls alone; `sl`, `ptr` name blocks of the abstract heap. -/
inductive AV where
  | top
  | int (k : IntKind) (n : Int)
  | bool (b : Bool)
  | anyb
  | str (s : List Int)
  | agg (cs : List AV)
  | tuple (vs : List AV)
  | nil
  | ro (len : Nat) (cs : List AV)
  | own (len esz : Nat) (cs : List AV)
  | ref (cs : List AV)
  | sl (id off len esz : Nat) (full : Bool)
  | ptr (id off : Nat)
  | rop (cs : List AV)
  | nilp
  | hid (i : Nat)
  | fn (f : Fn) (caps : List AV)
  deriving Inhabited

/-- What a reading is relative to: the holes' values, the blocks' places, the blocks that read-only memory keeps clear of, the world. -/
structure Env where
  η : Nat → Value
  ρ : Nat → Option Nat
  V : Nat → Prop
  w : World

/-- Not a struct, an array or a tuple: it fits a cell. -/
def scalar : Value → Bool
  | .agg _ | .tuple _ => false
  | _ => true

def bytesOf (ba : ByteArray) : List Int := ba.data.toList.map (fun x => (x.toNat : Int))

mutual
def RepV (E : Env) : AV → Value → Prop
  | .top, _ => True
  | .int k n, v => v = .int k n
  | .bool b, v => v = .bool b
  | .anyb, v => ∃ b, v = .bool b
  | .str s, v => ∃ ba, v = .string ba ∧ bytesOf ba = s
  | .agg cs, v => ∃ vs : Array Value, v = .agg vs ∧ RepL E cs vs.toList
  | .tuple cs, v => ∃ vs : Array Value, v = .tuple vs ∧ RepL E cs vs.toList
  | .nil, v => v = .slice none 0 0
  | .ro len cs, v => ∃ a cap, v = .slice a len cap ∧ len ≤ cap ∧ (cs = [] ∨ ∃ b off, a = some ⟨b, off, none⟩ ∧ ¬ E.V b ∧ RepM E cs b off)
  | .own _ _ _, _ => False
  | .ref _, _ => False
  | .sl id off len esz full, v => ∃ a cap, v = .slice a len cap ∧ len ≤ cap ∧ (full = true → cap = len) ∧
      (cap = 0 ∨ ∃ n c e fr, E.ρ id = some n ∧ a = some ⟨n, off, none⟩ ∧ E.w.heap[n]? = some (.cells c e fr) ∧ off + cap * esz ≤ c.size)
  | .ptr id off, v => ∃ n, E.ρ id = some n ∧ v = .pointer (some ⟨n, off, none⟩)
  | .rop cs, v => ∃ b off, v = .pointer (some ⟨b, off, none⟩) ∧ (cs = [] ∨ ¬ E.V b ∧ RepM E cs b off)
  | .nilp, v => v = .pointer none
  | .hid i, v => v = E.η i
  | .fn f cs, v => ∃ vs : Array Value, v = .func f #[] vs ∧ RepL E cs vs.toList
def RepL (E : Env) : List AV → List Value → Prop
  | [], vs => vs = []
  | c :: cs, vs => ∃ u us, vs = u :: us ∧ RepV E c u ∧ RepL E cs us
def RepM (E : Env) : List AV → Nat → Nat → Prop
  | [], _, _ => True
  | c :: cs, b, off => (∃ u, E.w.cell? ⟨b, off, none⟩ = some u ∧ RepV E c u) ∧ RepM E cs b (off + 1)
end

/-- From w to w': blocks of W alone have changed, none has lost or won a cell; new ones may have come. -/
structure Evo (W : Nat → Prop) (w w' : World) : Prop where
  os : w'.os = w.os
  tape : w'.tape = w.tape
  output : w'.output = w.output
  size : w.heap.size ≤ w'.heap.size
  same : ∀ b, b < w.heap.size → ¬ W b → w'.heap[b]? = w.heap[b]?
  kept : ∀ (b : Nat) (c : Array Value) (e : TypeId) (fr : Nat × Nat), w.heap[b]? = some (.cells c e fr) → ∃ c' : Array Value, w'.heap[b]? = some (.cells c' e fr) ∧ c'.size = c.size

theorem Evo.refl (W : Nat → Prop) (w : World) : Evo W w w := ⟨rfl, rfl, rfl, Nat.le_refl _, fun _ _ _ => rfl, fun _ c _ _ h => ⟨c, h, rfl⟩⟩

theorem Evo.trans {W W' : Nat → Prop} {a b c : World} (h : Evo W a b) (k : Evo W' b c) (hw : ∀ x, x < a.heap.size → W' x → W x) : Evo W a c where
  os := k.os.trans h.os
  tape := k.tape.trans h.tape
  output := k.output.trans h.output
  size := Nat.le_trans h.size k.size
  same := fun x hx hn => (k.same x (Nat.lt_of_lt_of_le hx h.size) (fun hh => hn (hw x hx hh))).trans (h.same x hx hn)
  kept := fun x c e fr hc => by
    obtain ⟨c1, h1, s1⟩ := h.kept x c e fr hc
    obtain ⟨c2, h2, s2⟩ := k.kept x c1 e fr h1
    exact ⟨c2, h2, s2.trans s1⟩

theorem Evo.mono {W W' : Nat → Prop} {a b : World} (h : Evo W a b) (hw : ∀ x, W x → W' x) : Evo W' a b :=
  ⟨h.os, h.tape, h.output, h.size, fun x hx hn => h.same x hx (fun hh => hn (hw x hh)), h.kept⟩

theorem Evo.below {w w' : World} (h : Evo (fun _ => False) w w') : Go.RowKit.Below w.heap.size w w' :=
  ⟨h.os, h.tape, h.output, h.size, fun k hk => h.same k hk (fun x => x)⟩

theorem Evo.drawn (W : Nat → Prop) (w : World) (n : Nat) : Evo W w { w with drawn := n } :=
  ⟨rfl, rfl, rfl, Nat.le_refl _, fun _ _ _ => rfl, fun _ c _ _ h => ⟨c, h, rfl⟩⟩

theorem Evo.alloc (W : Nat → Prop) (w : World) (o : Obj) : Evo W w (w.alloc o) := by
  have key : ∀ b, b < w.heap.size → (w.alloc o).heap[b]? = w.heap[b]? := fun b hb => Go.heap_alloc_old w o hb
  refine ⟨rfl, rfl, rfl, by simp, fun b hb _ => key b hb, fun b c e fr h => ?_⟩
  have hb : b < w.heap.size := by
    rcases Nat.lt_or_ge b w.heap.size with h' | h'
    · exact h'
    · simp [Array.getElem?_eq_none h'] at h
  exact ⟨c, by rw [key b hb]; exact h, rfl⟩

theorem Evo.setCell (W : Nat → Prop) (w : World) (a : Addr) (v : Value) (ha : W a.block) : Evo W w (w.setCell a v) := by
  refine ⟨rfl, rfl, rfl, by simp, fun b hb hn => Go.heap_setCell_other w a b v (fun e => hn (e ▸ ha)), fun b c e fr h => ?_⟩
  by_cases hb : b = a.block
  · subst hb
    simp only [World.setCell, Array.getElem?_modify, if_true, h, Option.map_some]
    exact ⟨_, rfl, by split <;> simp⟩
  · exact ⟨c, by rw [heap_setCell_other w a b v hb]; exact h, rfl⟩

theorem cell_of_same {w w' : World} {a : Addr} (h : w'.heap[a.block]? = w.heap[a.block]?) : w'.cell? a = w.cell? a := by
  simp [World.cell?, h]

theorem lt_of_cells {w : World} {b : Nat} {c : Array Value} {e : TypeId} {fr : Nat × Nat} (h : w.heap[b]? = some (.cells c e fr)) : b < w.heap.size := by
  rcases Nat.lt_or_ge b w.heap.size with h' | h'
  · exact h'
  · simp [Array.getElem?_eq_none h'] at h

/-- E' is a later state than E. -/
structure Later (E E' : Env) : Prop where
  η : E'.η = E.η
  ρ : ∀ id n, E.ρ id = some n → E'.ρ id = some n
  lt : E.w.heap.size ≤ E'.w.heap.size
  kept : ∀ (b : Nat) (c : Array Value) (e : TypeId) (fr : Nat × Nat), E.w.heap[b]? = some (.cells c e fr) → ∃ c' : Array Value, E'.w.heap[b]? = some (.cells c' e fr) ∧ c'.size = c.size
  same : ∀ b, b < E.w.heap.size → ¬ E.V b → E'.w.heap[b]? = E.w.heap[b]?
  V : ∀ b, b < E.w.heap.size → E'.V b → E.V b

theorem Later.refl (E : Env) : Later E E := ⟨rfl, fun _ _ h => h, Nat.le_refl _, fun _ c _ _ h => ⟨c, h, rfl⟩, fun _ _ _ => rfl, fun _ _ h => h⟩

theorem Later.trans {A B C : Env} (h : Later A B) (k : Later B C) : Later A C where
  η := k.η.trans h.η
  ρ := fun id n hh => k.ρ id n (h.ρ id n hh)
  lt := Nat.le_trans h.lt k.lt
  kept := fun b c e fr hc => by
    obtain ⟨c1, h1, s1⟩ := h.kept b c e fr hc
    obtain ⟨c2, h2, s2⟩ := k.kept b c1 e fr h1
    exact ⟨c2, h2, s2.trans s1⟩
  same := fun b hb hn => (k.same b (Nat.lt_of_lt_of_le hb h.lt) (fun hh => hn (h.V b hb hh))).trans (h.same b hb hn)
  V := fun b hb hh => h.V b hb (k.V b (Nat.lt_of_lt_of_le hb h.lt) hh)

theorem Later.of_evo {E E' : Env} {W : Nat → Prop} (ev : Evo W E.w E'.w) (hη : E'.η = E.η) (hρ : ∀ id n, E.ρ id = some n → E'.ρ id = some n)
    (hW : ∀ b, W b → E.V b) (hV : ∀ b, b < E.w.heap.size → E'.V b → E.V b) : Later E E' :=
  ⟨hη, hρ, ev.size, ev.kept, fun b hb hn => ev.same b hb (fun h => hn (hW b h)), hV⟩

mutual
theorem RepV.later {E E' : Env} (L : Later E E') : ∀ (x : AV) (v : Value), RepV E x v → RepV E' x v
  | .top, _, _ => by simp [RepV]
  | .int k n, v, h => by simpa [RepV] using h
  | .bool b, v, h => by simpa [RepV] using h
  | .anyb, v, h => by simpa [RepV] using h
  | .str s, v, h => by simpa [RepV] using h
  | .agg cs, v, h => by
    simp only [RepV] at h ⊢
    obtain ⟨vs, rfl, hl⟩ := h
    exact ⟨vs, rfl, RepL.later L cs _ hl⟩
  | .tuple cs, v, h => by
    simp only [RepV] at h ⊢
    obtain ⟨vs, rfl, hl⟩ := h
    exact ⟨vs, rfl, RepL.later L cs _ hl⟩
  | .nil, v, h => by simpa [RepV] using h
  | .ro len cs, v, h => by
    simp only [RepV] at h ⊢
    obtain ⟨a, cap, rfl, hl, hc⟩ := h
    refine ⟨a, cap, rfl, hl, ?_⟩
    rcases hc with hc | ⟨b, off, rfl, hV, hm⟩
    · exact .inl hc
    · cases cs with
      | nil => exact .inl rfl
      | cons c cs =>
        have hb : b < E.w.heap.size := by
          simp only [RepM] at hm
          obtain ⟨⟨u, hu, _⟩, _⟩ := hm
          exact World.block_lt_of_cell? _ _ hu
        exact .inr ⟨b, off, rfl, fun hh => hV (L.V b hb hh), RepM.later L (c :: cs) b off hV hm⟩
  | .own _ _ _, _, h => by simp [RepV] at h
  | .ref _, _, h => by simp [RepV] at h
  | .sl id off len esz full, v, h => by
    simp only [RepV] at h ⊢
    obtain ⟨a, cap, rfl, hl, hf, hc⟩ := h
    refine ⟨a, cap, rfl, hl, hf, ?_⟩
    rcases hc with hc | ⟨n, c, e, fr, hn, ha, hh, hs⟩
    · exact .inl hc
    · obtain ⟨c', h1, h2⟩ := L.kept n c e fr hh
      exact .inr ⟨n, c', e, fr, L.ρ id n hn, ha, h1, by omega⟩
  | .ptr id off, v, h => by
    simp only [RepV] at h ⊢
    obtain ⟨n, hn, rfl⟩ := h
    exact ⟨n, L.ρ id n hn, rfl⟩
  | .rop cs, v, h => by
    simp only [RepV] at h ⊢
    obtain ⟨b, off, rfl, hc⟩ := h
    refine ⟨b, off, rfl, ?_⟩
    rcases hc with hc | ⟨hV, hm⟩
    · exact .inl hc
    · cases cs with
      | nil => exact .inl rfl
      | cons c cs =>
        have hb : b < E.w.heap.size := by
          simp only [RepM] at hm
          obtain ⟨⟨u, hu, _⟩, _⟩ := hm
          exact World.block_lt_of_cell? _ _ hu
        exact .inr ⟨fun hh => hV (L.V b hb hh), RepM.later L (c :: cs) b off hV hm⟩
  | .nilp, v, h => by simpa [RepV] using h
  | .hid i, v, h => by simpa [RepV, L.η] using h
  | .fn f cs, v, h => by
    simp only [RepV] at h ⊢
    obtain ⟨vs, rfl, hl⟩ := h
    exact ⟨vs, rfl, RepL.later L cs _ hl⟩
theorem RepL.later {E E' : Env} (L : Later E E') : ∀ (cs : List AV) (vs : List Value), RepL E cs vs → RepL E' cs vs
  | [], vs, h => by simpa [RepL] using h
  | c :: cs, vs, h => by
    simp only [RepL] at h ⊢
    obtain ⟨u, us, rfl, h1, h2⟩ := h
    exact ⟨u, us, rfl, RepV.later L c u h1, RepL.later L cs us h2⟩
theorem RepM.later {E E' : Env} (L : Later E E') : ∀ (cs : List AV) (b off : Nat), ¬ E.V b → RepM E cs b off → RepM E' cs b off
  | [], _, _, _, _ => by simp [RepM]
  | c :: cs, b, off, hV, h => by
    simp only [RepM] at h ⊢
    obtain ⟨⟨u, hu, hr⟩, h2⟩ := h
    have hb : b < E.w.heap.size := World.block_lt_of_cell? _ _ hu
    exact ⟨⟨u, (cell_of_same (a := ⟨b, off, none⟩) (L.same b hb hV)).trans hu, RepV.later L c u hr⟩, RepM.later L cs b (off + 1) hV h2⟩
end

/-- The tables are laid: nobody writes them. -/
def TabOk (E : Env) : Prop := ∀ g k l, tabs g = some (k, l) → g < E.w.heap.size ∧ ¬ E.V g ∧ ∀ (j : Nat) x, l[j]? = some x → E.w.cell? ⟨g, j, none⟩ = some (.int k x)

theorem TabOk.later {E E' : Env} (h : TabOk E) (L : Later E E') : TabOk E' := by
  intro g k l hg
  obtain ⟨h1, h2, h3⟩ := h g k l hg
  refine ⟨Nat.lt_of_lt_of_le h1 L.lt, fun hv => h2 (L.V g h1 hv), fun j x hx => ?_⟩
  rw [← h3 j x hx]
  exact cell_of_same (a := ⟨g, j, none⟩) (L.same g h1 h2)

theorem TabOk.same {E E' : Env} (h : TabOk E) (hw : E'.w = E.w) (hV : ∀ b, E'.V b → E.V b) : TabOk E' := by
  intro g k l hg
  obtain ⟨h1, h2, h3⟩ := h g k l hg
  rw [hw]
  exact ⟨h1, fun hv => h2 (hV g hv), h3⟩

theorem tab_repM {E : Env} {k : IntKind} {g : Nat} : ∀ (l : List Int) (off : Nat), (∀ (j : Nat) x, l[j]? = some x → E.w.cell? ⟨g, off + j, none⟩ = some (.int k x)) → RepM E (l.map (AV.int k)) g off
  | [], off, h => by simp [RepM]
  | x :: l, off, h => by
    simp only [List.map_cons, RepM]
    refine ⟨⟨_, by simpa using h 0 x (by simp), by simp [RepV]⟩, tab_repM l (off + 1) fun j y hy => ?_⟩
    have := h (j + 1) y (by simpa using hy)
    rw [show off + 1 + j = off + (j + 1) by omega]
    exact this

theorem TabOk.rop {E : Env} (h : TabOk E) {g : Nat} {k : IntKind} {l : List Int} (hg : tabs g = some (k, l)) : RepV E (.rop (l.map (AV.int k))) (.pointer (some ⟨g, 0, none⟩)) := by
  obtain ⟨h1, h2, h3⟩ := h g k l hg
  simp only [RepV]
  exact ⟨g, 0, rfl, .inr ⟨h2, tab_repM l 0 fun j x hx => by rw [Nat.zero_add]; exact h3 j x hx⟩⟩

end Go.Proofs.Ytaefmhdpfmpijaa.Abs
