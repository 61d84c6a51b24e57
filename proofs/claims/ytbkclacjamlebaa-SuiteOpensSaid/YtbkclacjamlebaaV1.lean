/- Texts TB to FH, merged. -/
import Derived.WalkKit
import Derived.Laws.Rows
import Derived.Laws.Cells
import Derived.Lib.Strings
import Derived.Laws.StructEq
import Derived.Laws.Strings
import Derived.Laws.Cover1
import Derived.Laws.Slices
set_option linter.unusedVariables false
set_option linter.unusedSimpArgs false
namespace Go.Proofs.Ytbkclacjamlebaa.Abs
open Go
section
def tabs : Nat → Option (IntKind × List Int) := fun _ => none
theorem noTabs (g : Nat) (k : IntKind) (l : List Int) : tabs g ≠ some (k, l) := by simp [tabs]
end
section

inductive AV where
 | top
 | int (k : IntKind) (n : Int)
 | bool (b : Bool)
 | anyb
 | str (s : List Int)
 | agg (cs : List AV)
 | tuple (vs : List AV)
 | nil
 | ro (len : Nat) (cs : List AV)
 | own (len esz : Nat) (cs : List AV)
 | ref (cs : List AV)
 | sl (id off len esz : Nat) (full : Bool)
 | ptr (id off : Nat)
 | rop (cs : List AV)
 | nilp
 | hid (i : Nat)
 | fn (f : Fn) (caps : List AV)
 deriving Inhabited
structure Env where
 η : Nat → Value
 ρ : Nat → Option Nat
 V : Nat → Prop
 w : World
def scalar : Value → Bool
 | .agg _ | .tuple _ => false
 | _ => true
def bytesOf (ba : ByteArray) : List Int := ba.data.toList.map (fun x => (x.toNat : Int))
mutual
def RepV (E : Env) : AV → Value → Prop
 | .top, _ => True
 | .int k n, v => v = .int k n
 | .bool b, v => v = .bool b
 | .anyb, v => ∃ b, v = .bool b
 | .str s, v => ∃ ba, v = .string ba ∧ bytesOf ba = s
 | .agg cs, v => ∃ vs : Array Value, v = .agg vs ∧ RepL E cs vs.toList
 | .tuple cs, v => ∃ vs : Array Value, v = .tuple vs ∧ RepL E cs vs.toList
 | .nil, v => v = .slice none 0 0
 | .ro len cs, v => ∃ a cap, v = .slice a len cap ∧ len ≤ cap ∧ (cs = [] ∨ ∃ b off, a = some ⟨b, off, none⟩ ∧ ¬ E.V b ∧ RepM E cs b off)
 | .own _ _ _, _ => False
 | .ref _, _ => False
 | .sl id off len esz full, v => ∃ a cap, v = .slice a len cap ∧ len ≤ cap ∧ (full = true → cap = len) ∧
   (cap = 0 ∨ ∃ n c e fr, E.ρ id = some n ∧ a = some ⟨n, off, none⟩ ∧ E.w.heap[n]? = some (.cells c e fr) ∧ off + cap * esz ≤ c.size)
 | .ptr id off, v => ∃ n, E.ρ id = some n ∧ v = .pointer (some ⟨n, off, none⟩)
 | .rop cs, v => ∃ b off, v = .pointer (some ⟨b, off, none⟩) ∧ (cs = [] ∨ ¬ E.V b ∧ RepM E cs b off)
 | .nilp, v => v = .pointer none
 | .hid i, v => v = E.η i
 | .fn f cs, v => ∃ vs : Array Value, v = .func f #[] vs ∧ RepL E cs vs.toList
def RepL (E : Env) : List AV → List Value → Prop
 | [], vs => vs = []
 | c :: cs, vs => ∃ u us, vs = u :: us ∧ RepV E c u ∧ RepL E cs us
def RepM (E : Env) : List AV → Nat → Nat → Prop
 | [], _, _ => True
 | c :: cs, b, off => (∃ u, E.w.cell? ⟨b, off, none⟩ = some u ∧ RepV E c u) ∧ RepM E cs b (off + 1)
end
structure Evo (W : Nat → Prop) (w w' : World) : Prop where
 os : w'.os = w.os
 tape : w'.tape = w.tape
 output : w'.output = w.output
 size : w.heap.size ≤ w'.heap.size
 same : ∀ b, b < w.heap.size → ¬ W b → w'.heap[b]? = w.heap[b]?
 kept : ∀ (b : Nat) (c : Array Value) (e : TypeId) (fr : Nat × Nat), w.heap[b]? = some (.cells c e fr) → ∃ (c' : Array Value) (fr' : Nat × Nat), w'.heap[b]? = some (.cells c' e fr') ∧ c'.size = c.size
theorem Evo.refl (W : Nat → Prop) (w : World) : Evo W w w := ⟨rfl, rfl, rfl, Nat.le_refl _, fun _ _ _ => rfl, fun _ c _ fr h => ⟨c, fr, h, rfl⟩⟩
theorem Evo.trans {W W' : Nat → Prop} {a b c : World} (h : Evo W a b) (k : Evo W' b c) (hw : ∀ x, x < a.heap.size → W' x → W x) : Evo W a c where
 os := k.os.trans h.os
 tape := k.tape.trans h.tape
 output := k.output.trans h.output
 size := Nat.le_trans h.size k.size
 same := fun x hx hn => (k.same x (Nat.lt_of_lt_of_le hx h.size) (fun hh => hn (hw x hx hh))).trans (h.same x hx hn)
 kept := fun x c e fr hc => by
  obtain ⟨c1, fr1, h1, s1⟩ := h.kept x c e fr hc
  obtain ⟨c2, fr2, h2, s2⟩ := k.kept x c1 e fr1 h1
  exact ⟨c2, fr2, h2, s2.trans s1⟩
theorem Evo.mono {W W' : Nat → Prop} {a b : World} (h : Evo W a b) (hw : ∀ x, W x → W' x) : Evo W' a b :=
 ⟨h.os, h.tape, h.output, h.size, fun x hx hn => h.same x hx (fun hh => hn (hw x hh)), h.kept⟩
theorem Evo.below {w w' : World} (h : Evo (fun _ => False) w w') : Go.RowKit.Below w.heap.size w w' :=
 ⟨h.os, h.tape, h.output, h.size, fun k hk => h.same k hk (fun x => x)⟩
theorem Evo.drawn (W : Nat → Prop) (w : World) (n : Nat) : Evo W w { w with drawn := n } :=
 ⟨rfl, rfl, rfl, Nat.le_refl _, fun _ _ _ => rfl, fun _ c _ fr h => ⟨c, fr, h, rfl⟩⟩
theorem Evo.alloc (W : Nat → Prop) (w : World) (o : Obj) : Evo W w (w.alloc o) := by
 have key : ∀ b, b < w.heap.size → (w.alloc o).heap[b]? = w.heap[b]? := fun b hb => Go.heap_alloc_old w o hb
 refine ⟨rfl, rfl, rfl, by simp, fun b hb _ => key b hb, fun b c e fr h => ?_⟩
 have hb : b < w.heap.size := by
  rcases Nat.lt_or_ge b w.heap.size with h' | h'
  ·exact h'
  ·simp [Array.getElem?_eq_none h'] at h
 exact ⟨c, fr, by rw [key b hb]; exact h, rfl⟩
theorem Evo.setCell (W : Nat → Prop) (w : World) (a : Addr) (v : Value) (ha : W a.block) : Evo W w (w.setCell a v) := by
 refine ⟨rfl, rfl, rfl, by simp, fun b hb hn => Go.heap_setCell_other w a b v (fun e => hn (e ▸ ha)), fun b c e fr h => ?_⟩
 by_cases hb : b = a.block
 ·subst hb
  simp only [World.setCell, Array.getElem?_modify, if_true, h, Option.map_some]
  exact ⟨_, _, rfl, by split <;> simp⟩
 ·exact ⟨c, fr, by rw [heap_setCell_other w a b v hb]; exact h, rfl⟩
theorem cell_of_same {w w' : World} {a : Addr} (h : w'.heap[a.block]? = w.heap[a.block]?) : w'.cell? a = w.cell? a := by
 simp [World.cell?, h]
theorem lt_of_cells {w : World} {b : Nat} {c : Array Value} {e : TypeId} {fr : Nat × Nat} (h : w.heap[b]? = some (.cells c e fr)) : b < w.heap.size := by
 rcases Nat.lt_or_ge b w.heap.size with h' | h'
 ·exact h'
 ·simp [Array.getElem?_eq_none h'] at h
structure Later (E E' : Env) : Prop where
 η : E'.η = E.η
 ρ : ∀ id n, E.ρ id = some n → E'.ρ id = some n
 lt : E.w.heap.size ≤ E'.w.heap.size
 kept : ∀ (b : Nat) (c : Array Value) (e : TypeId) (fr : Nat × Nat), E.w.heap[b]? = some (.cells c e fr) → ∃ (c' : Array Value) (fr' : Nat × Nat), E'.w.heap[b]? = some (.cells c' e fr') ∧ c'.size = c.size
 same : ∀ b, b < E.w.heap.size → ¬ E.V b → E'.w.heap[b]? = E.w.heap[b]?
 V : ∀ b, b < E.w.heap.size → E'.V b → E.V b
theorem Later.refl (E : Env) : Later E E := ⟨rfl, fun _ _ h => h, Nat.le_refl _, fun _ c _ fr h => ⟨c, fr, h, rfl⟩, fun _ _ _ => rfl, fun _ _ h => h⟩
theorem Later.trans {A B C : Env} (h : Later A B) (k : Later B C) : Later A C where
 η := k.η.trans h.η
 ρ := fun id n hh => k.ρ id n (h.ρ id n hh)
 lt := Nat.le_trans h.lt k.lt
 kept := fun b c e fr hc => by
  obtain ⟨c1, fr1, h1, s1⟩ := h.kept b c e fr hc
  obtain ⟨c2, fr2, h2, s2⟩ := k.kept b c1 e fr1 h1
  exact ⟨c2, fr2, h2, s2.trans s1⟩
 same := fun b hb hn => (k.same b (Nat.lt_of_lt_of_le hb h.lt) (fun hh => hn (h.V b hb hh))).trans (h.same b hb hn)
 V := fun b hb hh => h.V b hb (k.V b (Nat.lt_of_lt_of_le hb h.lt) hh)
theorem Later.of_evo {E E' : Env} {W : Nat → Prop} (ev : Evo W E.w E'.w) (hη : E'.η = E.η) (hρ : ∀ id n, E.ρ id = some n → E'.ρ id = some n)
  (hW : ∀ b, W b → E.V b) (hV : ∀ b, b < E.w.heap.size → E'.V b → E.V b) : Later E E' :=
 ⟨hη, hρ, ev.size, ev.kept, fun b hb hn => ev.same b hb (fun h => hn (hW b h)), hV⟩
mutual
theorem RepV.later {E E' : Env} (L : Later E E') : ∀ (x : AV) (v : Value), RepV E x v → RepV E' x v
 | .top, _, _ => by simp [RepV]
 | .int k n, v, h => by simpa [RepV] using h
 | .bool b, v, h => by simpa [RepV] using h
 | .anyb, v, h => by simpa [RepV] using h
 | .str s, v, h => by simpa [RepV] using h
 | .agg cs, v, h => by
  simp only [RepV] at h ⊢
  obtain ⟨vs, rfl, hl⟩ := h
  exact ⟨vs, rfl, RepL.later L cs _ hl⟩
 | .tuple cs, v, h => by
  simp only [RepV] at h ⊢
  obtain ⟨vs, rfl, hl⟩ := h
  exact ⟨vs, rfl, RepL.later L cs _ hl⟩
 | .nil, v, h => by simpa [RepV] using h
 | .ro len cs, v, h => by
  simp only [RepV] at h ⊢
  obtain ⟨a, cap, rfl, hl, hc⟩ := h
  refine ⟨a, cap, rfl, hl, ?_⟩
  rcases hc with hc | ⟨b, off, rfl, hV, hm⟩
  ·exact .inl hc
  ·cases cs with
   | nil => exact .inl rfl
   | cons c cs =>
    have hb : b < E.w.heap.size := by
     simp only [RepM] at hm
     obtain ⟨⟨u, hu, _⟩, _⟩ := hm
     exact World.block_lt_of_cell? _ _ hu
    exact .inr ⟨b, off, rfl, fun hh => hV (L.V b hb hh), RepM.later L (c :: cs) b off hV hm⟩
 | .own _ _ _, _, h => by simp [RepV] at h
 | .ref _, _, h => by simp [RepV] at h
 | .sl id off len esz full, v, h => by
  simp only [RepV] at h ⊢
  obtain ⟨a, cap, rfl, hl, hf, hc⟩ := h
  refine ⟨a, cap, rfl, hl, hf, ?_⟩
  rcases hc with hc | ⟨n, c, e, fr, hn, ha, hh, hs⟩
  ·exact .inl hc
  ·obtain ⟨c', fr', h1, h2⟩ := L.kept n c e fr hh
   exact .inr ⟨n, c', e, fr', L.ρ id n hn, ha, h1, by omega⟩
 | .ptr id off, v, h => by
  simp only [RepV] at h ⊢
  obtain ⟨n, hn, rfl⟩ := h
  exact ⟨n, L.ρ id n hn, rfl⟩
 | .rop cs, v, h => by
  simp only [RepV] at h ⊢
  obtain ⟨b, off, rfl, hc⟩ := h
  refine ⟨b, off, rfl, ?_⟩
  rcases hc with hc | ⟨hV, hm⟩
  ·exact .inl hc
  ·cases cs with
   | nil => exact .inl rfl
   | cons c cs =>
    have hb : b < E.w.heap.size := by
     simp only [RepM] at hm
     obtain ⟨⟨u, hu, _⟩, _⟩ := hm
     exact World.block_lt_of_cell? _ _ hu
    exact .inr ⟨fun hh => hV (L.V b hb hh), RepM.later L (c :: cs) b off hV hm⟩
 | .nilp, v, h => by simpa [RepV] using h
 | .hid i, v, h => by simpa [RepV, L.η] using h
 | .fn f cs, v, h => by
  simp only [RepV] at h ⊢
  obtain ⟨vs, rfl, hl⟩ := h
  exact ⟨vs, rfl, RepL.later L cs _ hl⟩
theorem RepL.later {E E' : Env} (L : Later E E') : ∀ (cs : List AV) (vs : List Value), RepL E cs vs → RepL E' cs vs
 | [], vs, h => by simpa [RepL] using h
 | c :: cs, vs, h => by
  simp only [RepL] at h ⊢
  obtain ⟨u, us, rfl, h1, h2⟩ := h
  exact ⟨u, us, rfl, RepV.later L c u h1, RepL.later L cs us h2⟩
theorem RepM.later {E E' : Env} (L : Later E E') : ∀ (cs : List AV) (b off : Nat), ¬ E.V b → RepM E cs b off → RepM E' cs b off
 | [], _, _, _, _ => by simp [RepM]
 | c :: cs, b, off, hV, h => by
  simp only [RepM] at h ⊢
  obtain ⟨⟨u, hu, hr⟩, h2⟩ := h
  have hb : b < E.w.heap.size := World.block_lt_of_cell? _ _ hu
  exact ⟨⟨u, (cell_of_same (a := ⟨b, off, none⟩) (L.same b hb hV)).trans hu, RepV.later L c u hr⟩, RepM.later L cs b (off + 1) hV h2⟩
end
def TabOk (E : Env) : Prop := ∀ g k l, tabs g = some (k, l) → g < E.w.heap.size ∧ ¬ E.V g ∧ ∀ (j : Nat) x, l[j]? = some x → E.w.cell? ⟨g, j, none⟩ = some (.int k x)
theorem TabOk.later {E E' : Env} (h : TabOk E) (L : Later E E') : TabOk E' := by
 intro g k l hg
 obtain ⟨h1, h2, h3⟩ := h g k l hg
 refine ⟨Nat.lt_of_lt_of_le h1 L.lt, fun hv => h2 (L.V g h1 hv), fun j x hx => ?_⟩
 rw [← h3 j x hx]
 exact cell_of_same (a := ⟨g, j, none⟩) (L.same g h1 h2)
theorem TabOk.same {E E' : Env} (h : TabOk E) (hw : E'.w = E.w) (hV : ∀ b, E'.V b → E.V b) : TabOk E' := by
 intro g k l hg
 obtain ⟨h1, h2, h3⟩ := h g k l hg
 rw [hw]
 exact ⟨h1, fun hv => h2 (hV g hv), h3⟩
theorem tab_repM {E : Env} {k : IntKind} {g : Nat} : ∀ (l : List Int) (off : Nat), (∀ (j : Nat) x, l[j]? = some x → E.w.cell? ⟨g, off + j, none⟩ = some (.int k x)) → RepM E (l.map (AV.int k)) g off
 | [], off, h => by simp [RepM]
 | x :: l, off, h => by
  simp only [List.map_cons, RepM]
  refine ⟨⟨_, by simpa using h 0 x (by simp), by simp [RepV]⟩, tab_repM l (off + 1) fun j y hy => ?_⟩
  have := h (j + 1) y (by simpa using hy)
  rw [show off + 1 + j = off + (j + 1) by omega]
  exact this
theorem TabOk.rop {E : Env} (h : TabOk E) {g : Nat} {k : IntKind} {l : List Int} (hg : tabs g = some (k, l)) : RepV E (.rop (l.map (AV.int k))) (.pointer (some ⟨g, 0, none⟩)) := by
 obtain ⟨h1, h2, h3⟩ := h g k l hg
 simp only [RepV]
 exact ⟨g, 0, rfl, .inr ⟨h2, tab_repM l 0 fun j x hx => by rw [Nat.zero_add]; exact h3 j x hx⟩⟩
end
section

abbrev Heap := Nat → Option (List AV)
def setH (H : Heap) (id : Nat) (b : Option (List AV)) : Heap := fun i => cond (Nat.beq i id) b (H i)
structure St where
 env : Nat → AV
 heap : Heap
 nx : Nat
 n : Nat
def setE (env : Nat → AV) (d : Nat) (x : AV) : Nat → AV := fun t => cond (Nat.beq t d) x (env t)
def Wr (ρ : Nat → Option Nat) (H : Heap) (b : Nat) : Prop := ∃ id cs, H id = some cs ∧ ρ id = some b
def BlkOk (E : Env) (n : Nat) (cs : List AV) : Prop :=
 ∃ (c : Array Value) (e : TypeId) (fr : Nat × Nat), E.w.heap[n]? = some (.cells c e fr) ∧ (∀ j, j < c.size → ¬ (fr.1 ≤ j ∧ j < fr.2)) ∧ cs.length ≤ c.size ∧
  ∀ (j : Nat) x, cs[j]? = some x → ∃ u, c[j]? = some u ∧ RepV E x u
structure HeapRep (Z : Nat → Prop) (E : Env) (H : Heap) (nx : Nat) : Prop where
 blk : ∀ id cs, H id = some cs → (E.ρ id = none ∧ cs = []) ∨ ∃ n, E.ρ id = some n ∧ BlkOk E n cs
 inj : ∀ id id' n, H id ≠ none → H id' ≠ none → E.ρ id = some n → E.ρ id' = some n → id = id'
 V : ∀ b, E.V b ↔ Z b ∨ Wr E.ρ H b
 apart : ∀ id n, H id ≠ none → E.ρ id = some n → ¬ Z n
 fresh : ∀ id, nx ≤ id → E.ρ id = none ∧ H id = none
 one : ∀ i, scalar (E.η i) = true
 old : ∀ id n, E.ρ id = some n → n < E.w.heap.size
 zold : ∀ b, Z b → b < E.w.heap.size
 tab : TabOk E
structure Sim (Z : Nat → Prop) (E : Env) (st : St) (a : Act) : Prop where
 env : ∀ t, RepV E (st.env t) (a.tmps.getD t undef)
 sz : a.tmps.size = st.n
 dfr : a.defers = []
 heap : HeapRep Z E st.heap st.nx
structure After (Z : Nat → Prop) (E : Env) (H : Heap) (x : AV) (H' : Heap) (nx' : Nat) (v : Value) (E' : Env) : Prop where
 later : Later E E'
 evo : Evo (Wr E.ρ H) E.w E'.w
 rep : RepV E' x v
 heap : HeapRep Z E' H' nx'
theorem setE_same (env : Nat → AV) (d : Nat) (x : AV) : setE env d x d = x := by simp [setE]
theorem setE_ne (env : Nat → AV) {d t : Nat} (x : AV) (h : t ≠ d) : setE env d x t = env t := by
 have : Nat.beq t d = false := by
  cases hh : Nat.beq t d
  ·rfl
  ·exact absurd (Nat.eq_of_beq_eq_true hh) h
 simp [setE, this]
theorem setH_same (H : Heap) (d : Nat) (x : Option (List AV)) : setH H d x d = x := by simp [setH]
theorem setH_ne (H : Heap) {d t : Nat} (x : Option (List AV)) (h : t ≠ d) : setH H d x t = H t := by
 have : Nat.beq t d = false := by
  cases hh : Nat.beq t d
  ·rfl
  ·exact absurd (Nat.eq_of_beq_eq_true hh) h
 simp [setH, this]
theorem Sim.put {Z : Nat → Prop} {E : Env} {st : St} {a : Act} (S : Sim Z E st a) {d : Nat} {x : AV} {v : Value} (hd : d < st.n) (hr : RepV E x v) :
  Sim Z E { st with env := setE st.env d x } (a.put (some d) v) where
 env := fun t => by
  by_cases h : t = d
  ·subst h
   simp only [setE_same, Act.put]
   have : t < a.tmps.size := by rw [S.sz]; exact hd
   simpa [this] using hr
  ·simp only [setE_ne _ _ h, Act.put]
   have := S.env t
   rwa [Array.getD_eq_getD_getElem?, Array.getElem?_setIfInBounds_ne (Ne.symm h), ← Array.getD_eq_getD_getElem?]
 sz := by simp [Act.put, S.sz]
 dfr := by simp [Act.put, S.dfr]
 heap := S.heap
theorem Sim.next {Z : Nat → Prop} {E E' : Env} {st : St} {a : Act} (S : Sim Z E st a) {d : Nat} {x : AV} {H' : Heap} {nx' : Nat} {v : Value}
  (hd : d < st.n) (A : After Z E st.heap x H' nx' v E') : Sim Z E' { st with env := setE st.env d x, heap := H', nx := nx' } (a.put (some d) v) := by
 have S' : Sim Z E' { st with heap := H', nx := nx' } a := ⟨fun t => RepV.later A.later _ _ (S.env t), S.sz, S.dfr, A.heap⟩
 exact S'.put hd A.rep
theorem Sim.next' {Z : Nat → Prop} {E E' : Env} {st : St} {a : Act} (S : Sim Z E st a) {x : AV} {H' : Heap} {nx' : Nat} {v : Value}
  (A : After Z E st.heap x H' nx' v E') : Sim Z E' { st with heap := H', nx := nx' } (a.put none v) :=
 ⟨fun t => RepV.later A.later _ _ (S.env t), S.sz, S.dfr, A.heap⟩
theorem After.pure {Z : Nat → Prop} {E : Env} {H : Heap} {nx : Nat} {x : AV} {v : Value} (h : HeapRep Z E H nx) (hr : RepV E x v) : After Z E H x H nx v E :=
 ⟨Later.refl E, Evo.refl _ _, hr, h⟩
theorem wr_V {Z : Nat → Prop} {E : Env} {H : Heap} {nx : Nat} (h : HeapRep Z E H nx) : ∀ b, Wr E.ρ H b → E.V b := fun b hb => (h.V b).2 (.inr hb)
theorem HeapRep.blk_later {Z : Nat → Prop} {E E' : Env} {H : Heap} {nx : Nat} (h : HeapRep Z E H nx) (L : Later E E') {id : Nat} {cs : List AV} {n : Nat}
  (hn : E.ρ id = some n) (hb : BlkOk E n cs) (same : E'.w.heap[n]? = E.w.heap[n]?) : BlkOk E' n cs := by
 obtain ⟨c, e, fr, h1, h2, h3, h4⟩ := hb
 exact ⟨c, e, fr, same.trans h1, h2, h3, fun j x hx => let ⟨u, hu, hr⟩ := h4 j x hx; ⟨u, hu, RepV.later L x u hr⟩⟩
def Env.drawn (E : Env) (n : Nat) : Env := { E with w := { E.w with drawn := n } }
theorem later_drawn (E : Env) (n : Nat) : Later E (E.drawn n) :=
 ⟨rfl, fun _ _ h => h, Nat.le_refl _, fun _ c _ fr h => ⟨c, fr, h, rfl⟩, fun _ _ _ => rfl, fun _ _ h => h⟩
theorem HeapRep.drawn {Z : Nat → Prop} {E : Env} {H : Heap} {nx : Nat} (h : HeapRep Z E H nx) (n : Nat) : HeapRep Z (E.drawn n) H nx where
 blk := fun id cs hh => by
  rcases h.blk id cs hh with h0 | ⟨m, hm, hb⟩
  ·exact .inl h0
  ·exact .inr ⟨m, hm, h.blk_later (later_drawn E n) hm hb rfl⟩
 inj := h.inj
 V := h.V
 apart := h.apart
 fresh := h.fresh
 one := h.one
 old := h.old
 zold := h.zold
 tab := h.tab.later (later_drawn E n)
theorem Sim.drawn {Z : Nat → Prop} {E : Env} {st : St} {a : Act} (S : Sim Z E st a) (n : Nat) : Sim Z (E.drawn n) st a :=
 ⟨fun t => RepV.later (later_drawn E n) _ _ (S.env t), S.sz, S.dfr, S.heap.drawn n⟩
def Env.alloc (E : Env) (id : Nat) (o : Obj) : Env :=
 { E with ρ := fun i => cond (Nat.beq i id) (some E.w.heap.size) (E.ρ i), V := fun b => E.V b ∨ b = E.w.heap.size, w := E.w.alloc o }
theorem alloc_ρ_same (E : Env) (id : Nat) (o : Obj) : (E.alloc id o).ρ id = some E.w.heap.size := by simp [Env.alloc]
theorem alloc_ρ_ne (E : Env) {id i : Nat} (o : Obj) (h : i ≠ id) : (E.alloc id o).ρ i = E.ρ i := by
 have : Nat.beq i id = false := by
  cases hh : Nat.beq i id
  ·rfl
  ·exact absurd (Nat.eq_of_beq_eq_true hh) h
 simp [Env.alloc, this]
theorem later_alloc (E : Env) {id : Nat} (o : Obj) (hid : E.ρ id = none) : Later E (E.alloc id o) := by
 refine ⟨rfl, fun i n h => ?_, by simp [Env.alloc], fun b c e fr h => ?_, fun b hb _ => ?_, fun b hb h => ?_⟩
 ·have : i ≠ id := fun e => by rw [e, hid] at h; cases h
  rw [alloc_ρ_ne E o this]; exact h
 ·exact ⟨c, fr, by rw [← h]; exact Go.heap_alloc_old _ _ (lt_of_cells h), rfl⟩
 ·exact Go.heap_alloc_old _ _ hb
 ·rcases h with h | h
  ·exact h
  ·omega
theorem wr_setH_new {E : Env} {H : Heap} {id : Nat} {o : Obj} {cs : List AV} (hid : E.ρ id = none) (b : Nat) :
  Wr (E.alloc id o).ρ (setH H id (some cs)) b ↔ Wr E.ρ H b ∨ b = E.w.heap.size := by
 constructor
 ·rintro ⟨i, ds, h1, h2⟩
  by_cases hi : i = id
  ·subst hi
   rw [alloc_ρ_same] at h2
   exact .inr (by injection h2 with h2; exact h2.symm)
  ·rw [setH_ne _ _ hi] at h1
   rw [alloc_ρ_ne _ _ hi] at h2
   exact .inl ⟨i, ds, h1, h2⟩
 ·rintro (⟨i, ds, h1, h2⟩ | h)
  ·have hi : i ≠ id := fun e => by rw [e, hid] at h2; cases h2
   exact ⟨i, ds, by rw [setH_ne _ _ hi]; exact h1, by rw [alloc_ρ_ne _ _ hi]; exact h2⟩
  ·exact ⟨id, cs, setH_same _ _ _, by rw [alloc_ρ_same, h]⟩
theorem HeapRep.alloc {Z : Nat → Prop} {E : Env} {H : Heap} {nx : Nat} (h : HeapRep Z E H nx) (c : Array Value) (e : TypeId) (fr : Nat × Nat) (cs : List AV)
  (hfr : ∀ j, j < c.size → ¬ (fr.1 ≤ j ∧ j < fr.2)) (hl : cs.length ≤ c.size) (hc : ∀ (j : Nat) x, cs[j]? = some x → ∃ u, c[j]? = some u ∧ RepV E x u) :
  HeapRep Z (E.alloc nx (.cells c e fr)) (setH H nx (some cs)) (nx + 1) := by
 have hid : E.ρ nx = none := (h.fresh nx (Nat.le_refl _)).1
 have L := later_alloc E (.cells c e fr) hid
 refine ⟨fun id ds hh => ?_, fun id id' n h1 h2 h3 h4 => ?_, fun b => ?_, fun id n h1 h2 hz => ?_, fun id hh => ?_, h.one, fun id n hn => ?_, fun b hz => ?_, h.tab.later L⟩
 ·by_cases hi : id = nx
  ·subst hi
   rw [setH_same] at hh
   obtain rfl : cs = ds := by injection hh
   exact .inr ⟨_, alloc_ρ_same _ _ _, c, e, fr, Go.heap_alloc_new _ _, hfr, hl, fun j x hx => let ⟨u, hu, hr⟩ := hc j x hx; ⟨u, hu, RepV.later L x u hr⟩⟩
  ·rw [setH_ne _ _ hi] at hh
   rcases h.blk id ds hh with ⟨h0, h1⟩ | ⟨m, hm, hb⟩
   ·exact .inl ⟨by rw [alloc_ρ_ne _ _ hi]; exact h0, h1⟩
   ·exact .inr ⟨m, by rw [alloc_ρ_ne _ _ hi]; exact hm, h.blk_later L hm hb (Go.heap_alloc_old _ _ (h.old id m hm))⟩
 ·by_cases hi : id = nx <;> by_cases hi' : id' = nx
  ·rw [hi, hi']
  ·subst hi
   rw [alloc_ρ_same] at h3
   rw [alloc_ρ_ne _ _ hi'] at h4
   have := h.old _ _ h4
   injection h3 with h3
   omega
  ·subst hi'
   rw [alloc_ρ_same] at h4
   rw [alloc_ρ_ne _ _ hi] at h3
   have := h.old _ _ h3
   injection h4 with h4
   omega
  ·rw [alloc_ρ_ne _ _ hi] at h3
   rw [alloc_ρ_ne _ _ hi'] at h4
   rw [setH_ne _ _ hi] at h1
   rw [setH_ne _ _ hi'] at h2
   exact h.inj id id' n h1 h2 h3 h4
 ·show E.V b ∨ b = E.w.heap.size ↔ _
  rw [wr_setH_new hid, h.V b, or_assoc]
 ·by_cases hi : id = nx
  ·subst hi
   rw [alloc_ρ_same] at h2
   have := h.zold n hz
   injection h2 with h2
   omega
  ·rw [setH_ne _ _ hi] at h1
   rw [alloc_ρ_ne _ _ hi] at h2
   exact h.apart id n h1 h2 hz
 ·have hi : id ≠ nx := by omega
  rw [setH_ne _ _ hi, alloc_ρ_ne _ _ hi]
  exact h.fresh id (by omega)
 ·show n < (E.w.alloc _).heap.size
  rw [World.size_alloc]
  by_cases hi : id = nx
  ·subst hi
   rw [alloc_ρ_same] at hn
   injection hn with hn
   omega
  ·rw [alloc_ρ_ne _ _ hi] at hn
   have := h.old id n hn
   omega
 ·show b < (E.w.alloc _).heap.size
  rw [World.size_alloc]
  have := h.zold b hz
  omega
theorem frozen_false {w : World} {n j : Nat} {c : Array Value} {e : TypeId} {fr : Nat × Nat} (h : w.heap[n]? = some (.cells c e fr)) (hf : ¬ (fr.1 ≤ j ∧ j < fr.2)) :
  w.frozen? ⟨n, j, none⟩ = false := by
 obtain ⟨lo, hi⟩ := fr
 simp only [World.frozen?, h]
 simp only at hf
 cases hh : (decide (lo ≤ j) && decide (j < hi)) with
 | false => rfl
 | true => simp at hh; exact absurd hh hf
def Env.store (E : Env) (a : Addr) (v : Value) : Env := { E with w := E.w.setCell a v }
theorem later_store {Z : Nat → Prop} {E : Env} {H : Heap} {nx : Nat} (h : HeapRep Z E H nx) {id n : Nat} (j : Nat) (v : Value) (hi : H id ≠ none) (hn : E.ρ id = some n) :
  Later E (E.store ⟨n, j, none⟩ v) := by
 have hw : Wr E.ρ H n := by
  cases hh : H id with
  | none => exact absurd hh hi
  | some cs => exact ⟨id, cs, hh, hn⟩
 have ev : Evo (Wr E.ρ H) E.w (E.store ⟨n, j, none⟩ v).w := Evo.setCell _ _ _ _ hw
 exact Later.of_evo ev rfl (fun _ _ h => h) (wr_V h) (fun _ _ h => h)
theorem HeapRep.store {Z : Nat → Prop} {E : Env} {H : Heap} {nx : Nat} (h : HeapRep Z E H nx) {id n j : Nat} {cs : List AV} {x : AV} {v : Value}
  (hi : H id = some cs) (hn : E.ρ id = some n) (hj : j < cs.length) (hr : RepV E x v) :
  HeapRep Z (E.store ⟨n, j, none⟩ v) (setH H id (some (cs.set j x))) nx := by
 have hne : H id ≠ none := by rw [hi]; simp
 have L := later_store h j v hne hn
 have hrw : ∀ i, (setH H id (some (cs.set j x)) i ≠ none) ↔ H i ≠ none := by
  intro i
  by_cases hh : i = id
  ·subst hh; simp [setH_same, hi]
  ·rw [setH_ne _ _ hh]
 have hwr : ∀ b, Wr E.ρ (setH H id (some (cs.set j x))) b ↔ Wr E.ρ H b := by
  intro b
  constructor
  ·rintro ⟨i, ds, h1, h2⟩
   have := (hrw i).1 (by rw [h1]; simp)
   cases hh : H i with
   | none => exact absurd hh this
   | some es => exact ⟨i, es, hh, h2⟩
  ·rintro ⟨i, ds, h1, h2⟩
   have := (hrw i).2 (by rw [h1]; simp)
   cases hh : setH H id (some (cs.set j x)) i with
   | none => exact absurd hh this
   | some es => exact ⟨i, es, hh, h2⟩
 refine ⟨fun i ds hh => ?_, fun i i' m h1 h2 h3 h4 => h.inj i i' m ((hrw i).1 h1) ((hrw i').1 h2) h3 h4, fun b => by show E.V b ↔ Z b ∨ Wr E.ρ _ b; rw [hwr]; exact h.V b,
  fun i m h1 h2 => h.apart i m ((hrw i).1 h1) h2, fun i hh => ?_, h.one, fun i m hm => by show m < (E.w.setCell _ _).heap.size; rw [World.size_setCell]; exact h.old i m hm,
  fun b hb => by show b < (E.w.setCell _ _).heap.size; rw [World.size_setCell]; exact h.zold b hb, h.tab.later L⟩
 ·by_cases hid : i = id
  ·subst hid
   rw [setH_same] at hh
   obtain rfl : cs.set j x = ds := by injection hh
   rcases h.blk i cs hi with ⟨h0, _⟩ | ⟨m, hm, c, e, fr, h1, h2, h3, h4⟩
   ·rw [hn] at h0; cases h0
   ·obtain rfl : n = m := by rw [hn] at hm; injection hm
    refine .inr ⟨n, hn, c.setIfInBounds j v, e, fr, ?_, ?_, ?_, ?_⟩
    ·show (E.w.setCell ⟨n, j, none⟩ v).heap[n]? = _
     simp [World.setCell, Array.getElem?_modify, h1]
    ·intro k hk; exact h2 k (by simpa using hk)
    ·simpa using h3
    ·intro k y hy
     by_cases hk : k = j
     ·subst hk
      have : k < c.size := by omega
      refine ⟨v, by simp [this], ?_⟩
      rw [List.getElem?_set_self hj] at hy
      injection hy with hy
      subst hy
      exact RepV.later L _ _ hr
     ·rw [List.getElem?_set_ne (Ne.symm hk)] at hy
      obtain ⟨u, hu, hr'⟩ := h4 k y hy
      exact ⟨u, by rw [Array.getElem?_setIfInBounds_ne (Ne.symm hk)]; exact hu, RepV.later L _ _ hr'⟩
  ·rw [setH_ne _ _ hid] at hh
   rcases h.blk i ds hh with h0 | ⟨m, hm, hb⟩
   ·exact .inl h0
   ·refine .inr ⟨m, hm, h.blk_later L hm hb ?_⟩
    have hmn : m ≠ n := fun e => hid (h.inj i id n (by rw [hh]; simp) hne (e ▸ hm) hn)
    exact Go.heap_setCell_other E.w ⟨n, j, none⟩ m v hmn
 ·have := h.fresh i hh
  refine ⟨this.1, ?_⟩
  have hne' : i ≠ id := fun e => by rw [e] at this; rw [hi] at this; simp at this
  rw [setH_ne _ _ hne']; exact this.2
end
section

inductive TD where
 | int (k : IntKind) | bool | str
 | slice (e : TypeId) | arr (n : Nat) (e : TypeId) | struct (fs : List (Nat × TypeId)) | ptr (e : TypeId)
 | other
structure Seg where
 o : Nat
 s : Nat
 cs : List AV
def SegsOk (E : Env) (segs : List Seg) (cells : Array Value) : Prop :=
 ∀ g ∈ segs, g.cs.length = g.s ∧ g.o + g.s ≤ cells.size ∧ ∀ (j : Nat) x, g.cs[j]? = some x → ∃ u, cells[g.o + j]? = some u ∧ RepV E x u
def tile : Nat → List Seg → Bool
 | _, [] => true
 | k, g :: r => Nat.beq k g.o && tile (k + g.s) r
structure TI where
 d : TD
 size : Nat
 bytes : Nat
 zero : AV
 segs : List Seg
abbrev Types := TypeId → Option TI
def TD.of : TD → TypeDesc → Prop
 | .int k, d => d = .int k
 | .bool, d => d = .bool
 | .str, d => d = .string
 | .slice e, d => d = .slice e
 | .arr n e, d => d = .array n e
 | .struct fs, d => ∃ a, d = .struct a ∧ a.toList.map (fun f => (f.offset, f.type)) = fs
 | .ptr e, d => d = .pointer e
 | .other, d => True
def TD.agg : TD → Bool
 | .arr _ _ | .struct _ => true
 | _ => false
def TDesc.isAgg : TypeDesc → Bool
 | .struct _ | .array _ _ => true
 | _ => false
structure TIok (P : Program) (t : TypeId) (i : TI) : Prop where
 und : ∃ d, P.underlying t = some d ∧ i.d.of d ∧ TDesc.isAgg d = i.d.agg
 info : ∃ f, P.info? t = some f ∧ f.size = i.size ∧ f.bytes = i.bytes ∧ ∃ z, f.zero = some z ∧ z.cells.size = i.size ∧ (i.zero = .top ∨ ∀ E, RepV E i.zero z) ∧
  (i.segs = [] ∨ (tile 0 i.segs = true ∧ (i.segs.map (·.s)).sum = z.cells.size ∧ (∀ E, SegsOk E i.segs z.cells) ∧
   match i.d with
   | .struct fs => i.segs.length = fs.length ∧ ∀ (k : Nat) (g : Seg), i.segs[k]? = some g → ∃ ft ff, fs[k]? = some (g.o, ft) ∧ P.info? ft = some ff ∧ ff.size = g.s
   | .arr _ e => ∃ fe, P.info? e = some fe ∧ ∀ (k : Nat) (g : Seg), i.segs[k]? = some g → g.o = k * fe.size ∧ g.s = fe.size
   | _ => False))
def TOK (P : Program) (T : Types) : Prop := ∀ t i, T t = some i → TIok P t i
def avS : Value → AV
 | .int k n => .int k n
 | .bool b => .bool b
 | .string s => .str (bytesOf s)
 | .slice none 0 0 => .nil
 | .pointer none => .nilp
 | _ => .top
def avC : Value → AV
 | .agg cs => .agg (cs.toList.map avS)
 | v => avS v
def evalO (env : Nat → AV) : Operand → AV
 | .tmp t => env t
 | .const v => avC v
 | .func f => .fn (.func f) []
 | .global g => match tabs g with
  | some (k, l) => .rop (l.map (AV.int k))
  | none => .top
theorem rep_avS (E : Env) (v : Value) : RepV E (avS v) v := by
 unfold avS
 split <;> simp [RepV]
theorem rep_map_avS (E : Env) : ∀ l : List Value, RepL E (l.map avS) l
 | [] => by simp [RepL]
 | v :: l => by simp only [List.map_cons, RepL]; exact ⟨v, l, rfl, rep_avS E v, rep_map_avS E l⟩
theorem rep_avC (E : Env) (v : Value) : RepV E (avC v) v := by
 unfold avC
 split
 ·simp only [RepV]; exact ⟨_, rfl, rep_map_avS E _⟩
 ·exact rep_avS E _
theorem rep_evalO {Z : Nat → Prop} {E : Env} {st : St} {a : Act} (S : Sim Z E st a) (x : Operand) : RepV E (evalO st.env x) (a.eval x) := by
 cases x with
 | tmp t => exact S.env t
 | const v => exact rep_avC E v
 | global g =>
  simp only [evalO]
  split
  ·rename_i k l hg
   exact S.heap.tab.rop hg
  ·simp [RepV]
 | func f => simp [evalO, RepV, Act.eval, RepL]
def force (x : AV) (K : AV → Prop) : Prop :=
 match x with
 | .top => K .top
 | .int k n => K (.int k n)
 | .bool b => K (.bool b)
 | .anyb => K .anyb
 | .str s => K (.str s)
 | .agg cs => K (.agg cs)
 | .tuple cs => K (.tuple cs)
 | .nil => K .nil
 | .ro len cs => K (.ro len cs)
 | .own len esz cs => K (.own len esz cs)
 | .ref cs => K (.ref cs)
 | .sl id off len esz full => K (.sl id off len esz full)
 | .ptr id off => K (.ptr id off)
 | .rop cs => K (.rop cs)
 | .nilp => K .nilp
 | .hid i => K (.hid i)
 | .fn f caps => K (.fn f caps)
theorem force_eq (x : AV) (K : AV → Prop) : force x K = K x := by cases x <;> rfl
def forceL (xs : List AV) (K : List AV → Prop) : Prop :=
 match xs with
 | [] => K []
 | x :: r => force x fun x' => forceL r fun r' => K (x' :: r')
theorem forceL_eq : ∀ (xs : List AV) (K : List AV → Prop), forceL xs K = K xs
 | [], _ => rfl
 | x :: r, K => by simp only [forceL, force_eq, forceL_eq r]
def forceSz (n : Nat) (K : Nat → Prop) : Prop :=
 cond (Nat.beq n 1) (K 1) (cond (Nat.beq n 2) (K 2) (cond (Nat.beq n 3) (K 3) (cond (Nat.beq n 4) (K 4) (K n))))
theorem forceSz_eq (n : Nat) (K : Nat → Prop) : forceSz n K = K n := by
 unfold forceSz
 cases h1 : Nat.beq n 1
 ·cases h2 : Nat.beq n 2
  ·cases h3 : Nat.beq n 3
   ·cases h4 : Nat.beq n 4
    ·rfl
    ·rw [Nat.eq_of_beq_eq_true h4]; rfl
   ·rw [Nat.eq_of_beq_eq_true h3]; rfl
  ·rw [Nat.eq_of_beq_eq_true h2]; rfl
 ·rw [Nat.eq_of_beq_eq_true h1]; rfl
def ifB (b : Bool) (A B : Prop) : Prop := (b = true → A) ∧ (b = false → B)
theorem ifB_t {A B : Prop} (h : A) : ifB true A B := ⟨fun _ => h, (nofun)⟩
theorem ifB_f {A B : Prop} (h : B) : ifB false A B := ⟨(nofun), fun _ => h⟩
def fitP (k : IntKind) (n : Int) (K : Int → Prop) : Prop := (k.wrap n = n ∧ K n) ∨ K (k.wrap n)
def IntKind.lo : IntKind → Int
 | .i8 => -128 | .i16 => -32768 | .i32 => -2147483648 | .i64 => -9223372036854775808
 | _ => 0
def IntKind.hi : IntKind → Int
 | .i8 => 127 | .i16 => 32767 | .i32 => 2147483647 | .i64 => 9223372036854775807
 | .u8 => 255 | .u16 => 65535 | .u32 => 4294967295 | .u64 => 18446744073709551615
theorem wrap_in {k : IntKind} {n : Int} (h0 : IntKind.lo k ≤ n) (h1 : n ≤ IntKind.hi k) : k.wrap n = n := by
 cases k <;> simp only [IntKind.lo, IntKind.hi] at h0 h1 <;> simp [IntKind.wrap, IntKind.bits, IntKind.signed] <;> first | omega | (split <;> omega)
theorem fit_in {k : IntKind} {n : Int} {K : Int → Prop} (h0 : IntKind.lo k ≤ n) (h1 : n ≤ IntKind.hi k) (h : K n) : fitP k n K := .inl ⟨wrap_in h0 h1, h⟩
theorem fit_i64 {n : Int} {K : Int → Prop} (h : -9223372036854775808 ≤ n ∧ n ≤ 9223372036854775807) (hk : K n) : fitP .i64 n K := fit_in h.1 h.2 hk
theorem fit_u64 {n : Int} {K : Int → Prop} (h : 0 ≤ n ∧ n ≤ 18446744073709551615) (hk : K n) : fitP .u64 n K := fit_in h.1 h.2 hk
theorem fit_u8 {n : Int} {K : Int → Prop} (h : 0 ≤ n ∧ n ≤ 255) (hk : K n) : fitP .u8 n K := fit_in h.1 h.2 hk
theorem fit_wrap {k : IntKind} {n : Int} {K : Int → Prop} (h : K (k.wrap n)) : fitP k n K := .inr h
theorem fitP.elim {k : IntKind} {n : Int} {K : Int → Prop} (h : fitP k n K) : K (k.wrap n) := by
 rcases h with ⟨e, h⟩ | h
 ·rw [e]; exact h
 ·exact h
def bytesLt : List Int → List Int → Bool
 | _, [] => false
 | [], _ :: _ => true
 | a :: x, b :: y => decide (a < b) || (a == b && bytesLt x y)
def binP (op : BinOp) (x y : AV) (K : AV → Prop) : Prop :=
 match op, x, y with
 | .add, .int k a, .int _ b => fitP k (a + b) fun n => K (.int k n)
 | .sub, .int k a, .int _ b => fitP k (a - b) fun n => K (.int k n)
 | .mul, .int k a, .int _ b => fitP k (a * b) fun n => K (.int k n)
 | .quo, .int k a, .int _ b => b ≠ 0 ∧ fitP k (a.tdiv b) fun n => K (.int k n)
 | .rem, .int k a, .int _ b => b ≠ 0 ∧ K (.int k (a.tmod b))
 | .and, .int k a, .int _ b => K (.int k (bits .and k a b))
 | .or, .int k a, .int _ b => K (.int k (bits .or k a b))
 | .xor, .int k a, .int _ b => K (.int k (bits .xor k a b))
 | .andNot, .int k a, .int _ b => K (.int k (bits .andNot k a b))
 | .shl, .int k a, .int _ b => 0 ≤ b ∧ fitP k (a * 2 ^ min b.toNat k.bits) fun n => K (.int k n)
 | .shr, .int k a, .int _ b => 0 ≤ b ∧ K (.int k (a / 2 ^ min b.toNat k.bits))
 | .eql, .int _ a, .int _ b => K (.bool (decide (a = b)))
 | .neq, .int _ a, .int _ b => K (.bool (decide (a ≠ b)))
 | .lss, .int _ a, .int _ b => K (.bool (decide (a < b)))
 | .leq, .int _ a, .int _ b => K (.bool (decide (a ≤ b)))
 | .gtr, .int _ a, .int _ b => K (.bool (decide (b < a)))
 | .geq, .int _ a, .int _ b => K (.bool (decide (b ≤ a)))
 | .add, .str a, .str b => (a.length + b.length ≤ 9223372036854775807) ∧ K (.str (a ++ b))
 | .eql, .str a, .str b => K (.bool (decide (a = b)))
 | .neq, .str a, .str b => K (.bool (decide (a ≠ b)))
 | .lss, .str a, .str b => K (.bool (bytesLt a b))
 | .leq, .str a, .str b => K (.bool (bytesLt a b || decide (a = b)))
 | .gtr, .str a, .str b => K (.bool (!(bytesLt a b || decide (a = b))))
 | .geq, .str a, .str b => K (.bool (!bytesLt a b))
 | _, _, _ => False
theorem bytesOf_inj {a b : ByteArray} (h : bytesOf a = bytesOf b) : a = b := by
 have : a.data.toList = b.data.toList := by
  unfold bytesOf at h
  exact List.map_inj_right (f := fun x : UInt8 => (x.toNat : Int)) (fun x y e => UInt8.toNat_inj.1 (by exact_mod_cast e)) |>.1 h
 cases a; cases b
 simp only [ByteArray.mk.injEq]
 exact Array.toList_inj.1 this
theorem toList_data (a : ByteArray) : a.toList = a.data.toList := Go.Lib.toList_data a
theorem bytesLess_eq : ∀ (x y : List UInt8), Op.bytesLess x y = bytesLt (x.map fun u => (u.toNat : Int)) (y.map fun u => (u.toNat : Int))
 | [], [] => rfl
 | _ :: _, [] => by simp [Op.bytesLess, bytesLt]
 | [], _ :: _ => rfl
 | a :: x, b :: y => by
  simp only [Op.bytesLess, bytesLt, List.map_cons, bytesLess_eq x y]
  congr 1
  ·simp [UInt8.lt_iff_toNat_lt]
  ·congr 1
   rw [Bool.eq_iff_iff]
   simp only [beq_iff_eq]
   constructor
   ·intro h; rw [h]
   ·intro h; exact UInt8.toNat_inj.1 (by exact_mod_cast h)
end
section

def binS (op : BinOp) (t : TypeId) (xo yo : Operand) (u v : Value) : Sem Value := do eqGuard op t xo yo u v; binOp op t u v
theorem str_eq_iff (a b : ByteArray) : (a.toList == b.toList) = decide (bytesOf a = bytesOf b) := by
 rw [Bool.eq_iff_iff]
 simp only [beq_iff_eq, decide_eq_true_eq]
 constructor
 ·intro h
  unfold bytesOf
  rw [← toList_data, ← toList_data, h]
 ·intro h
  rw [bytesOf_inj h]
theorem str_lt (a b : ByteArray) : Op.bytesLess a.toList b.toList = bytesLt (bytesOf a) (bytesOf b) := by
 rw [bytesLess_eq, toList_data, toList_data]; rfl
theorem bytesOf_append (a b : ByteArray) : bytesOf (a ++ b) = bytesOf a ++ bytesOf b := by
 simp [bytesOf]
theorem length_bytesOf (a : ByteArray) : (bytesOf a).length = a.size := by
 simp [bytesOf]
theorem shift_shl' (k yk : IntKind) (x y : Int) (h : 0 ≤ y) : Op.shift .shl k x yk y = Pure.pure (.int k (k.wrap (x * 2 ^ min y.toNat k.bits))) := by
 have : ¬ y < 0 := by omega
 simp [Op.shift, this]
theorem shift_shr' (k yk : IntKind) (x y : Int) (h : 0 ≤ y) : Op.shift .shr k x yk y = Pure.pure (.int k (x / 2 ^ min y.toNat k.bits)) := by
 have : ¬ y < 0 := by omega
 have hp : (0 : Int) ≤ 2 ^ min y.toNat k.bits := Int.pow_nonneg (by decide)
 simp [Op.shift, this, Int.fdiv_eq_ediv_of_nonneg _ hp]
theorem bin_int {P : Program} {op : BinOp} {t : TypeId} {xo yo : Operand} {k j : IntKind} {a b : Int} {w : World} {r : Value}
  (h : (binOp op t (.int k a) (.int j b)).run P w = .ok r w) : (binS op t xo yo (.int k a) (.int j b)).run P w = .ok r w := by
 simp [binS, eqGuard_at_int, h]
theorem bin_str {P : Program} {op : BinOp} {t : TypeId} {xo yo : Operand} {a b : ByteArray} {w : World} {r : Value}
  (h : (binOp op t (.string a) (.string b)).run P w = .ok r w) : (binS op t xo yo (.string a) (.string b)).run P w = .ok r w := by
 simp [binS, eqGuard_at_string, h]
def kNo : IntKind → Nat
 | .i8 => 0 | .i16 => 1 | .i32 => 2 | .i64 => 3 | .u8 => 4 | .u16 => 5 | .u32 => 6 | .u64 => 7
def kEq (k j : IntKind) : Bool := Nat.beq (kNo k) (kNo j)
theorem kEq_eq {k j : IntKind} (h : kEq k j = true) : k = j := by
 cases k <;> cases j <;> first | rfl | (simp [kEq, kNo] at h)
def isShift : BinOp → Bool
 | .shl | .shr => true
 | _ => false
def sameKind (op : BinOp) (x y : AV) : Bool :=
 match x, y with
 | .int k _, .int j _ => isShift op || kEq k j
 | _, _ => true
def binQ (op : BinOp) (x y : AV) (K : AV → Prop) : Prop := cond (sameKind op x y) (binP op x y K) False
theorem rep_int (E : Env) (k : IntKind) (n : Int) : RepV E (.int k n) (.int k n) := by simp only [RepV]
theorem rep_bool (E : Env) (b : Bool) : RepV E (.bool b) (.bool b) := by simp only [RepV]
set_option maxHeartbeats 1000000 in
theorem binP_sound {P : Program} {E : Env} {op : BinOp} {X Y : AV} {u v : Value} {K : AV → Prop} (hu : RepV E X u) (hv : RepV E Y v) (hq : binQ op X Y K) :
  ∃ x r, K x ∧ RepV E x r ∧ ∀ t xo yo w, (binS op t xo yo u v).run P w = .ok r w := by
 unfold binQ at hq
 cases hk : sameKind op X Y with
 | false => rw [hk] at hq; exact hq.elim
 | true =>
 rw [hk] at hq
 have h : binP op X Y K := hq
 clear hq
 unfold binP at h
 split at h <;> simp only [sameKind, isShift, Bool.false_or, Bool.true_or] at hk <;> (try (cases kEq_eq hk))
 all_goals (try simp only [RepV] at hu hv)
 ·subst hu; subst hv; exact ⟨_, _, h.elim, rep_int E _ _, fun t xo yo w => bin_int (by simp [binOp_add, Op.intArith])⟩
 ·subst hu; subst hv; exact ⟨_, _, h.elim, rep_int E _ _, fun t xo yo w => bin_int (by simp [binOp_sub, Op.intArith])⟩
 ·subst hu; subst hv; exact ⟨_, _, h.elim, rep_int E _ _, fun t xo yo w => bin_int (by simp [binOp_mul, Op.intArith])⟩
 ·subst hu; subst hv; exact ⟨_, _, h.2.elim, rep_int E _ _, fun t xo yo w => bin_int (by simp [binOp_quo, Op.intDiv, h.1])⟩
 ·subst hu; subst hv; exact ⟨_, _, h.2, rep_int E _ _, fun t xo yo w => bin_int (by simp [binOp_rem, Op.intDiv, h.1])⟩
 ·subst hu; subst hv; exact ⟨_, _, h, rep_int E _ _, fun t xo yo w => bin_int (by simp [binOp_and, intBits_and])⟩
 ·subst hu; subst hv; exact ⟨_, _, h, rep_int E _ _, fun t xo yo w => bin_int (by simp [binOp_or, intBits_or])⟩
 ·subst hu; subst hv; exact ⟨_, _, h, rep_int E _ _, fun t xo yo w => bin_int (by simp [binOp_xor, intBits_xor])⟩
 ·subst hu; subst hv; exact ⟨_, _, h, rep_int E _ _, fun t xo yo w => bin_int (by simp [binOp_andNot, intBits_andNot])⟩
 ·subst hu; subst hv; exact ⟨_, _, h.2.elim, rep_int E _ _, fun t xo yo w => bin_int (by simp [binOp_shl, shift_shl' _ _ _ _ h.1])⟩
 ·subst hu; subst hv; exact ⟨_, _, h.2, rep_int E _ _, fun t xo yo w => bin_int (by simp [binOp_shr, shift_shr' _ _ _ _ h.1])⟩
 ·subst hu; subst hv; exact ⟨_, _, h, rep_bool E _, fun t xo yo w => bin_int (by simp [binOp_eql]; first | rfl | exact Bool.eq_iff_iff.2 (by simp))⟩
 ·subst hu; subst hv; exact ⟨_, _, h, rep_bool E _, fun t xo yo w => bin_int (by simp [binOp_neq]; first | rfl | exact Bool.eq_iff_iff.2 (by simp))⟩
 ·subst hu; subst hv; exact ⟨_, _, h, rep_bool E _, fun t xo yo w => bin_int (by simp [binOp_lss])⟩
 ·subst hu; subst hv; exact ⟨_, _, h, rep_bool E _, fun t xo yo w => bin_int (by simp [binOp_leq])⟩
 ·subst hu; subst hv; exact ⟨_, _, h, rep_bool E _, fun t xo yo w => bin_int (by simp [binOp_gtr])⟩
 ·subst hu; subst hv; exact ⟨_, _, h, rep_bool E _, fun t xo yo w => bin_int (by simp [binOp_geq])⟩
 ·obtain ⟨a, rfl, rfl⟩ := hu; obtain ⟨b, rfl, rfl⟩ := hv
  simp only [length_bytesOf] at h
  refine ⟨_, .string (a ++ b), h.2, ?_, fun t xo yo w => bin_str ?_⟩
  ·simp only [RepV]; exact ⟨_, rfl, bytesOf_append a b⟩
  ·have h1 : ¬ (((a.size + b.size : Nat) : Int) > IntKind.i64.max) := by simp only [IntKind.max_i64]; omega
   simp only [binOp, Op.stringOp, if_neg h1, Sem.run_pure]
 ·obtain ⟨a, rfl, rfl⟩ := hu; obtain ⟨b, rfl, rfl⟩ := hv
  exact ⟨_, _, h, rep_bool E _, fun t xo yo w => bin_str (by simp [binOp, Op.stringOp, str_eq_iff])⟩
 ·obtain ⟨a, rfl, rfl⟩ := hu; obtain ⟨b, rfl, rfl⟩ := hv
  exact ⟨_, _, h, rep_bool E _, fun t xo yo w => bin_str (by simp [binOp, Op.stringOp, str_eq_iff])⟩
 ·obtain ⟨a, rfl, rfl⟩ := hu; obtain ⟨b, rfl, rfl⟩ := hv
  exact ⟨_, _, h, rep_bool E _, fun t xo yo w => bin_str (by simp [binOp, Op.stringOp, str_lt])⟩
 ·obtain ⟨a, rfl, rfl⟩ := hu; obtain ⟨b, rfl, rfl⟩ := hv
  exact ⟨_, _, h, rep_bool E _, fun t xo yo w => bin_str (by simp [binOp, Op.stringOp, str_eq_iff, str_lt])⟩
 ·obtain ⟨a, rfl, rfl⟩ := hu; obtain ⟨b, rfl, rfl⟩ := hv
  exact ⟨_, _, h, rep_bool E _, fun t xo yo w => bin_str (by simp [binOp, Op.stringOp, str_eq_iff, str_lt])⟩
 ·obtain ⟨a, rfl, rfl⟩ := hu; obtain ⟨b, rfl, rfl⟩ := hv
  exact ⟨_, _, h, rep_bool E _, fun t xo yo w => bin_str (by simp [binOp, Op.stringOp, str_eq_iff, str_lt])⟩
 ·exact h.elim
end
section

def takeN : Nat → List AV → Option (List AV)
 | 0, _ => some []
 | n + 1, x :: l => match takeN n l with
  | some r => some (x :: r)
  | none => none
 | _ + 1, [] => none
theorem takeN_spec : ∀ (n : Nat) (l r : List AV), takeN n l = some r → n ≤ l.length ∧ r = l.take n
 | 0, l, r, h => by simp [takeN] at h; simp [h]
 | n + 1, x :: l, r, h => by
  simp only [takeN] at h
  split at h
  ·rename_i s hs
   obtain ⟨h1, rfl⟩ := takeN_spec n l s hs
   injection h with h
   subst h
   exact ⟨by simpa using h1, by simp⟩
  ·cases h
 | n + 1, [], r, h => by simp [takeN] at h
theorem takeN_eq : ∀ (n : Nat) (l : List AV), n ≤ l.length → takeN n l = some (l.take n)
 | 0, l, h => by simp [takeN]
 | n + 1, x :: l, h => by simp only [takeN, takeN_eq n l (by simpa using h)]; simp
 | n + 1, [], h => by simp at h
def AV.one : AV → Bool
 | .int _ _ | .bool _ | .anyb | .str _ | .nil | .ro _ _ | .sl _ _ _ _ _ | .ptr _ _ | .rop _ | .nilp | .hid _ | .fn _ _ => true
 | _ => false
theorem one_scalar {E : Env} (hη : ∀ i, scalar (E.η i) = true) {x : AV} {v : Value} (h : RepV E x v) (ho : x.one = true) : scalar v = true := by
 cases x <;> simp only [AV.one] at ho <;> simp only [RepV] at h <;> (try (first | cases ho)) <;> (try (obtain ⟨_, _, rfl, _⟩ := h; rfl)) <;> (try (obtain ⟨_, rfl⟩ := h; rfl)) <;> (try (obtain ⟨_, _, rfl⟩ := h; rfl)) <;> (try (obtain ⟨_, rfl, _⟩ := h; rfl)) <;> (try (subst h; rfl))
 exact h ▸ hη _
def cellsA : AV → List AV
 | .agg cs => cs
 | x => [x]
def AV.laid : AV → Bool
 | .agg _ => true
 | x => x.one
theorem repL_length {E : Env} : ∀ (cs : List AV) (vs : List Value), RepL E cs vs → cs.length = vs.length
 | [], vs, h => by simp only [RepL] at h; subst h; rfl
 | c :: cs, vs, h => by
  simp only [RepL] at h
  obtain ⟨u, us, rfl, _, h⟩ := h
  simp [repL_length cs us h]
theorem repL_get {E : Env} : ∀ (cs : List AV) (vs : List Value), RepL E cs vs → ∀ (j : Nat) x, cs[j]? = some x → ∃ u, vs[j]? = some u ∧ RepV E x u
 | [], vs, h, j, x, hx => by simp at hx
 | c :: cs, vs, h, j, x, hx => by
  simp only [RepL] at h
  obtain ⟨u, us, rfl, hu, h⟩ := h
  cases j with
  | zero => simp at hx; subst hx; exact ⟨u, by simp, hu⟩
  | succ j => simpa using repL_get cs us h j x (by simpa using hx)
theorem repL_of_get {E : Env} : ∀ (cs : List AV) (vs : List Value), cs.length = vs.length → (∀ (j : Nat) x u, cs[j]? = some x → vs[j]? = some u → RepV E x u) → RepL E cs vs
 | [], [], _, _ => by simp [RepL]
 | [], _ :: _, h, _ => by simp at h
 | _ :: _, [], h, _ => by simp at h
 | c :: cs, v :: vs, h, k => by
  simp only [RepL]
  exact ⟨v, vs, rfl, k 0 c v (by simp) (by simp), repL_of_get cs vs (by simpa using h) (fun j x u hx hu => k (j + 1) x u (by simpa using hx) (by simpa using hu))⟩
theorem repM_get {E : Env} : ∀ (cs : List AV) (b off : Nat), RepM E cs b off → ∀ (j : Nat) x, cs[j]? = some x → ∃ u, E.w.cell? ⟨b, off + j, none⟩ = some u ∧ RepV E x u
 | [], b, off, h, j, x, hx => by simp at hx
 | c :: cs, b, off, h, j, x, hx => by
  simp only [RepM] at h
  obtain ⟨⟨u, hu, hr⟩, h⟩ := h
  cases j with
  | zero => simp at hx; subst hx; exact ⟨u, hu, hr⟩
  | succ j =>
   obtain ⟨u', h1, h2⟩ := repM_get cs b (off + 1) h j x (by simpa using hx)
   exact ⟨u', by rw [show off + (j + 1) = off + 1 + j by omega]; exact h1, h2⟩
theorem repM_of_get {E : Env} : ∀ (cs : List AV) (b off : Nat), (∀ (j : Nat) x, cs[j]? = some x → ∃ u, E.w.cell? ⟨b, off + j, none⟩ = some u ∧ RepV E x u) → RepM E cs b off
 | [], b, off, h => by simp [RepM]
 | c :: cs, b, off, h => by
  simp only [RepM]
  refine ⟨by simpa using h 0 c (by simp), repM_of_get cs b (off + 1) fun j x hx => ?_⟩
  have := h (j + 1) x (by simpa using hx)
  rwa [show off + (j + 1) = off + 1 + j by omega] at this
theorem cells_rep {E : Env} (hη : ∀ i, scalar (E.η i) = true) {x : AV} {v : Value} (h : RepV E x v) (ho : x.laid = true) : RepL E (cellsA x) v.cells.toList := by
 by_cases hx : ∃ cs, x = .agg cs
 ·obtain ⟨cs, rfl⟩ := hx
  simp only [RepV] at h
  obtain ⟨vs, rfl, h⟩ := h
  exact h
 ·have h1 : x.one = true := by cases x <;> simp_all [AV.laid]
  have h2 : cellsA x = [x] := by cases x <;> simp_all [cellsA]
  have h3 := one_scalar hη h h1
  have h4 : v.cells = #[v] := by cases v <;> simp_all [scalar, Value.cells]
  rw [h2, h4]
  simp only [RepL]
  exact ⟨v, [], rfl, h, rfl⟩
theorem run_sizeOf {P : Program} {t : TypeId} {i : TI} (h : TIok P t i) (w : World) : (sizeOf t).run P w = .ok i.size w := by
 obtain ⟨f, hf, hs, _⟩ := h.info
 simp [sizeOf, typeInfo, hf, hs]
theorem run_zeroValue {P : Program} {t : TypeId} {i : TI} (h : TIok P t i) (hz : i.zero ≠ .top) (w : World) : ∃ z, (zeroValue t).run P w = .ok z w ∧ ∀ E, RepV E i.zero z := by
 obtain ⟨f, hf, _, _, z, hz1, _, hz2, _⟩ := h.info
 exact ⟨z, by simp [zeroValue, typeInfo, hf, hz1], hz2.resolve_left hz⟩
theorem run_isAgg {P : Program} {t : TypeId} {i : TI} (h : TIok P t i) (w : World) : (isAgg t).run P w = .ok i.d.agg w := by
 obtain ⟨d, hd, _, ha⟩ := h.und
 simp only [isAgg, Sem.run_bind, run_underlying hd, Result.andThen_ok]
 rw [← ha]
 cases d <;> rfl
theorem addr_add (b o n : Nat) : Addr.add ⟨b, o, none⟩ n = ⟨b, o + n, none⟩ := Addr.add_lit b o n
theorem run_loadVar {P : Program} {E : Env} {t : TypeId} {i : TI} (h : TIok P t i) {b off : Nat} {cs : List AV}
  (hm : ∀ (j : Nat) x, cs[j]? = some x → ∃ u, E.w.cell? ⟨b, off + j, none⟩ = some u ∧ RepV E x u) :
  (i.d.agg = true → ∀ r, takeN i.size cs = some r → ∃ v, (loadVar t ⟨b, off, none⟩).run P E.w = .ok v E.w ∧ RepV E (.agg r) v) ∧
  (i.d.agg = false → ∀ x, cs[0]? = some x → ∃ v, (loadVar t ⟨b, off, none⟩).run P E.w = .ok v E.w ∧ RepV E x v) := by
 constructor
 ·intro ha r hr
  obtain ⟨hl, rfl⟩ := takeN_spec _ _ _ hr
  have hex : ∃ vs : List Value, vs.length = i.size ∧ (∀ (j : Nat), j < i.size → ∃ x u, cs[j]? = some x ∧ vs[j]? = some u ∧ E.w.cell? ⟨b, off + j, none⟩ = some u ∧ RepV E x u) := by
   have : ∀ n, n ≤ cs.length → ∃ vs : List Value, vs.length = n ∧ (∀ (j : Nat), j < n → ∃ x u, cs[j]? = some x ∧ vs[j]? = some u ∧ E.w.cell? ⟨b, off + j, none⟩ = some u ∧ RepV E x u) := by
    intro n
    induction n with
    | zero => exact fun _ => ⟨[], rfl, fun j hj => by omega⟩
    | succ n ih =>
     intro hn
     obtain ⟨vs, hl', hv⟩ := ih (by omega)
     obtain ⟨u, hu, hr⟩ := hm n cs[n] (by simp)
     refine ⟨vs ++ [u], by simp [hl'], fun j hj => ?_⟩
     by_cases hjn : j < n
     ·obtain ⟨x, u', h1, h2, h3, h4⟩ := hv j hjn
      exact ⟨x, u', h1, by rw [List.getElem?_append_left (by omega)]; exact h2, h3, h4⟩
     ·obtain rfl : j = n := by omega
      exact ⟨cs[j], u, by simp, by rw [List.getElem?_append_right (by omega)]; simp [hl'], hu, hr⟩
   exact this i.size hl
  obtain ⟨vs, hlen, hv⟩ := hex
  refine ⟨.agg vs.toArray, ?_, ?_⟩
  ·have hlc := run_loadCells_list (P := P) E.w ⟨b, off, none⟩ vs (fun j v hj => by
    have hjl : j < i.size := by
     rcases Nat.lt_or_ge j vs.length with h' | h'
     ·omega
     ·simp [List.getElem?_eq_none h'] at hj
    obtain ⟨x, u, h1, h2, h3, h4⟩ := hv j hjl
    rw [addr_add]
    rw [h2] at hj
    injection hj with hj
    rw [← hj]; exact h3)
   rw [hlen] at hlc
   simp only [loadVar, Sem.run_bind, run_isAgg h, Result.andThen_ok, ha, if_true, run_sizeOf h, hlc, Sem.run_pure]
  ·simp only [RepV]
   refine ⟨vs.toArray, rfl, repL_of_get _ _ (by simp [hlen]; omega) fun j x u hx hu => ?_⟩
   have hjl : j < i.size := by
    rcases Nat.lt_or_ge j (cs.take i.size).length with h' | h'
    ·simp at h'; omega
    ·simp [List.getElem?_eq_none h'] at hx
   obtain ⟨x', u', h1, h2, h3, h4⟩ := hv j hjl
   rw [List.getElem?_take_of_lt hjl, h1] at hx
   injection hx with hx
   simp only [List.toList_toArray] at hu
   rw [h2] at hu
   injection hu with hu
   rw [← hx, ← hu]; exact h4
 ·intro ha x hx
  obtain ⟨u, hu, hr⟩ := hm 0 x hx
  refine ⟨u, ?_, hr⟩
  simp only [Nat.add_zero] at hu
  simp only [loadVar, Sem.run_bind, run_isAgg h, Result.andThen_ok, ha, Bool.false_eq_true, if_false, run_load, hu]
def getP (T : Types) (t : TypeId) (cs : List AV) (K : AV → Prop) : Prop :=
 match T t with
 | some i => match i.d.agg with
  | true => ∃ r, takeN i.size cs = some r ∧ K (.agg r)
  | false => ∃ x, cs[0]? = some x ∧ K x
 | none => False
def loadP (T : Types) (H : Heap) (t : TypeId) (A : AV) (K : AV → Prop) : Prop :=
 match A with
 | .ptr id off => match H id with
  | some cs => getP T t (cs.drop off) K
  | none => False
 | .rop cs => getP T t cs K
 | _ => False
theorem getP_sound {P : Program} {T : Types} (hT : TOK P T) {E : Env} {t : TypeId} {b off : Nat} {cs : List AV} {K : AV → Prop}
  (hm : ∀ (j : Nat) x, cs[j]? = some x → ∃ u, E.w.cell? ⟨b, off + j, none⟩ = some u ∧ RepV E x u) (h : getP T t cs K) :
  ∃ x v, K x ∧ (loadVar t ⟨b, off, none⟩).run P E.w = .ok v E.w ∧ RepV E x v := by
 unfold getP at h
 split at h
 ·rename_i i hi
  have hk := run_loadVar (hT t i hi) hm
  split at h
  ·rename_i ha
   obtain ⟨r, hr, h⟩ := h
   obtain ⟨v, h1, h2⟩ := hk.1 ha r hr
   exact ⟨_, v, h, h1, h2⟩
  ·rename_i ha
   obtain ⟨x, hx, h⟩ := h
   obtain ⟨v, h1, h2⟩ := hk.2 ha x hx
   exact ⟨_, v, h, h1, h2⟩
 ·exact h.elim
theorem blk_cells {Z : Nat → Prop} {E : Env} {H : Heap} {nx : Nat} (h : HeapRep Z E H nx) {id n : Nat} {cs : List AV} (hi : H id = some cs) (hn : E.ρ id = some n)
  (j : Nat) (x : AV) (hx : cs[j]? = some x) : ∃ u, E.w.cell? ⟨n, j, none⟩ = some u ∧ RepV E x u := by
 rcases h.blk id cs hi with ⟨h0, _⟩ | ⟨m, hm, c, e, fr, h1, h2, h3, h4⟩
 ·rw [hn] at h0; cases h0
 ·obtain rfl : n = m := by rw [hn] at hm; injection hm
  obtain ⟨u, hu, hr⟩ := h4 j x hx
  exact ⟨u, by simp [World.cell?, h1, hu], hr⟩
theorem loadP_sound {P : Program} {T : Types} (hT : TOK P T) {Z : Nat → Prop} {E : Env} {H : Heap} {nx : Nat} (hr : HeapRep Z E H nx) {t : TypeId} {A : AV} {va : Value} {K : AV → Prop}
  (ha : RepV E A va) (h : loadP T H t A K) : ∃ x v, K x ∧ (Instr.loadAt t va).run P E.w = .ok v E.w ∧ RepV E x v := by
 unfold loadP at h
 split at h
 ·rename_i id off
  simp only [RepV] at ha
  obtain ⟨n, hn, rfl⟩ := ha
  split at h
  ·rename_i cs hcs
   obtain ⟨x, v, h1, h2, h3⟩ := getP_sound hT (b := n) (off := off) (E := E) (fun j x hx => blk_cells hr hcs hn (off + j) x (by simpa using hx)) h
   exact ⟨x, v, h1, by simp [Instr.loadAt, Instr.sureAddr, h2], h3⟩
  ·exact h.elim
 ·rename_i cs
  simp only [RepV] at ha
  obtain ⟨b, off, rfl, hc⟩ := ha
  rcases hc with rfl | ⟨_, hm⟩
  ·obtain ⟨x, v, h1, h2, h3⟩ := getP_sound hT (b := b) (off := off) (E := E) (cs := []) (fun j x hx => by simp at hx) h
   exact ⟨x, v, h1, by simp [Instr.loadAt, Instr.sureAddr, h2], h3⟩
  ·obtain ⟨x, v, h1, h2, h3⟩ := getP_sound hT (b := b) (off := off) (E := E) (repM_get cs b off hm) h
   exact ⟨x, v, h1, by simp [Instr.loadAt, Instr.sureAddr, h2], h3⟩
 ·exact h.elim
end
section

def setN (cs : List AV) (k : Nat) : List AV → List AV
 | [] => cs
 | x :: xs => setN (cs.set k x) (k + 1) xs
theorem setN_length : ∀ (xs cs : List AV) (k : Nat), (setN cs k xs).length = cs.length
 | [], _, _ => rfl
 | x :: xs, cs, k => by simp [setN, setN_length xs]
theorem setN_eq : ∀ (xs cs : List AV) (k : Nat), k + xs.length ≤ cs.length → setN cs k xs = cs.take k ++ xs ++ cs.drop (k + xs.length)
 | [], cs, k, h => by simp [setN]
 | x :: xs, cs, k, h => by
  simp only [List.length_cons] at h
  simp only [setN]
  rw [setN_eq xs (cs.set k x) (k + 1) (by simp; omega)]
  have h1 : (cs.set k x).take (k + 1) = cs.take k ++ [x] := by
   rw [List.take_succ_eq_append_getElem (by simp; omega)]
   simp [List.take_set_of_le]
  have h2 : (cs.set k x).drop (k + 1 + xs.length) = cs.drop (k + (x :: xs).length) := by
   rw [List.drop_set_of_lt (by omega)]
   simp only [List.length_cons]
   congr 1; omega
  rw [h1, h2]
  simp
theorem setH_twice (H : Heap) (id : Nat) (a b : Option (List AV)) : setH (setH H id a) id b = setH H id b := by
 funext i
 by_cases h : i = id
 ·subst h; simp [setH_same]
 ·rw [setH_ne _ _ h, setH_ne _ _ h, setH_ne _ _ h]
theorem setH_id (H : Heap) (id : Nat) (a : Option (List AV)) (h : H id = a) : setH H id a = H := by
 funext i
 by_cases hi : i = id
 ·subst hi; rw [setH_same, h]
 ·rw [setH_ne _ _ hi]
theorem run_store_one {P : Program} {Z : Nat → Prop} {E : Env} {H : Heap} {nx : Nat} (h : HeapRep Z E H nx) {id n j : Nat} {cs : List AV} {v : Value}
  (hi : H id = some cs) (hn : E.ρ id = some n) (hj : j < cs.length) (hs : scalar v = true) :
  (store ⟨n, j, none⟩ v).run P E.w = .ok () (E.w.setCell ⟨n, j, none⟩ v) := by
 rcases h.blk id cs hi with ⟨h0, _⟩ | ⟨m, hm, c, e, fr, h1, h2, h3, h4⟩
 ·rw [hn] at h0; cases h0
 ·obtain rfl : n = m := by rw [hn] at hm; injection hm
  have hjc : j < c.size := by omega
  have hcell : E.w.cell? ⟨n, j, none⟩ = some c[j] := by simp [World.cell?, h1, hjc]
  have hfr := frozen_false h1 (h2 j hjc)
  unfold store
  cases v with
  | agg _ => simp [scalar] at hs
  | tuple _ => simp [scalar] at hs
  | _ => simp [Sem.run, hcell, hfr]
theorem storeCells_sound {P : Program} {Z : Nat → Prop} {id n off : Nat} {nx : Nat} : ∀ (xs : List AV) (vs : List Value) (i : Nat) (E : Env) (H : Heap) (cs : List AV),
  HeapRep Z E H nx → H id = some cs → E.ρ id = some n → off + i + xs.length ≤ cs.length → RepL E xs vs → (∀ v ∈ vs, scalar v = true) →
  ∃ E', (storeCells ⟨n, off, none⟩ vs i).run P E.w = .ok () E'.w ∧ Later E E' ∧ Evo (Wr E.ρ H) E.w E'.w ∧ HeapRep Z E' (setH H id (some (setN cs (off + i) xs))) nx
 | [], vs, i, E, H, cs, h, hi, hn, hl, hr, hs => by
  simp only [RepL] at hr
  subst hr
  exact ⟨E, by simp [storeCells], Later.refl E, Evo.refl _ _, by simp only [setN]; rw [setH_id _ _ _ hi]; exact h⟩
 | x :: xs, vs, i, E, H, cs, h, hi, hn, hl, hr, hs => by
  simp only [RepL] at hr
  obtain ⟨u, us, rfl, hu, hr⟩ := hr
  simp only [List.length_cons] at hl
  have hj : off + i < cs.length := by omega
  have h1 := run_store_one (P := P) h hi hn hj (hs u (by simp))
  have h2 := h.store hi hn hj hu
  have hne : H id ≠ none := by rw [hi]; simp
  have L := later_store h (off + i) u hne hn
  have ev : Evo (Wr E.ρ H) E.w (E.store ⟨n, off + i, none⟩ u).w := Evo.setCell _ _ _ _ ⟨id, cs, hi, hn⟩
  obtain ⟨E', k1, k2, k3, k4⟩ := storeCells_sound (P := P) (off := off) xs us (i + 1) (E.store ⟨n, off + i, none⟩ u) (setH H id (some (cs.set (off + i) x))) (cs.set (off + i) x) h2
   (setH_same _ _ _) hn (by simp; omega) (RepL.later L _ _ hr) (fun v hv => hs v (by simp [hv]))
  refine ⟨E', ?_, L.trans k2, ?_, ?_⟩
  ·simp only [storeCells, Sem.run_bind, addr_add, h1, Result.andThen_ok]
   exact k1
  ·refine ev.trans k3 fun b hb hw => ?_
   obtain ⟨i', ds, e1, e2⟩ := hw
   by_cases hii : i' = id
   ·subst hii; exact ⟨i', cs, hi, e2⟩
   ·rw [setH_ne _ _ hii] at e1; exact ⟨i', ds, e1, e2⟩
  ·rw [setH_twice] at k4
   simpa [setN, Nat.add_assoc] using k4
def AV.ones (X : AV) : Bool := (cellsA X).all AV.one
theorem ones_laid {X : AV} (h : X.ones = true) : X.laid = true := by
 cases X <;> simp_all [AV.ones, cellsA, AV.laid]
theorem repL_scalar {E : Env} (hη : ∀ i, scalar (E.η i) = true) : ∀ (cs : List AV) (vs : List Value), RepL E cs vs → (∀ x ∈ cs, x.one = true) → ∀ v ∈ vs, scalar v = true
 | [], vs, h, _ => by simp only [RepL] at h; subst h; simp
 | c :: cs, vs, h, hx => by
  simp only [RepL] at h
  obtain ⟨u, us, rfl, hu, h⟩ := h
  intro v hv
  rcases List.mem_cons.1 hv with rfl | hv
  ·exact one_scalar hη hu (hx c (by simp))
  ·exact repL_scalar hη cs us h (fun x hx' => hx x (by simp [hx'])) v hv
theorem ones_cells {E : Env} (hη : ∀ i, scalar (E.η i) = true) {X : AV} {v : Value} (h : RepV E X v) (ho : X.ones = true) :
  RepL E (cellsA X) v.cells.toList ∧ ∀ u ∈ v.cells.toList, scalar u = true := by
 have h1 := cells_rep hη h (ones_laid ho)
 exact ⟨h1, repL_scalar hη _ _ h1 (by simpa [AV.ones] using ho)⟩
def storeP (T : Types) (H : Heap) (t : TypeId) (A X : AV) (K : Heap → Prop) : Prop :=
 match A with
 | .ptr id off => match H id with
  | some cs => match T t with
   | some i => (X.ones = true ∧ (cellsA X).length = i.size ∧ off + i.size ≤ cs.length) ∧ K (setH H id (some (setN cs off (cellsA X))))
   | none => False
  | none => False
 | _ => False
theorem storeP_sound {P : Program} {T : Types} (hT : TOK P T) {Z : Nat → Prop} {E : Env} {H : Heap} {nx : Nat} (hr : HeapRep Z E H nx) {t : TypeId} {A X : AV} {va vx : Value} {K : Heap → Prop}
  (ha : RepV E A va) (hx : RepV E X vx) (h : storeP T H t A X K) :
  ∃ H' E', K H' ∧ (Instr.storeAt t va vx).run P E.w = .ok () E'.w ∧ Later E E' ∧ Evo (Wr E.ρ H) E.w E'.w ∧ HeapRep Z E' H' nx := by
 unfold storeP at h
 split at h
 ·rename_i id off
  simp only [RepV] at ha
  obtain ⟨n, hn, rfl⟩ := ha
  split at h
  ·rename_i cs hcs
   split at h
   ·rename_i i hi
    obtain ⟨⟨ho, hl, hb⟩, hk⟩ := h
    obtain ⟨h1, h2⟩ := ones_cells hr.one hx ho
    obtain ⟨E', k1, k2, k3, k4⟩ := storeCells_sound (P := P) (off := off) (cellsA X) vx.cells.toList 0 E H cs hr hcs hn (by rw [hl]; simpa using hb) h1 h2
    refine ⟨_, E', hk, ?_, k2, k3, by simpa using k4⟩
    have hsz : vx.cells.size = i.size := by
     have := repL_length _ _ h1
     simp at this
     omega
    simp only [Instr.storeAt, Sem.run_bind, Instr.sureAddr, Sem.run_pure, Result.andThen_ok, storeVar, run_sizeOf (hT t i hi), hsz, ne_eq, not_true_eq_false, if_false]
    simpa using k1
   ·exact h.elim
  ·exact h.elim
 ·exact h.elim
theorem newRow_sound {P : Program} {Z : Nat → Prop} {E : Env} {H : Heap} {nx : Nat} (h : HeapRep Z E H nx) (e : TypeId) (c : Array Value) (cs : List AV)
  (hl : cs.length ≤ c.size) (hc : ∀ (j : Nat) x, cs[j]? = some x → ∃ u, c[j]? = some u ∧ RepV E x u) :
  (newRow e c).run P E.w = .ok ⟨E.w.heap.size, 0, none⟩ (E.alloc nx (.cells c e)).w ∧ Later E (E.alloc nx (.cells c e)) ∧ Evo (Wr E.ρ H) E.w (E.alloc nx (.cells c e)).w ∧
   HeapRep Z (E.alloc nx (.cells c e)) (setH H nx (some cs)) (nx + 1) ∧ (E.alloc nx (.cells c e)).ρ nx = some E.w.heap.size := by
 refine ⟨by simp [newRow, newObj, Sem.run, Env.alloc], later_alloc E _ (h.fresh nx (Nat.le_refl _)).1, Evo.alloc _ _ _, h.alloc c e (0, 0) cs (fun j _ hj => by simp at hj) hl hc, alloc_ρ_same _ _ _⟩
def boxP (H : Heap) (nx : Nat) (X : AV) (K : AV → Heap → Nat → Prop) : Prop :=
 force X fun X => X.ones = true ∧ K (.ptr nx 0) (setH H nx (some (cellsA X))) (nx + 1)
theorem boxP_sound {P : Program} {Z : Nat → Prop} {E : Env} {H : Heap} {nx : Nat} (hr : HeapRep Z E H nx) {e : TypeId} {X : AV} {v : Value} {K : AV → Heap → Nat → Prop}
  (hx : RepV E X v) (h : boxP H nx X K) : ∃ x H' nx' E' r, K x H' nx' ∧ (Instr.box e v).run P E.w = .ok r E'.w ∧ After Z E H x H' nx' r E' := by
 unfold boxP at h
 rw [force_eq] at h
 obtain ⟨ho, hk⟩ := h
 have h1 := (ones_cells hr.one hx ho).1
 obtain ⟨k1, k2, k3, k4, k5⟩ := newRow_sound (P := P) hr e v.cells (cellsA X) (by have := repL_length _ _ h1; simp at this; omega)
  (fun j x hx' => by obtain ⟨u, hu, hr'⟩ := repL_get _ _ h1 j x hx'; exact ⟨u, by simpa using hu, hr'⟩)
 refine ⟨_, _, _, _, .pointer (some ⟨E.w.heap.size, 0, none⟩), hk, ?_, ⟨k2, k3, ?_, k4⟩⟩
 ·simp only [Instr.box, newVar, Sem.run_bind, k1, Result.andThen_ok, Sem.run_pure]
 ·simp only [RepV]; exact ⟨_, k5, rfl⟩
def allocP (T : Types) (H : Heap) (nx : Nat) (e : TypeId) (K : AV → Heap → Nat → Prop) : Prop :=
 match T e with
 | some i => boxP H nx i.zero K
 | none => False
theorem allocP_sound {P : Program} {T : Types} (hT : TOK P T) {Z : Nat → Prop} {E : Env} {H : Heap} {nx : Nat} (hr : HeapRep Z E H nx) {e : TypeId} {K : AV → Heap → Nat → Prop}
  (h : allocP T H nx e K) : ∃ x H' nx' E' r, K x H' nx' ∧ (Instr.alloc e true (.tuple #[])).run P E.w = .ok r E'.w ∧ After Z E H x H' nx' r E' := by
 unfold allocP at h
 split at h
 ·rename_i i hi
  have hz : i.zero ≠ .top := fun e => by rw [e] at h; simp [boxP, force_eq, AV.ones, cellsA, AV.one] at h
  obtain ⟨z, hz1, hz2⟩ := run_zeroValue (hT e i hi) hz E.w
  obtain ⟨x, H', nx', E', r, k1, k2, k3⟩ := boxP_sound (P := P) (e := e) hr (hz2 E) h
  refine ⟨x, H', nx', E', r, k1, ?_, k3⟩
  have : (Instr.alloc e true (.tuple #[])).run P E.w = (Instr.box e z).run P E.w := by
   simp only [Instr.alloc, Instr.box, Sem.run_bind, hz1, Result.andThen_ok]
  rw [this]; exact k2
 ·exact h.elim
end
section

theorem run_part {P : Program} {E : Env} {t : TypeId} {i : TI} (h : TIok P t i) {vs : Array Value} {cs : List AV} (hr : RepL E cs vs.toList) (o : Nat) (w : World) :
  (i.d.agg = true → ∀ r, takeN i.size (cs.drop o) = some r → ∃ v, (part t vs o).run P w = .ok v w ∧ RepV E (.agg r) v) ∧
  (i.d.agg = false → ∀ x, (cs.drop o)[0]? = some x → ∃ v, (part t vs o).run P w = .ok v w ∧ RepV E x v) := by
 constructor
 ·intro ha r hr'
  obtain ⟨hl, rfl⟩ := takeN_spec _ _ _ hr'
  refine ⟨.agg (vs.extract o (o + i.size)), by simp [part, run_isAgg h, ha, run_sizeOf h], ?_⟩
  simp only [RepV]
  refine ⟨_, rfl, repL_of_get _ _ ?_ fun j x u hx hu => ?_⟩
  ·have := repL_length _ _ hr
   simp at this hl ⊢
   omega
  ·have hj : j < i.size := by
    rcases Nat.lt_or_ge j ((cs.drop o).take i.size).length with h' | h'
    ·simp at h'; omega
    ·simp [List.getElem?_eq_none h'] at hx
   rw [List.getElem?_take_of_lt hj, List.getElem?_drop] at hx
   obtain ⟨u', h1, h2⟩ := repL_get _ _ hr _ x hx
   rw [Array.toList_extract, List.extract_eq_take_drop, List.getElem?_take_of_lt (by omega), List.getElem?_drop, h1] at hu
   injection hu with hu
   rw [← hu]; exact h2
 ·intro ha x hx
  rw [List.getElem?_drop] at hx
  obtain ⟨u, h1, h2⟩ := repL_get _ _ hr _ x hx
  simp only [Nat.add_zero, Array.getElem?_toList] at h1
  exact ⟨u, by simp [part, run_isAgg h, ha, h1], h2⟩
theorem getP_part {P : Program} {T : Types} (hT : TOK P T) {E : Env} {t : TypeId} {vs : Array Value} {cs : List AV} {o : Nat} {K : AV → Prop} (hr : RepL E cs vs.toList)
  (h : getP T t (cs.drop o) K) : ∃ x v, K x ∧ (∀ w, (part t vs o).run P w = .ok v w) ∧ RepV E x v := by
 unfold getP at h
 split at h
 ·rename_i i hi
  split at h
  ·rename_i ha
   obtain ⟨r, hr', h⟩ := h
   obtain ⟨v, h1, h2⟩ := (run_part (P := P) (hT t i hi) hr o default).1 ha r hr'
   refine ⟨_, v, h, fun w => ?_, h2⟩
   obtain ⟨v', h1', _⟩ := (run_part (P := P) (hT t i hi) hr o w).1 ha r hr'
   have e1 : (part t vs o).run P default = .ok (.agg (vs.extract o (o + i.size))) default := by simp [part, run_isAgg (hT t i hi), ha, run_sizeOf (hT t i hi)]
   have e2 : (part t vs o).run P w = .ok (.agg (vs.extract o (o + i.size))) w := by simp [part, run_isAgg (hT t i hi), ha, run_sizeOf (hT t i hi)]
   rw [e1] at h1
   injection h1 with h1 _
   rw [e2, h1]
  ·rename_i ha
   obtain ⟨x, hx, h⟩ := h
   rw [List.getElem?_drop] at hx
   obtain ⟨u, h1, h2⟩ := repL_get _ _ hr _ x hx
   simp only [Nat.add_zero, Array.getElem?_toList] at h1
   exact ⟨x, u, h, fun w => by simp [part, run_isAgg (hT t i hi), ha, h1], h2⟩
 ·exact h.elim
def fieldP (T : Types) (t : TypeId) (X : AV) (f : Nat) (K : AV → Prop) : Prop :=
 match T t with
 | some ⟨.struct fs, _, _, _, _⟩ => match fs[f]? with
  | some (o, ft) => match X with
   | .agg cs => getP T ft (cs.drop o) K
   | _ => False
  | none => False
 | _ => False
theorem struct_und {P : Program} {t : TypeId} {fs : List (Nat × TypeId)} {a b : Nat} {z : AV} {sg : List Seg} (h : TIok P t ⟨.struct fs, a, b, z, sg⟩) {f o : Nat} {ft : TypeId} (hf : fs[f]? = some (o, ft)) :
  ∃ (fields : Array Field) (fd : Field), P.underlying t = some (.struct fields) ∧ fields[f]? = some fd ∧ fd.offset = o ∧ fd.type = ft := by
 obtain ⟨d, hd, ho, _⟩ := h.und
 obtain ⟨fields, rfl, hm⟩ := ho
 have : (fields.toList.map (fun f => (f.offset, f.type)))[f]? = some (o, ft) := by rw [hm]; exact hf
 rw [List.getElem?_map, Array.getElem?_toList] at this
 cases hh : fields[f]? with
 | none => rw [hh] at this; simp at this
 | some fd =>
  rw [hh] at this
  simp at this
  exact ⟨fields, fd, hd, hh, this.1, this.2⟩
theorem fieldP_sound {P : Program} {T : Types} (hT : TOK P T) {E : Env} {t : TypeId} {X : AV} {f : Nat} {v : Value} {K : AV → Prop} (hx : RepV E X v) (h : fieldP T t X f K) :
  ∃ x r, K x ∧ (∀ w, (Instr.field t v f).run P w = .ok r w) ∧ RepV E x r := by
 unfold fieldP at h
 split at h
 ·rename_i fs a b z sg hi
  split at h
  ·rename_i o ft hf
   split at h
   ·rename_i cs
    simp only [RepV] at hx
    obtain ⟨vs, rfl, hr⟩ := hx
    obtain ⟨x, r, h1, h2, h3⟩ := getP_part hT hr h
    obtain ⟨fields, fd, e1, e2, rfl, rfl⟩ := struct_und (hT t _ hi) hf
    exact ⟨x, r, h1, fun w => by simp [Instr.field, run_underlying e1, e2, asAgg, h2], h3⟩
   ·exact h.elim
  ·exact h.elim
 ·exact h.elim
def ptrAdd (A : AV) (o : Nat) (K : AV → Prop) : Prop :=
 match A with
 | .ptr id off => K (.ptr id (off + o))
 | .rop cs => K (.rop (cs.drop o))
 | _ => False
theorem repM_drop {E : Env} {cs : List AV} {b off : Nat} (h : RepM E cs b off) (o : Nat) : RepM E (cs.drop o) b (off + o) :=
 repM_of_get _ _ _ fun j x hx => by
  rw [List.getElem?_drop] at hx
  obtain ⟨u, h1, h2⟩ := repM_get _ _ _ h _ x hx
  exact ⟨u, by rw [Nat.add_assoc]; exact h1, h2⟩
theorem ptrAdd_sound {E : Env} {A : AV} {o : Nat} {K : AV → Prop} {v : Value} (hv : RepV E A v) (h : ptrAdd A o K) :
  ∃ x a, K x ∧ v = .pointer (some a) ∧ RepV E x (.pointer (some (a.add o))) := by
 unfold ptrAdd at h
 split at h
 ·simp only [RepV] at hv
  obtain ⟨n, hn, rfl⟩ := hv
  exact ⟨_, _, h, rfl, by simp only [RepV]; exact ⟨n, hn, by rw [addr_add]⟩⟩
 ·simp only [RepV] at hv
  obtain ⟨b, off, rfl, hc⟩ := hv
  refine ⟨_, _, h, rfl, ?_⟩
  simp only [RepV]
  refine ⟨b, off + o, by rw [addr_add], ?_⟩
  rcases hc with rfl | ⟨hV, hm⟩
  ·exact .inl (by simp)
  ·exact .inr ⟨hV, repM_drop hm o⟩
 ·exact h.elim
def fieldAddrP (T : Types) (t : TypeId) (A : AV) (f : Nat) (K : AV → Prop) : Prop :=
 match T t with
 | some ⟨.struct fs, _, _, _, _⟩ => match fs[f]? with
  | some (o, ft) => match T ft with
   | some i => match i.size with
    | _ + 1 => ptrAdd A o K
    | 0 => False
   | none => False
  | none => False
 | _ => False
theorem fieldAddrP_sound {P : Program} {T : Types} (hT : TOK P T) {E : Env} {t : TypeId} {A : AV} {f : Nat} {v : Value} {K : AV → Prop} (hx : RepV E A v) (h : fieldAddrP T t A f K) :
  ∃ x r, K x ∧ (∀ w, (Instr.fieldAt t v f).run P w = .ok r w) ∧ RepV E x r := by
 unfold fieldAddrP at h
 split at h
 ·rename_i fs a b z sg hi
  split at h
  ·rename_i o ft hf
   split at h
   ·rename_i i hft
    split at h
    ·rename_i m hm
     obtain ⟨x, a, h1, rfl, h3⟩ := ptrAdd_sound hx h
     obtain ⟨fields, fd, e1, e2, rfl, rfl⟩ := struct_und (hT t _ hi) hf
     refine ⟨x, _, h1, fun w => ?_, h3⟩
     simp [Instr.fieldAt, run_underlying e1, e2, Instr.sureAddr, fieldPlace, run_sizeOf (hT _ _ hft), hm]
    ·exact h.elim
   ·exact h.elim
  ·exact h.elim
 ·exact h.elim
def indexAddrP (T : Types) (t : TypeId) (X I : AV) (K : AV → Prop) : Prop :=
 match I with
 | .int _ i => match T t with
  | some ⟨.slice e, _, _, _, _⟩ => match T e with
   | some ei => match X with
    | .ro len cs => (0 ≤ i ∧ i < len ∧ i.toNat * ei.size < cs.length) ∧ K (.rop (cs.drop (i.toNat * ei.size)))
    | .sl id off len esz full => (0 ≤ i ∧ i < len) ∧ K (.ptr id (off + i.toNat * ei.size))
    | _ => False
   | none => False
  | some ⟨.arr n e, _, _, _, _⟩ => match T e with
   | some ei => (0 ≤ i ∧ i < n) ∧ ptrAdd X (i.toNat * ei.size) K
   | none => False
  | _ => False
 | _ => False
theorem indexAddrP_sound {P : Program} {T : Types} (hT : TOK P T) {E : Env} {t : TypeId} {X I : AV} {v vi : Value} {K : AV → Prop} (hx : RepV E X v) (hi : RepV E I vi)
  (h : indexAddrP T t X I K) : ∃ x r, K x ∧ (∀ w, (Instr.indexAt t v vi).run P w = .ok r w) ∧ RepV E x r := by
 unfold indexAddrP at h
 split at h
 ·rename_i k i
  simp only [RepV] at hi
  subst hi
  split at h
  ·rename_i e a b z sg ht
   obtain ⟨d, hd, ho, _⟩ := (hT t _ ht).und
   have ho' : d = .slice e := ho
   subst ho'
   split at h
   ·rename_i ei he
    have hsz := fun w => run_sizeOf (hT e _ he) w
    split at h
    ·rename_i len cs
     obtain ⟨⟨h0, h1, h2⟩, hk⟩ := h
     simp only [RepV] at hx
     obtain ⟨ao, cap, rfl, hl, hc⟩ := hx
     rcases hc with rfl | ⟨bb, off, rfl, hV, hm⟩
     ·simp at h2
     ·refine ⟨_, .pointer (some (Addr.add ⟨bb, off, none⟩ (i.toNat * ei.size))), hk, fun w => ?_, ?_⟩
      ·simp [Instr.indexAt, asIntOf, run_underlying hd, h0, h1, hsz]
      ·simp only [RepV]
       exact ⟨bb, off + i.toNat * ei.size, by rw [addr_add], .inr ⟨hV, repM_drop hm _⟩⟩
    ·rename_i id off len esz full
     obtain ⟨⟨h0, h1⟩, hk⟩ := h
     simp only [RepV] at hx
     obtain ⟨ao, cap, rfl, hl, hf, hc⟩ := hx
     rcases hc with rfl | ⟨n, c, e', fr, hn, rfl, hh, hs⟩
     ·omega
     ·refine ⟨_, .pointer (some (Addr.add ⟨n, off, none⟩ (i.toNat * ei.size))), hk, fun w => ?_, ?_⟩
      ·simp [Instr.indexAt, asIntOf, run_underlying hd, h0, h1, hsz]
      ·simp only [RepV]
       exact ⟨n, hn, by rw [addr_add]⟩
    ·exact h.elim
   ·exact h.elim
  ·rename_i m e a b z sg ht
   obtain ⟨d, hd, ho, _⟩ := (hT t _ ht).und
   have ho' : d = .array m e := ho
   subst ho'
   split at h
   ·rename_i ei he
    have hsz := fun w => run_sizeOf (hT e _ he) w
    obtain ⟨⟨h0, h1⟩, hk⟩ := h
    obtain ⟨x, a', k1, rfl, k3⟩ := ptrAdd_sound hx hk
    exact ⟨x, _, k1, fun w => by simp [Instr.indexAt, asIntOf, run_underlying hd, h0, h1, hsz, Instr.sureAddr], k3⟩
   ·exact h.elim
  ·exact h.elim
 ·exact h.elim
def indexP (T : Types) (t : TypeId) (X I : AV) (K : AV → Prop) : Prop :=
 match I with
 | .int _ i => match X with
  | .str s => match T t with
   | some ⟨.str, _, _, _, _⟩ => (0 ≤ i ∧ i.toNat < s.length) ∧ K (.int .u8 (s.getD i.toNat 0))
   | _ => False
  | .agg cs => match T t with
   | some ⟨.arr n e, _, _, _, _⟩ => match T e with
    | some ei => (0 ≤ i ∧ i < n) ∧ getP T e (cs.drop (i.toNat * ei.size)) K
    | none => False
   | _ => False
  | _ => False
 | _ => False
theorem indexP_sound {P : Program} {T : Types} (hT : TOK P T) {E : Env} {t : TypeId} {X I : AV} {v vi : Value} {K : AV → Prop} (hx : RepV E X v) (hi : RepV E I vi)
  (h : indexP T t X I K) : ∃ x r, K x ∧ (∀ w, (Instr.index t v vi).run P w = .ok r w) ∧ RepV E x r := by
 unfold indexP at h
 split at h
 ·rename_i k i
  simp only [RepV] at hi
  subst hi
  split at h
  ·rename_i s
   split at h
   ·rename_i a b z sg ht
    obtain ⟨d, hd, ho, _⟩ := (hT t _ ht).und
    have ho' : d = .string := ho
    subst ho'
    obtain ⟨⟨h0, h1⟩, hk⟩ := h
    simp only [RepV] at hx
    obtain ⟨ba, rfl, rfl⟩ := hx
    have h1' : i.toNat < ba.size := by rwa [length_bytesOf] at h1
    refine ⟨_, _, hk, fun w => ?_, rep_int E _ _⟩
    have e : (bytesOf ba).getD i.toNat 0 = ((ba[i.toNat]'h1').toNat : Int) := by
     have hd' : i.toNat < ba.data.toList.length := by simpa using h1'
     unfold bytesOf
     rw [List.getD_eq_getElem?_getD, List.getElem?_map, List.getElem?_eq_getElem hd']
     rfl
    have : (if 0 ≤ i then ba[i.toNat]? else none) = some (ba[i.toNat]'h1') := by
     rw [if_pos h0]
     exact getElem?_pos ba i.toNat h1'
    simp only [Instr.index, asIntOf, Sem.run_bind, Sem.run_pure, Result.andThen_ok, run_underlying hd, this, e]
   ·exact h.elim
  ·rename_i cs
   split at h
   ·rename_i n e a b z sg ht
    obtain ⟨d, hd, ho, _⟩ := (hT t _ ht).und
    have ho' : d = .array n e := ho
    subst ho'
    split at h
    ·rename_i ei he
     obtain ⟨⟨h0, h1⟩, hk⟩ := h
     simp only [RepV] at hx
     obtain ⟨vs, rfl, hr⟩ := hx
     obtain ⟨x, r, k1, k2, k3⟩ := getP_part hT hr hk
     exact ⟨x, r, k1, fun w => by simp [Instr.index, asIntOf, run_underlying hd, h0, h1, run_sizeOf (hT e _ he), k2], k3⟩
    ·exact h.elim
   ·exact h.elim
  ·exact h.elim
 ·exact h.elim
def extractP (X : AV) (i : Nat) (K : AV → Prop) : Prop :=
 match X with
 | .tuple cs => match cs[i]? with
  | some x => K x
  | none => False
 | _ => False
theorem extractP_sound {P : Program} {E : Env} {X : AV} {i : Nat} {v : Value} {K : AV → Prop} (hx : RepV E X v) (h : extractP X i K) :
  ∃ x r, K x ∧ (∀ w, (Instr.extract v i).run P w = .ok r w) ∧ RepV E x r := by
 unfold extractP at h
 split at h
 ·rename_i cs
  split at h
  ·rename_i x hx'
   simp only [RepV] at hx
   obtain ⟨vs, rfl, hr⟩ := hx
   obtain ⟨u, h1, h2⟩ := repL_get _ _ hr _ x hx'
   simp only [Array.getElem?_toList] at h1
   exact ⟨x, u, h, fun w => by simp [Instr.extract, h1], h2⟩
  ·exact h.elim
 ·exact h.elim
def lenP (T : Types) (t : TypeId) (X : AV) (K : AV → Prop) : Prop :=
 match X with
 | .str s => match T t with
  | some ⟨.str, _, _, _, _⟩ => K (.int .i64 s.length)
  | _ => False
 | .nil => match T t with
  | some ⟨.slice _, _, _, _, _⟩ => K (.int .i64 0)
  | _ => False
 | .ro len _ => match T t with
  | some ⟨.slice _, _, _, _, _⟩ => K (.int .i64 len)
  | _ => False
 | .sl _ _ len _ _ => match T t with
  | some ⟨.slice _, _, _, _, _⟩ => K (.int .i64 len)
  | _ => False
 | _ => False
theorem lenP_sound {P : Program} {T : Types} (hT : TOK P T) {E : Env} {t ty : TypeId} {X : AV} {v : Value} {K : AV → Prop} (hx : RepV E X v) (h : lenP T t X K) :
  ∃ x r, K x ∧ (∀ w, (Builtin.len_ #[t] ty #[v]).run P w = .ok r w) ∧ RepV E x r := by
 unfold lenP at h
 have slice : ∀ {e a b z sg}, T t = some ⟨.slice e, a, b, z, sg⟩ → ∀ (o : Option Addr) (n c : Nat) w, (Builtin.len_ #[t] ty #[.slice o n c]).run P w = .ok (goInt n) w := by
  intro e a b z sg ht o n c w
  obtain ⟨d, hd, ho, _⟩ := (hT t _ ht).und
  have ho' : d = .slice e := ho
  subst ho'
  simp [Builtin.len_, run_underlying hd]
 split at h
 ·split at h
  ·rename_i a b z sg ht
   obtain ⟨d, hd, ho, _⟩ := (hT t _ ht).und
   have ho' : d = .string := ho
   subst ho'
   simp only [RepV] at hx
   obtain ⟨ba, rfl, rfl⟩ := hx
   exact ⟨_, _, h, fun w => by simp [Builtin.len_, run_underlying hd, goInt, length_bytesOf], rep_int E _ _⟩
  ·exact h.elim
 ·split at h
  ·rename_i e a b z sg ht
   simp only [RepV] at hx
   subst hx
   exact ⟨_, _, h, fun w => by rw [slice ht]; rfl, rep_int E _ _⟩
  ·exact h.elim
 ·split at h
  ·rename_i e a b z sg ht
   simp only [RepV] at hx
   obtain ⟨ao, cap, rfl, _⟩ := hx
   exact ⟨_, _, h, fun w => by rw [slice ht]; rfl, rep_int E _ _⟩
  ·exact h.elim
 ·split at h
  ·rename_i e a b z sg ht
   simp only [RepV] at hx
   obtain ⟨ao, cap, rfl, _⟩ := hx
   exact ⟨_, _, h, fun w => by rw [slice ht]; rfl, rep_int E _ _⟩
  ·exact h.elim
 ·exact h.elim
end
section

def intO : Option AV → Option (Option Int)
 | none => some none
 | some (.int _ i) => some (some i)
 | some _ => none
def okB (l h : Option Int) (len : Nat) : Prop :=
 match l, h with
 | none, none => True
 | none, some h => 0 ≤ h ∧ h ≤ len
 | some l, none => 0 ≤ l ∧ l ≤ len
 | some l, some h => 0 ≤ l ∧ l ≤ h ∧ h ≤ len
def offB : Option Int → Nat
 | none => 0
 | some l => l.toNat
def endB (h : Option Int) (len : Nat) : Nat :=
 match h with
 | none => len
 | some h => h.toNat
def lenB (l h : Option Int) (len : Nat) : Nat :=
 match l, h with
 | none, none => len
 | none, some h => h.toNat
 | some l, none => len - l.toNat
 | some l, some h => h.toNat - l.toNat
theorem lenB_eq (l h : Option Int) (len : Nat) : lenB l h len = endB h len - offB l := by
 cases l <;> cases h <;> simp [lenB, endB, offB]
def cutB {α : Type} (cs : List α) (l h : Option Int) (sz : Nat) : List α :=
 match l, h with
 | none, none => cs
 | none, some h => cs.take (h.toNat * sz)
 | some l, none => cs.drop (l.toNat * sz)
 | some l, some h => (cs.drop (l.toNat * sz)).take ((h.toNat - l.toNat) * sz)
theorem cutB_get {α : Type} (cs : List α) (l h : Option Int) (sz : Nat) (j : Nat) (x : α) (hx : (cutB cs l h sz)[j]? = some x) : cs[offB l * sz + j]? = some x := by
 cases l <;> cases h <;> simp only [cutB, offB, Nat.zero_mul, Nat.zero_add, List.getElem?_drop] at hx ⊢
 ·exact hx
 ·rename_i h
  by_cases hj : j < h.toNat * sz
  ·rwa [List.getElem?_take_of_lt hj] at hx
  ·rw [List.getElem?_eq_none (by simp; omega)] at hx; cases hx
 ·exact hx
 ·rename_i l h
  by_cases hj : j < (h.toNat - l.toNat) * sz
  ·rwa [List.getElem?_take_of_lt hj, List.getElem?_drop] at hx
  ·rw [List.getElem?_eq_none (by simp; omega)] at hx; cases hx
theorem okB_le {l h : Option Int} {len : Nat} (ok : okB l h len) : offB l ≤ endB h len ∧ endB h len ≤ len := by
 cases l <;> cases h <;> simp only [okB] at ok <;> simp only [offB, endB] <;> omega
theorem cutB_length {α : Type} (cs : List α) (l h : Option Int) (sz len : Nat) (hc : cs.length = len * sz) (ok : okB l h len) : (cutB cs l h sz).length = lenB l h len * sz := by
 cases l <;> cases h <;> simp only [okB] at ok <;> simp only [cutB, lenB, List.length_take, List.length_drop, hc]
 ·rename_i h
  apply Nat.min_eq_left
  exact Nat.mul_le_mul_right _ (by omega)
 ·rw [Nat.sub_mul]
 ·rename_i l h
  rw [← Nat.sub_mul]
  apply Nat.min_eq_left
  exact Nat.mul_le_mul_right _ (by omega)
def RepO (E : Env) : Option AV → Option Value → Prop
 | none, o => o = none
 | some x, o => ∃ v, o = some v ∧ RepV E x v
theorem run_bounds {P : Program} {E : Env} {lo hi : Option AV} {lv hv : Option Value} {l h : Option Int} (hl : RepO E lo lv) (hh : RepO E hi hv) (il : intO lo = some l) (ih : intO hi = some h)
  (b : Bool) (len cap : Nat) (hc : len ≤ cap) (ok : okB l h len) (w : World) : (Instr.sliceBounds b len cap lv hv none).run P w = .ok (offB l, endB h len, cap) w := by
 have key : ∀ (o : Option AV) (ov : Option Value) (i : Option Int), RepO E o ov → intO o = some i → (i = none ∧ ov = none) ∨ ∃ k n, i = some n ∧ ov = some (.int k n) := by
  intro o ov i h1 h2
  cases o with
  | none => simp only [intO] at h2; injection h2 with h2; simp only [RepO] at h1; exact .inl ⟨h2.symm, h1⟩
  | some x =>
   simp only [RepO] at h1
   obtain ⟨v, rfl, hr⟩ := h1
   cases x <;> simp only [intO] at h2 <;> (try cases h2)
   simp only [RepV] at hr
   exact .inr ⟨_, _, rfl, by rw [hr]⟩
 rcases key lo lv l hl il with ⟨rfl, rfl⟩ | ⟨k1, n1, rfl, rfl⟩ <;> rcases key hi hv h hh ih with ⟨rfl, rfl⟩ | ⟨k2, n2, rfl, rfl⟩ <;> simp only [okB] at ok
 ·simp [Instr.sliceBounds, offB, endB]
 ·have e2 := fun c => run_sliceBound (P := P) w k2 n2 cap c (by omega) (by omega)
  simp [Instr.sliceBounds, offB, endB, e2]
 ·have e1 := fun c => run_sliceBound (P := P) w k1 n1 len c (by omega) (by omega)
  simp [Instr.sliceBounds, offB, endB, e1]
 ·have e2 := fun c => run_sliceBound (P := P) w k2 n2 cap c (by omega) (by omega)
  have e1 := fun c => run_sliceBound (P := P) w k1 n1 n2.toNat c (by omega) (by omega)
  simp [Instr.sliceBounds, offB, endB, e1, e2]
def sliceP (T : Types) (H : Heap) (t : TypeId) (X : AV) (lo hi : Option AV) (K : AV → Prop) : Prop :=
 match intO lo, intO hi with
 | some l, some h => match X with
  | .str s => match T t with
   | some ⟨.str, _, _, _, _⟩ => okB l h s.length ∧ K (.str (cutB s l h 1))
   | _ => False
  | .nil => match T t with
   | some ⟨.slice e, _, _, _, _⟩ => match T e with
    | some ei => okB l h 0 ∧ K .nil
    | none => False
   | _ => False
  | .ro len cs => match T t with
   | some ⟨.slice e, _, _, _, _⟩ => match T e with
    | some ei => (cs.length = len * ei.size ∧ okB l h len) ∧ K (.ro (lenB l h len) (cutB cs l h ei.size))
    | none => False
   | _ => False
  | .sl id off len esz full => match T t with
   | some ⟨.slice e, _, _, _, _⟩ => match T e with
    | some ei => (esz = ei.size ∧ okB l h len) ∧ K (.sl id (off + offB l * esz) (lenB l h len) esz (match h with | none => full | some _ => false))
    | none => False
   | _ => False
  | .ptr id off => match T t with
   | some ⟨.arr n e, _, _, _, _⟩ => match T e, H id with
    | some ei, some cs => (off + n * ei.size ≤ cs.length ∧ okB l h n) ∧ K (.sl id (off + offB l * ei.size) (lenB l h n) ei.size (match h with | none => true | some _ => false))
    | _, _ => False
   | _ => False
  | .rop cs => match T t with
   | some ⟨.arr n e, _, _, _, _⟩ => match T e with
    | some ei => (n * ei.size ≤ cs.length ∧ okB l h n) ∧ K (.ro (lenB l h n) (cutB (cs.take (n * ei.size)) l h ei.size))
    | none => False
   | _ => False
  | _ => False
 | _, _ => False
theorem ro_cut {E : Env} {cs : List AV} {b off : Nat} (h : RepM E cs b off) (l hh : Option Int) (sz : Nat) : RepM E (cutB cs l hh sz) b (off + offB l * sz) :=
 repM_of_get _ _ _ fun j x hx => by
  obtain ⟨u, h1, h2⟩ := repM_get _ _ _ h _ x (cutB_get cs l hh sz j x hx)
  exact ⟨u, by rw [Nat.add_assoc]; exact h1, h2⟩
theorem cutB_str (s : ByteArray) (l h : Option Int) (ok : okB l h s.size) : bytesOf (s.extract (offB l) (endB h s.size)) = cutB (bytesOf s) l h 1 := by
 have hlen := length_bytesOf s
 have e : bytesOf (s.extract (offB l) (endB h s.size)) = ((bytesOf s).drop (offB l)).take (endB h s.size - offB l) := by
  unfold bytesOf
  rw [Go.Lib.extract_data, List.map_take, List.map_drop]
 rw [e]
 cases l <;> cases h <;> simp only [okB] at ok <;> simp only [offB, endB, cutB, Nat.mul_one, List.drop_zero, Nat.sub_zero]
 ·rw [← hlen, List.take_length]
 ·apply List.take_of_length_le; simp [hlen]
set_option maxHeartbeats 1000000 in
theorem sliceP_sound {P : Program} {T : Types} (hT : TOK P T) {Z : Nat → Prop} {E : Env} {H : Heap} {nx : Nat} (hr : HeapRep Z E H nx) {t : TypeId} {X : AV} {lo hi : Option AV} {v : Value} {lv hv : Option Value}
  {K : AV → Prop} (hx : RepV E X v) (hl : RepO E lo lv) (hh : RepO E hi hv) (h : sliceP T H t X lo hi K) :
  ∃ x r, K x ∧ (∀ w, (Instr.sliceAt t v lv hv none).run P w = .ok r w) ∧ RepV E x r := by
 unfold sliceP at h
 split at h
 case h_2 => exact h.elim
 rename_i l hb il ih
 split at h
 ·rename_i s
  split at h
  ·rename_i a b z sg ht
   obtain ⟨d, hd, ho, _⟩ := (hT t _ ht).und
   have ho' : d = .string := ho
   subst ho'
   obtain ⟨ok, hk⟩ := h
   simp only [RepV] at hx
   obtain ⟨ba, rfl, rfl⟩ := hx
   rw [length_bytesOf] at ok
   refine ⟨_, .string (ba.extract (offB l) (endB hb ba.size)), hk, fun w => ?_, ?_⟩
   ·have := run_bounds (P := P) hl hh il ih false ba.size ba.size (Nat.le_refl _) ok w
    simp [Instr.sliceAt, Instr.slice, run_underlying hd, this]
   ·simp only [RepV]; exact ⟨_, rfl, cutB_str ba l hb ok⟩
  ·exact h.elim
 ·split at h
  ·rename_i e a b z sg ht
   obtain ⟨d, hd, ho, _⟩ := (hT t _ ht).und
   have ho' : d = .slice e := ho
   subst ho'
   split at h
   ·rename_i ei he
    have hs := fun w => run_sizeOf (hT e _ he) w
    obtain ⟨ok, hk⟩ := h
    simp only [RepV] at hx
    subst hx
    obtain ⟨h1, h2⟩ := okB_le ok
    have ho1 : offB l = 0 := by omega
    have ho2 : endB hb 0 = 0 := by omega
    refine ⟨_, .slice none 0 0, hk, fun w => ?_, by simp only [RepV]⟩
    have hbd := run_bounds (P := P) hl hh il ih true 0 0 (Nat.le_refl _) ok w
    rw [ho1, ho2] at hbd
    simp only [Instr.sliceAt, Sem.run_bind, run_underlying hd, Result.andThen_ok, Instr.slice, hbd]
    simp [hs]
   ·exact h.elim
  ·exact h.elim
 ·rename_i len cs
  split at h
  ·rename_i e a b z sg ht
   obtain ⟨d, hd, ho, _⟩ := (hT t _ ht).und
   have ho' : d = .slice e := ho
   subst ho'
   split at h
   ·rename_i ei he
    have hs := fun w => run_sizeOf (hT e _ he) w
    obtain ⟨⟨hcl, ok⟩, hk⟩ := h
    simp only [RepV] at hx
    obtain ⟨ao, cap, rfl, hlc, hc⟩ := hx
    obtain ⟨h1, h2⟩ := okB_le ok
    refine ⟨_, .slice (if cap = offB l then ao else ao.map (·.add (offB l * ei.size))) (endB hb len - offB l) (cap - offB l), hk, fun w => ?_, ?_⟩
    ·have hbd := run_bounds (P := P) hl hh il ih true len cap hlc ok w
     simp only [Instr.sliceAt, Sem.run_bind, run_underlying hd, Result.andThen_ok, Instr.slice, hbd, hs, Sem.run_pure]
    ·simp only [RepV]
     refine ⟨_, _, by rw [lenB_eq], by rw [lenB_eq]; omega, ?_⟩
     rcases hc with rfl | ⟨bb, off, rfl, hV, hm⟩
     ·left
      cases l <;> cases hb <;> simp [cutB]
     ·by_cases hcap : cap = offB l
      ·left
       have hlen0 : lenB l hb len = 0 := by rw [lenB_eq]; omega
       have := cutB_length cs l hb ei.size len hcl ok
       rw [hlen0, Nat.zero_mul] at this
       exact List.length_eq_zero_iff.1 this
      ·right
       exact ⟨bb, off + offB l * ei.size, by rw [if_neg hcap]; simp [addr_add], hV, ro_cut hm l hb ei.size⟩
   ·exact h.elim
  ·exact h.elim
 ·rename_i id off len esz full
  split at h
  ·rename_i e a b z sg ht
   obtain ⟨d, hd, ho, _⟩ := (hT t _ ht).und
   have ho' : d = .slice e := ho
   subst ho'
   split at h
   ·rename_i ei he
    have hs := fun w => run_sizeOf (hT e _ he) w
    obtain ⟨⟨hes, ok⟩, hk⟩ := h
    subst hes
    simp only [RepV] at hx
    obtain ⟨ao, cap, rfl, hlc, hf, hc⟩ := hx
    obtain ⟨h1, h2⟩ := okB_le ok
    refine ⟨_, .slice (if cap = offB l then ao else ao.map (·.add (offB l * ei.size))) (endB hb len - offB l) (cap - offB l), hk, fun w => ?_, ?_⟩
    ·have hbd := run_bounds (P := P) hl hh il ih true len cap hlc ok w
     simp only [Instr.sliceAt, Sem.run_bind, run_underlying hd, Result.andThen_ok, Instr.slice, hbd, hs, Sem.run_pure]
    ·simp only [RepV]
     refine ⟨_, _, by rw [lenB_eq], by rw [lenB_eq]; omega, ?_, ?_⟩
     ·intro hfull
      rw [lenB_eq]
      cases hb with
      | none => simp only [endB]; have := hf hfull; omega
      | some x => simp at hfull
     ·by_cases hcap : cap = offB l
      ·left; omega
      ·right
       rcases hc with rfl | ⟨n, c, e', fr, hn, rfl, hh', hs'⟩
       ·omega
       ·refine ⟨n, c, e', fr, hn, by rw [if_neg hcap]; simp [addr_add], hh', ?_⟩
        rw [Nat.sub_mul]
        have : offB l * ei.size ≤ cap * ei.size := Nat.mul_le_mul_right _ (by omega)
        omega
   ·exact h.elim
  ·exact h.elim
 ·rename_i id off
  split at h
  ·rename_i n e a b z sg ht
   obtain ⟨d, hd, ho, _⟩ := (hT t _ ht).und
   have ho' : d = .array n e := ho
   subst ho'
   split at h
   ·rename_i ei cs he hcs
    have hs := fun w => run_sizeOf (hT e _ he) w
    obtain ⟨⟨hsz, ok⟩, hk⟩ := h
    simp only [RepV] at hx
    obtain ⟨m, hm, rfl⟩ := hx
    obtain ⟨h1, h2⟩ := okB_le ok
    refine ⟨_, .slice (some (if n = offB l then (⟨m, off, none⟩ : Addr) else Addr.add ⟨m, off, none⟩ (offB l * ei.size))) (endB hb n - offB l) (n - offB l), hk, fun w => ?_, ?_⟩
    ·have hbd := run_bounds (P := P) hl hh il ih false n n (Nat.le_refl _) ok w
     simp only [Instr.sliceAt, Sem.run_bind, run_underlying hd, Result.andThen_ok, Instr.sureAddr, hbd, hs, Sem.run_pure]
    ·simp only [RepV]
     refine ⟨_, _, by rw [lenB_eq], by rw [lenB_eq]; omega, ?_, ?_⟩
     ·intro hfull
      rw [lenB_eq]
      cases hb with
      | none => simp only [endB]
      | some x => simp at hfull
     ·by_cases hcap : n = offB l
      ·left; omega
      ·right
       rcases hr.blk id cs hcs with ⟨h0, _⟩ | ⟨m', hm', c, e', fr, b1, b2, b3, b4⟩
       ·rw [hm] at h0; cases h0
       ·obtain rfl : m = m' := by rw [hm] at hm'; injection hm'
        refine ⟨m, c, e', fr, hm, by rw [if_neg hcap, addr_add], b1, ?_⟩
        rw [Nat.sub_mul]
        have : offB l * ei.size ≤ n * ei.size := Nat.mul_le_mul_right _ (by omega)
        omega
   ·exact h.elim
  ·exact h.elim
 ·rename_i cs
  split at h
  ·rename_i n e a b z sg ht
   obtain ⟨d, hd, ho, _⟩ := (hT t _ ht).und
   have ho' : d = .array n e := ho
   subst ho'
   split at h
   ·rename_i ei he
    have hs := fun w => run_sizeOf (hT e _ he) w
    obtain ⟨⟨hsz, ok⟩, hk⟩ := h
    simp only [RepV] at hx
    obtain ⟨bb, off, rfl, hc⟩ := hx
    obtain ⟨h1, h2⟩ := okB_le ok
    refine ⟨_, .slice (some (if n = offB l then (⟨bb, off, none⟩ : Addr) else Addr.add ⟨bb, off, none⟩ (offB l * ei.size))) (endB hb n - offB l) (n - offB l), hk, fun w => ?_, ?_⟩
    ·have hbd := run_bounds (P := P) hl hh il ih false n n (Nat.le_refl _) ok w
     simp only [Instr.sliceAt, Sem.run_bind, run_underlying hd, Result.andThen_ok, Instr.sureAddr, hbd, hs, Sem.run_pure]
    ·simp only [RepV]
     refine ⟨_, _, by rw [lenB_eq], by rw [lenB_eq]; omega, ?_⟩
     have hcl : (cs.take (n * ei.size)).length = n * ei.size := by simp; omega
     have hcut := cutB_length (cs.take (n * ei.size)) l hb ei.size n hcl ok
     by_cases hcap : n = offB l
     ·left
      have hlen0 : lenB l hb n = 0 := by rw [lenB_eq]; omega
      rw [hlen0, Nat.zero_mul] at hcut
      exact List.length_eq_zero_iff.1 hcut
     ·rcases hc with rfl | ⟨hV, hm⟩
      ·left
       cases l <;> cases hb <;> simp [cutB]
      ·right
       refine ⟨bb, off + offB l * ei.size, by rw [if_neg hcap, addr_add], hV, ro_cut ?_ l hb ei.size⟩
       exact repM_of_get _ _ _ fun j x hx => by
        by_cases hj : j < n * ei.size
        ·rw [List.getElem?_take_of_lt hj] at hx; exact repM_get _ _ _ hm j x hx
        ·rw [List.getElem?_eq_none (by simp; omega)] at hx; cases hx
   ·exact h.elim
  ·exact h.elim
 ·exact h.elim
def slice3P (T : Types) (t : TypeId) (X : AV) (lo hi : Option AV) (M : AV) (K : AV → Prop) : Prop :=
 match lo, hi, M, X with
 | none, some (.int _ h), .int _ m, .ro len cs => match T t with
  | some ⟨.slice e, _, _, _, _⟩ => match T e with
   | some ei => (0 ≤ h ∧ h ≤ m ∧ m ≤ len) ∧ K (.ro h.toNat (cs.take (h.toNat * ei.size)))
   | none => False
  | _ => False
 | _, _, _, _ => False
theorem slice3P_sound {P : Program} {T : Types} (hT : TOK P T) {E : Env} {t : TypeId} {X M : AV} {lo hi : Option AV} {v mv : Value} {lv hv : Option Value}
  {K : AV → Prop} (hx : RepV E X v) (hl : RepO E lo lv) (hh : RepO E hi hv) (hm : RepV E M mv) (h : slice3P T t X lo hi M K) :
  ∃ x r, K x ∧ (∀ w, (Instr.sliceAt t v lv hv (some mv)).run P w = .ok r w) ∧ RepV E x r := by
 unfold slice3P at h
 split at h
 case h_2 => exact h.elim
 rename_i kh hi' km m len cs
 split at h
 case h_2 => exact h.elim
 rename_i e a b z sg ht
 obtain ⟨d, hd, ho, _⟩ := (hT t _ ht).und
 have ho' : d = .slice e := ho
 subst ho'
 split at h
 case h_2 => exact h.elim
 rename_i ei he
 have hs := fun w => run_sizeOf (hT e _ he) w
 obtain ⟨⟨h0, h1, h2⟩, hk⟩ := h
 simp only [RepO] at hl hh
 obtain ⟨hv', rfl, hh⟩ := hh
 subst hl
 simp only [RepV] at hh hm hx
 subst hh; subst hm
 obtain ⟨ao, cap, rfl, hlc, hc⟩ := hx
 refine ⟨_, .slice (if m.toNat = 0 then ao else ao.map (·.add (0 * ei.size))) (hi'.toNat - 0) (m.toNat - 0), hk, fun w => ?_, ?_⟩
 ·have e1 := fun c => run_sliceBound (P := P) w km m cap c (by omega) (by omega)
  have e2 := fun c => run_sliceBound (P := P) w kh hi' m.toNat c (by omega) (by omega)
  have hbd : (Instr.sliceBounds true len cap none (some (.int kh hi')) (some (.int km m))).run P w = .ok (0, hi'.toNat, m.toNat) w := by
   simp [Instr.sliceBounds, e1, e2]
  simp only [Instr.sliceAt, Sem.run_bind, run_underlying hd, Result.andThen_ok, Instr.slice, hbd, hs, Sem.run_pure]
 ·simp only [RepV]
  refine ⟨_, _, rfl, by omega, ?_⟩
  rcases hc with rfl | ⟨bb, off, rfl, hV, hm⟩
  ·left; simp
  ·by_cases hm0 : m.toNat = 0
   ·left
    have : hi'.toNat = 0 := by omega
    rw [this]; simp
   ·right
    refine ⟨bb, off, by rw [if_neg hm0]; simp [addr_add], hV, ?_⟩
    exact repM_of_get _ _ _ fun j x hx => by
     by_cases hj : j < hi'.toNat * ei.size
     ·rw [List.getElem?_take_of_lt hj] at hx
      exact repM_get _ _ _ hm j x hx
     ·rw [List.getElem?_eq_none (by simp; omega)] at hx; cases hx
end
end Go.Proofs.Ytbkclacjamlebaa.Abs
