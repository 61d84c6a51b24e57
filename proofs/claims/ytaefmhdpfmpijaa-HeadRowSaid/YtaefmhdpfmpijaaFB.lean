/- The abstract state, what it means that a concrete state is such a one, and the elementary steps of memory. -/
import Derived.Test.YtaefmhdpfmpijaaFA
set_option linter.unusedVariables false
namespace Go.Proofs.Ytaefmhdpfmpijaa.Abs
open Go

abbrev Heap := Nat → Option (List AV)
abbrev Delta := List (Nat × Option (List AV))

def setH (H : Heap) (id : Nat) (b : Option (List AV)) : Heap := fun i => cond (Nat.beq i id) b (H i)
def applyD (H : Heap) : Delta → Heap
  | [] => H
  | (id, b) :: δ => applyD (setH H id b) δ

structure St where
  env : Nat → AV
  heap : Heap
  nx : Nat
  n : Nat

def setE (env : Nat → AV) (d : Nat) (x : AV) : Nat → AV := fun t => cond (Nat.beq t d) x (env t)

/-- The blocks that may be written. -/
def Wr (ρ : Nat → Option Nat) (H : Heap) (b : Nat) : Prop := ∃ id cs, H id = some cs ∧ ρ id = some b

def BlkOk (E : Env) (n : Nat) (cs : List AV) : Prop :=
  ∃ (c : Array Value) (e : TypeId) (fr : Nat × Nat), E.w.heap[n]? = some (.cells c e fr) ∧ (∀ j, j < c.size → ¬ (fr.1 ≤ j ∧ j < fr.2)) ∧ cs.length ≤ c.size ∧
    ∀ (j : Nat) x, cs[j]? = some x → ∃ u, c[j]? = some u ∧ RepV E x u

structure HeapRep (Z : Nat → Prop) (E : Env) (H : Heap) (nx : Nat) : Prop where
  blk : ∀ id cs, H id = some cs → (E.ρ id = none ∧ cs = []) ∨ ∃ n, E.ρ id = some n ∧ BlkOk E n cs
  inj : ∀ id id' n, H id ≠ none → H id' ≠ none → E.ρ id = some n → E.ρ id' = some n → id = id'
  V : ∀ b, E.V b ↔ Z b ∨ Wr E.ρ H b
  apart : ∀ id n, H id ≠ none → E.ρ id = some n → ¬ Z n
  fresh : ∀ id, nx ≤ id → E.ρ id = none ∧ H id = none
  one : ∀ i, scalar (E.η i) = true
  old : ∀ id n, E.ρ id = some n → n < E.w.heap.size
  zold : ∀ b, Z b → b < E.w.heap.size
  tab : TabOk E

structure Sim (Z : Nat → Prop) (E : Env) (st : St) (a : Act) : Prop where
  env : ∀ t, RepV E (st.env t) (a.tmps.getD t undef)
  sz : a.tmps.size = st.n
  dfr : a.defers = []
  heap : HeapRep Z E st.heap st.nx

/-- What an operation leaves: a value x, the heap H'. -/
structure After (Z : Nat → Prop) (E : Env) (H : Heap) (x : AV) (H' : Heap) (nx' : Nat) (v : Value) (E' : Env) : Prop where
  later : Later E E'
  evo : Evo (Wr E.ρ H) E.w E'.w
  rep : RepV E' x v
  heap : HeapRep Z E' H' nx'

theorem setE_same (env : Nat → AV) (d : Nat) (x : AV) : setE env d x d = x := by simp [setE]
theorem setE_ne (env : Nat → AV) {d t : Nat} (x : AV) (h : t ≠ d) : setE env d x t = env t := by
  have : Nat.beq t d = false := by
    cases hh : Nat.beq t d
    · rfl
    · exact absurd (Nat.eq_of_beq_eq_true hh) h
  simp [setE, this]
theorem setH_same (H : Heap) (d : Nat) (x : Option (List AV)) : setH H d x d = x := by simp [setH]
theorem setH_ne (H : Heap) {d t : Nat} (x : Option (List AV)) (h : t ≠ d) : setH H d x t = H t := by
  have : Nat.beq t d = false := by
    cases hh : Nat.beq t d
    · rfl
    · exact absurd (Nat.eq_of_beq_eq_true hh) h
  simp [setH, this]

theorem Sim.put {Z : Nat → Prop} {E : Env} {st : St} {a : Act} (S : Sim Z E st a) {d : Nat} {x : AV} {v : Value} (hd : d < st.n) (hr : RepV E x v) :
    Sim Z E { st with env := setE st.env d x } (a.put (some d) v) where
  env := fun t => by
    by_cases h : t = d
    · subst h
      simp only [setE_same, Act.put]
      have : t < a.tmps.size := by rw [S.sz]; exact hd
      simpa [this] using hr
    · simp only [setE_ne _ _ h, Act.put]
      have := S.env t
      rwa [Array.getD_eq_getD_getElem?, Array.getElem?_setIfInBounds_ne (Ne.symm h), ← Array.getD_eq_getD_getElem?]
  sz := by simp [Act.put, S.sz]
  dfr := by simp [Act.put, S.dfr]
  heap := S.heap

theorem Sim.next {Z : Nat → Prop} {E E' : Env} {st : St} {a : Act} (S : Sim Z E st a) {d : Nat} {x : AV} {H' : Heap} {nx' : Nat} {v : Value}
    (hd : d < st.n) (A : After Z E st.heap x H' nx' v E') : Sim Z E' { st with env := setE st.env d x, heap := H', nx := nx' } (a.put (some d) v) := by
  have S' : Sim Z E' { st with heap := H', nx := nx' } a := ⟨fun t => RepV.later A.later _ _ (S.env t), S.sz, S.dfr, A.heap⟩
  exact S'.put hd A.rep

theorem Sim.next' {Z : Nat → Prop} {E E' : Env} {st : St} {a : Act} (S : Sim Z E st a) {x : AV} {H' : Heap} {nx' : Nat} {v : Value}
    (A : After Z E st.heap x H' nx' v E') : Sim Z E' { st with heap := H', nx := nx' } (a.put none v) :=
  ⟨fun t => RepV.later A.later _ _ (S.env t), S.sz, S.dfr, A.heap⟩

/-- Nothing happens to memory. -/
theorem After.pure {Z : Nat → Prop} {E : Env} {H : Heap} {nx : Nat} {x : AV} {v : Value} (h : HeapRep Z E H nx) (hr : RepV E x v) : After Z E H x H nx v E :=
  ⟨Later.refl E, Evo.refl _ _, hr, h⟩

theorem wr_V {Z : Nat → Prop} {E : Env} {H : Heap} {nx : Nat} (h : HeapRep Z E H nx) : ∀ b, Wr E.ρ H b → E.V b := fun b hb => (h.V b).2 (.inr hb)

theorem HeapRep.blk_later {Z : Nat → Prop} {E E' : Env} {H : Heap} {nx : Nat} (h : HeapRep Z E H nx) (L : Later E E') {id : Nat} {cs : List AV} {n : Nat}
    (hn : E.ρ id = some n) (hb : BlkOk E n cs) (same : E'.w.heap[n]? = E.w.heap[n]?) : BlkOk E' n cs := by
  obtain ⟨c, e, fr, h1, h2, h3, h4⟩ := hb
  exact ⟨c, e, fr, same.trans h1, h2, h3, fun j x hx => let ⟨u, hu, hr⟩ := h4 j x hx; ⟨u, hu, RepV.later L x u hr⟩⟩

/-- A draw of the tape. -/
def Env.drawn (E : Env) (n : Nat) : Env := { E with w := { E.w with drawn := n } }

theorem later_drawn (E : Env) (n : Nat) : Later E (E.drawn n) :=
  ⟨rfl, fun _ _ h => h, Nat.le_refl _, fun _ c _ _ h => ⟨c, h, rfl⟩, fun _ _ _ => rfl, fun _ _ h => h⟩

theorem HeapRep.drawn {Z : Nat → Prop} {E : Env} {H : Heap} {nx : Nat} (h : HeapRep Z E H nx) (n : Nat) : HeapRep Z (E.drawn n) H nx where
  blk := fun id cs hh => by
    rcases h.blk id cs hh with h0 | ⟨m, hm, hb⟩
    · exact .inl h0
    · exact .inr ⟨m, hm, h.blk_later (later_drawn E n) hm hb rfl⟩
  inj := h.inj
  V := h.V
  apart := h.apart
  fresh := h.fresh
  one := h.one
  old := h.old
  zold := h.zold
  tab := h.tab.later (later_drawn E n)

theorem Sim.drawn {Z : Nat → Prop} {E : Env} {st : St} {a : Act} (S : Sim Z E st a) (n : Nat) : Sim Z (E.drawn n) st a :=
  ⟨fun t => RepV.later (later_drawn E n) _ _ (S.env t), S.sz, S.dfr, S.heap.drawn n⟩

/-- A new block. -/
def Env.alloc (E : Env) (id : Nat) (o : Obj) : Env :=
  { E with ρ := fun i => cond (Nat.beq i id) (some E.w.heap.size) (E.ρ i), V := fun b => E.V b ∨ b = E.w.heap.size, w := E.w.alloc o }

theorem alloc_ρ_same (E : Env) (id : Nat) (o : Obj) : (E.alloc id o).ρ id = some E.w.heap.size := by simp [Env.alloc]
theorem alloc_ρ_ne (E : Env) {id i : Nat} (o : Obj) (h : i ≠ id) : (E.alloc id o).ρ i = E.ρ i := by
  have : Nat.beq i id = false := by
    cases hh : Nat.beq i id
    · rfl
    · exact absurd (Nat.eq_of_beq_eq_true hh) h
  simp [Env.alloc, this]

theorem later_alloc (E : Env) {id : Nat} (o : Obj) (hid : E.ρ id = none) : Later E (E.alloc id o) := by
  refine ⟨rfl, fun i n h => ?_, by simp [Env.alloc], fun b c e fr h => ?_, fun b hb _ => ?_, fun b hb h => ?_⟩
  · have : i ≠ id := fun e => by rw [e, hid] at h; cases h
    rw [alloc_ρ_ne E o this]; exact h
  · exact ⟨c, by rw [← h]; exact Go.heap_alloc_old _ _ (lt_of_cells h), rfl⟩
  · exact Go.heap_alloc_old _ _ hb
  · rcases h with h | h
    · exact h
    · omega

theorem wr_setH_new {E : Env} {H : Heap} {id : Nat} {o : Obj} {cs : List AV} (hid : E.ρ id = none) (b : Nat) :
    Wr (E.alloc id o).ρ (setH H id (some cs)) b ↔ Wr E.ρ H b ∨ b = E.w.heap.size := by
  constructor
  · rintro ⟨i, ds, h1, h2⟩
    by_cases hi : i = id
    · subst hi
      rw [alloc_ρ_same] at h2
      exact .inr (by injection h2 with h2; exact h2.symm)
    · rw [setH_ne _ _ hi] at h1
      rw [alloc_ρ_ne _ _ hi] at h2
      exact .inl ⟨i, ds, h1, h2⟩
  · rintro (⟨i, ds, h1, h2⟩ | h)
    · have hi : i ≠ id := fun e => by rw [e, hid] at h2; cases h2
      exact ⟨i, ds, by rw [setH_ne _ _ hi]; exact h1, by rw [alloc_ρ_ne _ _ hi]; exact h2⟩
    · exact ⟨id, cs, setH_same _ _ _, by rw [alloc_ρ_same, h]⟩

/-- A new block, whose cells are such ones. -/
theorem HeapRep.alloc {Z : Nat → Prop} {E : Env} {H : Heap} {nx : Nat} (h : HeapRep Z E H nx) (c : Array Value) (e : TypeId) (fr : Nat × Nat) (cs : List AV)
    (hfr : ∀ j, j < c.size → ¬ (fr.1 ≤ j ∧ j < fr.2)) (hl : cs.length ≤ c.size) (hc : ∀ (j : Nat) x, cs[j]? = some x → ∃ u, c[j]? = some u ∧ RepV E x u) :
    HeapRep Z (E.alloc nx (.cells c e fr)) (setH H nx (some cs)) (nx + 1) := by
  have hid : E.ρ nx = none := (h.fresh nx (Nat.le_refl _)).1
  have L := later_alloc E (.cells c e fr) hid
  refine ⟨fun id ds hh => ?_, fun id id' n h1 h2 h3 h4 => ?_, fun b => ?_, fun id n h1 h2 hz => ?_, fun id hh => ?_, h.one, fun id n hn => ?_, fun b hz => ?_, h.tab.later L⟩
  · by_cases hi : id = nx
    · subst hi
      rw [setH_same] at hh
      obtain rfl : cs = ds := by injection hh
      exact .inr ⟨_, alloc_ρ_same _ _ _, c, e, fr, Go.heap_alloc_new _ _, hfr, hl, fun j x hx => let ⟨u, hu, hr⟩ := hc j x hx; ⟨u, hu, RepV.later L x u hr⟩⟩
    · rw [setH_ne _ _ hi] at hh
      rcases h.blk id ds hh with ⟨h0, h1⟩ | ⟨m, hm, hb⟩
      · exact .inl ⟨by rw [alloc_ρ_ne _ _ hi]; exact h0, h1⟩
      · exact .inr ⟨m, by rw [alloc_ρ_ne _ _ hi]; exact hm, h.blk_later L hm hb (Go.heap_alloc_old _ _ (h.old id m hm))⟩
  · by_cases hi : id = nx <;> by_cases hi' : id' = nx
    · rw [hi, hi']
    · subst hi
      rw [alloc_ρ_same] at h3
      rw [alloc_ρ_ne _ _ hi'] at h4
      have := h.old _ _ h4
      injection h3 with h3
      omega
    · subst hi'
      rw [alloc_ρ_same] at h4
      rw [alloc_ρ_ne _ _ hi] at h3
      have := h.old _ _ h3
      injection h4 with h4
      omega
    · rw [alloc_ρ_ne _ _ hi] at h3
      rw [alloc_ρ_ne _ _ hi'] at h4
      rw [setH_ne _ _ hi] at h1
      rw [setH_ne _ _ hi'] at h2
      exact h.inj id id' n h1 h2 h3 h4
  · show E.V b ∨ b = E.w.heap.size ↔ _
    rw [wr_setH_new hid, h.V b, or_assoc]
  · by_cases hi : id = nx
    · subst hi
      rw [alloc_ρ_same] at h2
      have := h.zold n hz
      injection h2 with h2
      omega
    · rw [setH_ne _ _ hi] at h1
      rw [alloc_ρ_ne _ _ hi] at h2
      exact h.apart id n h1 h2 hz
  · have hi : id ≠ nx := by omega
    rw [setH_ne _ _ hi, alloc_ρ_ne _ _ hi]
    exact h.fresh id (by omega)
  · show n < (E.w.alloc _).heap.size
    rw [World.size_alloc]
    by_cases hi : id = nx
    · subst hi
      rw [alloc_ρ_same] at hn
      injection hn with hn
      omega
    · rw [alloc_ρ_ne _ _ hi] at hn
      have := h.old id n hn
      omega
  · show b < (E.w.alloc _).heap.size
    rw [World.size_alloc]
    have := h.zold b hz
    omega

theorem frozen_false {w : World} {n j : Nat} {c : Array Value} {e : TypeId} {fr : Nat × Nat} (h : w.heap[n]? = some (.cells c e fr)) (hf : ¬ (fr.1 ≤ j ∧ j < fr.2)) :
    w.frozen? ⟨n, j, none⟩ = false := by
  obtain ⟨lo, hi⟩ := fr
  simp only [World.frozen?, h]
  simp only at hf
  cases hh : (decide (lo ≤ j) && decide (j < hi)) with
  | false => rfl
  | true => simp at hh; exact absurd hh hf

/-- The world behind a store into a cell of a block of one's own. -/
def Env.store (E : Env) (a : Addr) (v : Value) : Env := { E with w := E.w.setCell a v }

theorem later_store {Z : Nat → Prop} {E : Env} {H : Heap} {nx : Nat} (h : HeapRep Z E H nx) {id n : Nat} (j : Nat) (v : Value) (hi : H id ≠ none) (hn : E.ρ id = some n) :
    Later E (E.store ⟨n, j, none⟩ v) := by
  have hw : Wr E.ρ H n := by
    cases hh : H id with
    | none => exact absurd hh hi
    | some cs => exact ⟨id, cs, hh, hn⟩
  have ev : Evo (Wr E.ρ H) E.w (E.store ⟨n, j, none⟩ v).w := Evo.setCell _ _ _ _ hw
  exact Later.of_evo ev rfl (fun _ _ h => h) (wr_V h) (fun _ _ h => h)

theorem HeapRep.store {Z : Nat → Prop} {E : Env} {H : Heap} {nx : Nat} (h : HeapRep Z E H nx) {id n j : Nat} {cs : List AV} {x : AV} {v : Value}
    (hi : H id = some cs) (hn : E.ρ id = some n) (hj : j < cs.length) (hr : RepV E x v) :
    HeapRep Z (E.store ⟨n, j, none⟩ v) (setH H id (some (cs.set j x))) nx := by
  have hne : H id ≠ none := by rw [hi]; simp
  have L := later_store h j v hne hn
  have hrw : ∀ i, (setH H id (some (cs.set j x)) i ≠ none) ↔ H i ≠ none := by
    intro i
    by_cases hh : i = id
    · subst hh; simp [setH_same, hi]
    · rw [setH_ne _ _ hh]
  have hwr : ∀ b, Wr E.ρ (setH H id (some (cs.set j x))) b ↔ Wr E.ρ H b := by
    intro b
    constructor
    · rintro ⟨i, ds, h1, h2⟩
      have := (hrw i).1 (by rw [h1]; simp)
      cases hh : H i with
      | none => exact absurd hh this
      | some es => exact ⟨i, es, hh, h2⟩
    · rintro ⟨i, ds, h1, h2⟩
      have := (hrw i).2 (by rw [h1]; simp)
      cases hh : setH H id (some (cs.set j x)) i with
      | none => exact absurd hh this
      | some es => exact ⟨i, es, hh, h2⟩
  refine ⟨fun i ds hh => ?_, fun i i' m h1 h2 h3 h4 => h.inj i i' m ((hrw i).1 h1) ((hrw i').1 h2) h3 h4, fun b => by show E.V b ↔ Z b ∨ Wr E.ρ _ b; rw [hwr]; exact h.V b,
    fun i m h1 h2 => h.apart i m ((hrw i).1 h1) h2, fun i hh => ?_, h.one, fun i m hm => by show m < (E.w.setCell _ _).heap.size; rw [World.size_setCell]; exact h.old i m hm,
    fun b hb => by show b < (E.w.setCell _ _).heap.size; rw [World.size_setCell]; exact h.zold b hb, h.tab.later L⟩
  · by_cases hid : i = id
    · subst hid
      rw [setH_same] at hh
      obtain rfl : cs.set j x = ds := by injection hh
      rcases h.blk i cs hi with ⟨h0, _⟩ | ⟨m, hm, c, e, fr, h1, h2, h3, h4⟩
      · rw [hn] at h0; cases h0
      · obtain rfl : n = m := by rw [hn] at hm; injection hm
        refine .inr ⟨n, hn, c.setIfInBounds j v, e, fr, ?_, ?_, ?_, ?_⟩
        · show (E.w.setCell ⟨n, j, none⟩ v).heap[n]? = _
          simp [World.setCell, Array.getElem?_modify, h1]
        · intro k hk; exact h2 k (by simpa using hk)
        · simpa using h3
        · intro k y hy
          by_cases hk : k = j
          · subst hk
            have : k < c.size := by omega
            refine ⟨v, by simp [this], ?_⟩
            rw [List.getElem?_set_self hj] at hy
            injection hy with hy
            subst hy
            exact RepV.later L _ _ hr
          · rw [List.getElem?_set_ne (Ne.symm hk)] at hy
            obtain ⟨u, hu, hr'⟩ := h4 k y hy
            exact ⟨u, by rw [Array.getElem?_setIfInBounds_ne (Ne.symm hk)]; exact hu, RepV.later L _ _ hr'⟩
    · rw [setH_ne _ _ hid] at hh
      rcases h.blk i ds hh with h0 | ⟨m, hm, hb⟩
      · exact .inl h0
      · refine .inr ⟨m, hm, h.blk_later L hm hb ?_⟩
        have hmn : m ≠ n := fun e => hid (h.inj i id n (by rw [hh]; simp) hne (e ▸ hm) hn)
        exact Go.heap_setCell_other E.w ⟨n, j, none⟩ m v hmn
  · have := h.fresh i hh
    refine ⟨this.1, ?_⟩
    have hne' : i ≠ id := fun e => by rw [e] at this; rw [hi] at this; simp at this
    rw [setH_ne _ _ hne']; exact this.2

end Go.Proofs.Ytaefmhdpfmpijaa.Abs
