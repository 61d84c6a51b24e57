/- Stores, new variables, rows of cells: sound. -/
import Derived.Test.YtaefmhdpfmpijaaFE
set_option linter.unusedVariables false
set_option linter.unusedSimpArgs false
namespace Go.Proofs.Ytaefmhdpfmpijaa.Abs
open Go

def setN (cs : List AV) (k : Nat) : List AV → List AV
  | [] => cs
  | x :: xs => setN (cs.set k x) (k + 1) xs

theorem setN_length : ∀ (xs cs : List AV) (k : Nat), (setN cs k xs).length = cs.length
  | [], _, _ => rfl
  | x :: xs, cs, k => by simp [setN, setN_length xs]

theorem setN_eq : ∀ (xs cs : List AV) (k : Nat), k + xs.length ≤ cs.length → setN cs k xs = cs.take k ++ xs ++ cs.drop (k + xs.length)
  | [], cs, k, h => by simp [setN]
  | x :: xs, cs, k, h => by
    simp only [List.length_cons] at h
    simp only [setN]
    rw [setN_eq xs (cs.set k x) (k + 1) (by simp; omega)]
    have h1 : (cs.set k x).take (k + 1) = cs.take k ++ [x] := by
      rw [List.take_succ_eq_append_getElem (by simp; omega)]
      simp [List.take_set_of_le]
    have h2 : (cs.set k x).drop (k + 1 + xs.length) = cs.drop (k + (x :: xs).length) := by
      rw [List.drop_set_of_lt (by omega)]
      simp only [List.length_cons]
      congr 1; omega
    rw [h1, h2]
    simp

theorem setH_twice (H : Heap) (id : Nat) (a b : Option (List AV)) : setH (setH H id a) id b = setH H id b := by
  funext i
  by_cases h : i = id
  · subst h; simp [setH_same]
  · rw [setH_ne _ _ h, setH_ne _ _ h, setH_ne _ _ h]

theorem setH_id (H : Heap) (id : Nat) (a : Option (List AV)) (h : H id = a) : setH H id a = H := by
  funext i
  by_cases hi : i = id
  · subst hi; rw [setH_same, h]
  · rw [setH_ne _ _ hi]

theorem run_store_one {P : Program} {Z : Nat → Prop} {E : Env} {H : Heap} {nx : Nat} (h : HeapRep Z E H nx) {id n j : Nat} {cs : List AV} {v : Value}
    (hi : H id = some cs) (hn : E.ρ id = some n) (hj : j < cs.length) (hs : scalar v = true) :
    (store ⟨n, j, none⟩ v).run P E.w = .ok () (E.w.setCell ⟨n, j, none⟩ v) := by
  rcases h.blk id cs hi with ⟨h0, _⟩ | ⟨m, hm, c, e, fr, h1, h2, h3, h4⟩
  · rw [hn] at h0; cases h0
  · obtain rfl : n = m := by rw [hn] at hm; injection hm
    have hjc : j < c.size := by omega
    have hcell : E.w.cell? ⟨n, j, none⟩ = some c[j] := by simp [World.cell?, h1, hjc]
    have hfr := frozen_false h1 (h2 j hjc)
    unfold store
    cases v with
    | agg _ => simp [scalar] at hs
    | tuple _ => simp [scalar] at hs
    | _ => simp [Sem.run, hcell, hfr]

theorem storeCells_sound {P : Program} {Z : Nat → Prop} {id n off : Nat} {nx : Nat} : ∀ (xs : List AV) (vs : List Value) (i : Nat) (E : Env) (H : Heap) (cs : List AV),
    HeapRep Z E H nx → H id = some cs → E.ρ id = some n → off + i + xs.length ≤ cs.length → RepL E xs vs → (∀ v ∈ vs, scalar v = true) →
    ∃ E', (storeCells ⟨n, off, none⟩ vs i).run P E.w = .ok () E'.w ∧ Later E E' ∧ Evo (Wr E.ρ H) E.w E'.w ∧ HeapRep Z E' (setH H id (some (setN cs (off + i) xs))) nx
  | [], vs, i, E, H, cs, h, hi, hn, hl, hr, hs => by
    simp only [RepL] at hr
    subst hr
    exact ⟨E, by simp [storeCells], Later.refl E, Evo.refl _ _, by simp only [setN]; rw [setH_id _ _ _ hi]; exact h⟩
  | x :: xs, vs, i, E, H, cs, h, hi, hn, hl, hr, hs => by
    simp only [RepL] at hr
    obtain ⟨u, us, rfl, hu, hr⟩ := hr
    simp only [List.length_cons] at hl
    have hj : off + i < cs.length := by omega
    have h1 := run_store_one (P := P) h hi hn hj (hs u (by simp))
    have h2 := h.store hi hn hj hu
    have hne : H id ≠ none := by rw [hi]; simp
    have L := later_store h (off + i) u hne hn
    have ev : Evo (Wr E.ρ H) E.w (E.store ⟨n, off + i, none⟩ u).w := Evo.setCell _ _ _ _ ⟨id, cs, hi, hn⟩
    obtain ⟨E', k1, k2, k3, k4⟩ := storeCells_sound (P := P) (off := off) xs us (i + 1) (E.store ⟨n, off + i, none⟩ u) (setH H id (some (cs.set (off + i) x))) (cs.set (off + i) x) h2
      (setH_same _ _ _) hn (by simp; omega) (RepL.later L _ _ hr) (fun v hv => hs v (by simp [hv]))
    refine ⟨E', ?_, L.trans k2, ?_, ?_⟩
    · simp only [storeCells, Sem.run_bind, addr_add, h1, Result.andThen_ok]
      exact k1
    · refine ev.trans k3 fun b hb hw => ?_
      obtain ⟨i', ds, e1, e2⟩ := hw
      by_cases hii : i' = id
      · subst hii; exact ⟨i', cs, hi, e2⟩
      · rw [setH_ne _ _ hii] at e1; exact ⟨i', ds, e1, e2⟩
    · rw [setH_twice] at k4
      simpa [setN, Nat.add_assoc] using k4

/-- All the cells of a value fit a cell each. -/
def AV.ones (X : AV) : Bool := (cellsA X).all AV.one

theorem ones_laid {X : AV} (h : X.ones = true) : X.laid = true := by
  cases X <;> simp_all [AV.ones, cellsA, AV.laid]

theorem repL_scalar {E : Env} (hη : ∀ i, scalar (E.η i) = true) : ∀ (cs : List AV) (vs : List Value), RepL E cs vs → (∀ x ∈ cs, x.one = true) → ∀ v ∈ vs, scalar v = true
  | [], vs, h, _ => by simp only [RepL] at h; subst h; simp
  | c :: cs, vs, h, hx => by
    simp only [RepL] at h
    obtain ⟨u, us, rfl, hu, h⟩ := h
    intro v hv
    rcases List.mem_cons.1 hv with rfl | hv
    · exact one_scalar hη hu (hx c (by simp))
    · exact repL_scalar hη cs us h (fun x hx' => hx x (by simp [hx'])) v hv

theorem ones_cells {E : Env} (hη : ∀ i, scalar (E.η i) = true) {X : AV} {v : Value} (h : RepV E X v) (ho : X.ones = true) :
    RepL E (cellsA X) v.cells.toList ∧ ∀ u ∈ v.cells.toList, scalar u = true := by
  have h1 := cells_rep hη h (ones_laid ho)
  exact ⟨h1, repL_scalar hη _ _ h1 (by simpa [AV.ones] using ho)⟩

def storeP (T : Types) (H : Heap) (t : TypeId) (A X : AV) (K : Heap → Prop) : Prop :=
  match A with
  | .ptr id off => match H id with
    | some cs => match T t with
      | some i => (X.ones = true ∧ (cellsA X).length = i.size ∧ off + i.size ≤ cs.length) ∧ K (setH H id (some (setN cs off (cellsA X))))
      | none => False
    | none => False
  | _ => False

theorem storeP_sound {P : Program} {T : Types} (hT : TOK P T) {Z : Nat → Prop} {E : Env} {H : Heap} {nx : Nat} (hr : HeapRep Z E H nx) {t : TypeId} {A X : AV} {va vx : Value} {K : Heap → Prop}
    (ha : RepV E A va) (hx : RepV E X vx) (h : storeP T H t A X K) :
    ∃ H' E', K H' ∧ (Instr.storeAt t va vx).run P E.w = .ok () E'.w ∧ Later E E' ∧ Evo (Wr E.ρ H) E.w E'.w ∧ HeapRep Z E' H' nx := by
  unfold storeP at h
  split at h
  · rename_i id off
    simp only [RepV] at ha
    obtain ⟨n, hn, rfl⟩ := ha
    split at h
    · rename_i cs hcs
      split at h
      · rename_i i hi
        obtain ⟨⟨ho, hl, hb⟩, hk⟩ := h
        obtain ⟨h1, h2⟩ := ones_cells hr.one hx ho
        obtain ⟨E', k1, k2, k3, k4⟩ := storeCells_sound (P := P) (off := off) (cellsA X) vx.cells.toList 0 E H cs hr hcs hn (by rw [hl]; simpa using hb) h1 h2
        refine ⟨_, E', hk, ?_, k2, k3, by simpa using k4⟩
        have hsz : vx.cells.size = i.size := by
          have := repL_length _ _ h1
          simp at this
          omega
        simp only [Instr.storeAt, Sem.run_bind, Instr.sureAddr, Sem.run_pure, Result.andThen_ok, storeVar, run_sizeOf (hT t i hi), hsz, ne_eq, not_true_eq_false, if_false]
        simpa using k1
      · exact h.elim
    · exact h.elim
  · exact h.elim

/-- A new row of cells. -/
theorem newRow_sound {P : Program} {Z : Nat → Prop} {E : Env} {H : Heap} {nx : Nat} (h : HeapRep Z E H nx) (e : TypeId) (c : Array Value) (cs : List AV)
    (hl : cs.length ≤ c.size) (hc : ∀ (j : Nat) x, cs[j]? = some x → ∃ u, c[j]? = some u ∧ RepV E x u) :
    (newRow e c).run P E.w = .ok ⟨E.w.heap.size, 0, none⟩ (E.alloc nx (.cells c e)).w ∧ Later E (E.alloc nx (.cells c e)) ∧ Evo (Wr E.ρ H) E.w (E.alloc nx (.cells c e)).w ∧
      HeapRep Z (E.alloc nx (.cells c e)) (setH H nx (some cs)) (nx + 1) ∧ (E.alloc nx (.cells c e)).ρ nx = some E.w.heap.size := by
  refine ⟨by simp [newRow, newObj, Sem.run, Env.alloc], later_alloc E _ (h.fresh nx (Nat.le_refl _)).1, Evo.alloc _ _ _, h.alloc c e (0, 0) cs (fun j _ hj => by simp at hj) hl hc, alloc_ρ_same _ _ _⟩

def boxP (H : Heap) (nx : Nat) (X : AV) (K : AV → Heap → Nat → Prop) : Prop :=
  force X fun X => X.ones = true ∧ K (.ptr nx 0) (setH H nx (some (cellsA X))) (nx + 1)

theorem boxP_sound {P : Program} {Z : Nat → Prop} {E : Env} {H : Heap} {nx : Nat} (hr : HeapRep Z E H nx) {e : TypeId} {X : AV} {v : Value} {K : AV → Heap → Nat → Prop}
    (hx : RepV E X v) (h : boxP H nx X K) : ∃ x H' nx' E' r, K x H' nx' ∧ (Instr.box e v).run P E.w = .ok r E'.w ∧ After Z E H x H' nx' r E' := by
  unfold boxP at h
  rw [force_eq] at h
  obtain ⟨ho, hk⟩ := h
  have h1 := (ones_cells hr.one hx ho).1
  obtain ⟨k1, k2, k3, k4, k5⟩ := newRow_sound (P := P) hr e v.cells (cellsA X) (by have := repL_length _ _ h1; simp at this; omega)
    (fun j x hx' => by obtain ⟨u, hu, hr'⟩ := repL_get _ _ h1 j x hx'; exact ⟨u, by simpa using hu, hr'⟩)
  refine ⟨_, _, _, _, .pointer (some ⟨E.w.heap.size, 0, none⟩), hk, ?_, ⟨k2, k3, ?_, k4⟩⟩
  · simp only [Instr.box, newVar, Sem.run_bind, k1, Result.andThen_ok, Sem.run_pure]
  · simp only [RepV]; exact ⟨_, k5, rfl⟩

def allocP (T : Types) (H : Heap) (nx : Nat) (e : TypeId) (K : AV → Heap → Nat → Prop) : Prop :=
  match T e with
  | some i => boxP H nx i.zero K
  | none => False

theorem allocP_sound {P : Program} {T : Types} (hT : TOK P T) {Z : Nat → Prop} {E : Env} {H : Heap} {nx : Nat} (hr : HeapRep Z E H nx) {e : TypeId} {K : AV → Heap → Nat → Prop}
    (h : allocP T H nx e K) : ∃ x H' nx' E' r, K x H' nx' ∧ (Instr.alloc e true (.tuple #[])).run P E.w = .ok r E'.w ∧ After Z E H x H' nx' r E' := by
  unfold allocP at h
  split at h
  · rename_i i hi
    have hz : i.zero ≠ .top := fun e => by rw [e] at h; simp [boxP, force_eq, AV.ones, cellsA, AV.one] at h
    obtain ⟨z, hz1, hz2⟩ := run_zeroValue (hT e i hi) hz E.w
    obtain ⟨x, H', nx', E', r, k1, k2, k3⟩ := boxP_sound (P := P) (e := e) hr (hz2 E) h
    refine ⟨x, H', nx', E', r, k1, ?_, k3⟩
    have : (Instr.alloc e true (.tuple #[])).run P E.w = (Instr.box e z).run P E.w := by
      simp only [Instr.alloc, Instr.box, Sem.run_bind, hz1, Result.andThen_ok]
    rw [this]; exact k2
  · exact h.elim

end Go.Proofs.Ytaefmhdpfmpijaa.Abs
