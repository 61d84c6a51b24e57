/- Loads, stores, new variables: sound. -/
import Derived.Test.YtaefmhdpfmpijaaFD
set_option linter.unusedVariables false
set_option linter.unusedSimpArgs false
namespace Go.Proofs.Ytaefmhdpfmpijaa.Abs
open Go

def takeN : Nat → List AV → Option (List AV)
  | 0, _ => some []
  | n + 1, x :: l => match takeN n l with
    | some r => some (x :: r)
    | none => none
  | _ + 1, [] => none

theorem takeN_spec : ∀ (n : Nat) (l r : List AV), takeN n l = some r → n ≤ l.length ∧ r = l.take n
  | 0, l, r, h => by simp [takeN] at h; simp [h]
  | n + 1, x :: l, r, h => by
    simp only [takeN] at h
    split at h
    · rename_i s hs
      obtain ⟨h1, rfl⟩ := takeN_spec n l s hs
      injection h with h
      subst h
      exact ⟨by simpa using h1, by simp⟩
    · cases h
  | n + 1, [], r, h => by simp [takeN] at h

theorem takeN_eq : ∀ (n : Nat) (l : List AV), n ≤ l.length → takeN n l = some (l.take n)
  | 0, l, h => by simp [takeN]
  | n + 1, x :: l, h => by simp only [takeN, takeN_eq n l (by simpa using h)]; simp
  | n + 1, [], h => by simp at h

/-- A scalar: it fits one cell. -/
def AV.one : AV → Bool
  | .int _ _ | .bool _ | .anyb | .str _ | .nil | .ro _ _ | .sl _ _ _ _ _ | .ptr _ _ | .rop _ | .nilp | .hid _ | .fn _ _ => true
  | _ => false

theorem one_scalar {E : Env} (hη : ∀ i, scalar (E.η i) = true) {x : AV} {v : Value} (h : RepV E x v) (ho : x.one = true) : scalar v = true := by
  cases x <;> simp only [AV.one] at ho <;> simp only [RepV] at h <;> (try (first | cases ho)) <;> (try (obtain ⟨_, _, rfl, _⟩ := h; rfl)) <;> (try (obtain ⟨_, rfl⟩ := h; rfl)) <;> (try (obtain ⟨_, _, rfl⟩ := h; rfl)) <;> (try (obtain ⟨_, rfl, _⟩ := h; rfl)) <;> (try (subst h; rfl))
  exact h ▸ hη _

/-- The cells of a value. -/
def cellsA : AV → List AV
  | .agg cs => cs
  | x => [x]

/-- A value whose cells are known. -/
def AV.laid : AV → Bool
  | .agg _ => true
  | x => x.one

theorem repL_length {E : Env} : ∀ (cs : List AV) (vs : List Value), RepL E cs vs → cs.length = vs.length
  | [], vs, h => by simp only [RepL] at h; subst h; rfl
  | c :: cs, vs, h => by
    simp only [RepL] at h
    obtain ⟨u, us, rfl, _, h⟩ := h
    simp [repL_length cs us h]

theorem repL_get {E : Env} : ∀ (cs : List AV) (vs : List Value), RepL E cs vs → ∀ (j : Nat) x, cs[j]? = some x → ∃ u, vs[j]? = some u ∧ RepV E x u
  | [], vs, h, j, x, hx => by simp at hx
  | c :: cs, vs, h, j, x, hx => by
    simp only [RepL] at h
    obtain ⟨u, us, rfl, hu, h⟩ := h
    cases j with
    | zero => simp at hx; subst hx; exact ⟨u, by simp, hu⟩
    | succ j => simpa using repL_get cs us h j x (by simpa using hx)

theorem repL_of_get {E : Env} : ∀ (cs : List AV) (vs : List Value), cs.length = vs.length → (∀ (j : Nat) x u, cs[j]? = some x → vs[j]? = some u → RepV E x u) → RepL E cs vs
  | [], [], _, _ => by simp [RepL]
  | [], _ :: _, h, _ => by simp at h
  | _ :: _, [], h, _ => by simp at h
  | c :: cs, v :: vs, h, k => by
    simp only [RepL]
    exact ⟨v, vs, rfl, k 0 c v (by simp) (by simp), repL_of_get cs vs (by simpa using h) (fun j x u hx hu => k (j + 1) x u (by simpa using hx) (by simpa using hu))⟩

theorem repM_get {E : Env} : ∀ (cs : List AV) (b off : Nat), RepM E cs b off → ∀ (j : Nat) x, cs[j]? = some x → ∃ u, E.w.cell? ⟨b, off + j, none⟩ = some u ∧ RepV E x u
  | [], b, off, h, j, x, hx => by simp at hx
  | c :: cs, b, off, h, j, x, hx => by
    simp only [RepM] at h
    obtain ⟨⟨u, hu, hr⟩, h⟩ := h
    cases j with
    | zero => simp at hx; subst hx; exact ⟨u, hu, hr⟩
    | succ j =>
      obtain ⟨u', h1, h2⟩ := repM_get cs b (off + 1) h j x (by simpa using hx)
      exact ⟨u', by rw [show off + (j + 1) = off + 1 + j by omega]; exact h1, h2⟩

theorem repM_of_get {E : Env} : ∀ (cs : List AV) (b off : Nat), (∀ (j : Nat) x, cs[j]? = some x → ∃ u, E.w.cell? ⟨b, off + j, none⟩ = some u ∧ RepV E x u) → RepM E cs b off
  | [], b, off, h => by simp [RepM]
  | c :: cs, b, off, h => by
    simp only [RepM]
    refine ⟨by simpa using h 0 c (by simp), repM_of_get cs b (off + 1) fun j x hx => ?_⟩
    have := h (j + 1) x (by simpa using hx)
    rwa [show off + (j + 1) = off + 1 + j by omega] at this

theorem cells_rep {E : Env} (hη : ∀ i, scalar (E.η i) = true) {x : AV} {v : Value} (h : RepV E x v) (ho : x.laid = true) : RepL E (cellsA x) v.cells.toList := by
  by_cases hx : ∃ cs, x = .agg cs
  · obtain ⟨cs, rfl⟩ := hx
    simp only [RepV] at h
    obtain ⟨vs, rfl, h⟩ := h
    exact h
  · have h1 : x.one = true := by cases x <;> simp_all [AV.laid]
    have h2 : cellsA x = [x] := by cases x <;> simp_all [cellsA]
    have h3 := one_scalar hη h h1
    have h4 : v.cells = #[v] := by cases v <;> simp_all [scalar, Value.cells]
    rw [h2, h4]
    simp only [RepL]
    exact ⟨v, [], rfl, h, rfl⟩

theorem run_sizeOf {P : Program} {t : TypeId} {i : TI} (h : TIok P t i) (w : World) : (sizeOf t).run P w = .ok i.size w := by
  obtain ⟨f, hf, hs, _⟩ := h.info
  simp [sizeOf, typeInfo, hf, hs]

theorem run_zeroValue {P : Program} {t : TypeId} {i : TI} (h : TIok P t i) (hz : i.zero ≠ .top) (w : World) : ∃ z, (zeroValue t).run P w = .ok z w ∧ ∀ E, RepV E i.zero z := by
  obtain ⟨f, hf, _, _, z, hz1, _, hz2, _⟩ := h.info
  exact ⟨z, by simp [zeroValue, typeInfo, hf, hz1], hz2.resolve_left hz⟩

theorem run_isAgg {P : Program} {t : TypeId} {i : TI} (h : TIok P t i) (w : World) : (isAgg t).run P w = .ok i.d.agg w := by
  obtain ⟨d, hd, _, ha⟩ := h.und
  simp only [isAgg, Sem.run_bind, run_underlying hd, Result.andThen_ok]
  rw [← ha]
  cases d <;> rfl

theorem addr_add (b o n : Nat) : Addr.add ⟨b, o, none⟩ n = ⟨b, o + n, none⟩ := Addr.add_lit b o n

/-- A variable's value, out of known cells at a place. -/
theorem run_loadVar {P : Program} {E : Env} {t : TypeId} {i : TI} (h : TIok P t i) {b off : Nat} {cs : List AV}
    (hm : ∀ (j : Nat) x, cs[j]? = some x → ∃ u, E.w.cell? ⟨b, off + j, none⟩ = some u ∧ RepV E x u) :
    (i.d.agg = true → ∀ r, takeN i.size cs = some r → ∃ v, (loadVar t ⟨b, off, none⟩).run P E.w = .ok v E.w ∧ RepV E (.agg r) v) ∧
    (i.d.agg = false → ∀ x, cs[0]? = some x → ∃ v, (loadVar t ⟨b, off, none⟩).run P E.w = .ok v E.w ∧ RepV E x v) := by
  constructor
  · intro ha r hr
    obtain ⟨hl, rfl⟩ := takeN_spec _ _ _ hr
    have hex : ∃ vs : List Value, vs.length = i.size ∧ (∀ (j : Nat), j < i.size → ∃ x u, cs[j]? = some x ∧ vs[j]? = some u ∧ E.w.cell? ⟨b, off + j, none⟩ = some u ∧ RepV E x u) := by
      have : ∀ n, n ≤ cs.length → ∃ vs : List Value, vs.length = n ∧ (∀ (j : Nat), j < n → ∃ x u, cs[j]? = some x ∧ vs[j]? = some u ∧ E.w.cell? ⟨b, off + j, none⟩ = some u ∧ RepV E x u) := by
        intro n
        induction n with
        | zero => exact fun _ => ⟨[], rfl, fun j hj => by omega⟩
        | succ n ih =>
          intro hn
          obtain ⟨vs, hl', hv⟩ := ih (by omega)
          obtain ⟨u, hu, hr⟩ := hm n cs[n] (by simp)
          refine ⟨vs ++ [u], by simp [hl'], fun j hj => ?_⟩
          by_cases hjn : j < n
          · obtain ⟨x, u', h1, h2, h3, h4⟩ := hv j hjn
            exact ⟨x, u', h1, by rw [List.getElem?_append_left (by omega)]; exact h2, h3, h4⟩
          · obtain rfl : j = n := by omega
            exact ⟨cs[j], u, by simp, by rw [List.getElem?_append_right (by omega)]; simp [hl'], hu, hr⟩
      exact this i.size hl
    obtain ⟨vs, hlen, hv⟩ := hex
    refine ⟨.agg vs.toArray, ?_, ?_⟩
    · have hlc := run_loadCells_list (P := P) E.w ⟨b, off, none⟩ vs (fun j v hj => by
        have hjl : j < i.size := by
          rcases Nat.lt_or_ge j vs.length with h' | h'
          · omega
          · simp [List.getElem?_eq_none h'] at hj
        obtain ⟨x, u, h1, h2, h3, h4⟩ := hv j hjl
        rw [addr_add]
        rw [h2] at hj
        injection hj with hj
        rw [← hj]; exact h3)
      rw [hlen] at hlc
      simp only [loadVar, Sem.run_bind, run_isAgg h, Result.andThen_ok, ha, if_true, run_sizeOf h, hlc, Sem.run_pure]
    · simp only [RepV]
      refine ⟨vs.toArray, rfl, repL_of_get _ _ (by simp [hlen]; omega) fun j x u hx hu => ?_⟩
      have hjl : j < i.size := by
        rcases Nat.lt_or_ge j (cs.take i.size).length with h' | h'
        · simp at h'; omega
        · simp [List.getElem?_eq_none h'] at hx
      obtain ⟨x', u', h1, h2, h3, h4⟩ := hv j hjl
      rw [List.getElem?_take_of_lt hjl, h1] at hx
      injection hx with hx
      simp only [List.toList_toArray] at hu
      rw [h2] at hu
      injection hu with hu
      rw [← hx, ← hu]; exact h4
  · intro ha x hx
    obtain ⟨u, hu, hr⟩ := hm 0 x hx
    refine ⟨u, ?_, hr⟩
    simp only [Nat.add_zero] at hu
    simp only [loadVar, Sem.run_bind, run_isAgg h, Result.andThen_ok, ha, Bool.false_eq_true, if_false, run_load, hu]

/-- What a value of a type is, out of cells. -/
def getP (T : Types) (t : TypeId) (cs : List AV) (K : AV → Prop) : Prop :=
  match T t with
  | some i => match i.d.agg with
    | true => ∃ r, takeN i.size cs = some r ∧ K (.agg r)
    | false => ∃ x, cs[0]? = some x ∧ K x
  | none => False

def loadP (T : Types) (H : Heap) (t : TypeId) (A : AV) (K : AV → Prop) : Prop :=
  match A with
  | .ptr id off => match H id with
    | some cs => getP T t (cs.drop off) K
    | none => False
  | .rop cs => getP T t cs K
  | _ => False

theorem getP_sound {P : Program} {T : Types} (hT : TOK P T) {E : Env} {t : TypeId} {b off : Nat} {cs : List AV} {K : AV → Prop}
    (hm : ∀ (j : Nat) x, cs[j]? = some x → ∃ u, E.w.cell? ⟨b, off + j, none⟩ = some u ∧ RepV E x u) (h : getP T t cs K) :
    ∃ x v, K x ∧ (loadVar t ⟨b, off, none⟩).run P E.w = .ok v E.w ∧ RepV E x v := by
  unfold getP at h
  split at h
  · rename_i i hi
    have hk := run_loadVar (hT t i hi) hm
    split at h
    · rename_i ha
      obtain ⟨r, hr, h⟩ := h
      obtain ⟨v, h1, h2⟩ := hk.1 ha r hr
      exact ⟨_, v, h, h1, h2⟩
    · rename_i ha
      obtain ⟨x, hx, h⟩ := h
      obtain ⟨v, h1, h2⟩ := hk.2 ha x hx
      exact ⟨_, v, h, h1, h2⟩
  · exact h.elim

theorem blk_cells {Z : Nat → Prop} {E : Env} {H : Heap} {nx : Nat} (h : HeapRep Z E H nx) {id n : Nat} {cs : List AV} (hi : H id = some cs) (hn : E.ρ id = some n)
    (j : Nat) (x : AV) (hx : cs[j]? = some x) : ∃ u, E.w.cell? ⟨n, j, none⟩ = some u ∧ RepV E x u := by
  rcases h.blk id cs hi with ⟨h0, _⟩ | ⟨m, hm, c, e, fr, h1, h2, h3, h4⟩
  · rw [hn] at h0; cases h0
  · obtain rfl : n = m := by rw [hn] at hm; injection hm
    obtain ⟨u, hu, hr⟩ := h4 j x hx
    exact ⟨u, by simp [World.cell?, h1, hu], hr⟩

theorem loadP_sound {P : Program} {T : Types} (hT : TOK P T) {Z : Nat → Prop} {E : Env} {H : Heap} {nx : Nat} (hr : HeapRep Z E H nx) {t : TypeId} {A : AV} {va : Value} {K : AV → Prop}
    (ha : RepV E A va) (h : loadP T H t A K) : ∃ x v, K x ∧ (Instr.loadAt t va).run P E.w = .ok v E.w ∧ RepV E x v := by
  unfold loadP at h
  split at h
  · rename_i id off
    simp only [RepV] at ha
    obtain ⟨n, hn, rfl⟩ := ha
    split at h
    · rename_i cs hcs
      obtain ⟨x, v, h1, h2, h3⟩ := getP_sound hT (b := n) (off := off) (E := E) (fun j x hx => blk_cells hr hcs hn (off + j) x (by simpa using hx)) h
      exact ⟨x, v, h1, by simp [Instr.loadAt, Instr.sureAddr, h2], h3⟩
    · exact h.elim
  · rename_i cs
    simp only [RepV] at ha
    obtain ⟨b, off, rfl, hc⟩ := ha
    rcases hc with rfl | ⟨_, hm⟩
    · obtain ⟨x, v, h1, h2, h3⟩ := getP_sound hT (b := b) (off := off) (E := E) (cs := []) (fun j x hx => by simp at hx) h
      exact ⟨x, v, h1, by simp [Instr.loadAt, Instr.sureAddr, h2], h3⟩
    · obtain ⟨x, v, h1, h2, h3⟩ := getP_sound hT (b := b) (off := off) (E := E) (repM_get cs b off hm) h
      exact ⟨x, v, h1, by simp [Instr.loadAt, Instr.sureAddr, h2], h3⟩
  · exact h.elim

end Go.Proofs.Ytaefmhdpfmpijaa.Abs
