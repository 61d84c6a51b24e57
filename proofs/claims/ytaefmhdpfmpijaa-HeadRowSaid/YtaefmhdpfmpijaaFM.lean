/- copy, make, slice literals, conversions, comparisons of arrays, of slices with nil: sound. -/
import Derived.Test.YtaefmhdpfmpijaaFL
import Derived.Laws.BytesString
import Derived.Laws.Small
set_option linter.unusedVariables false
set_option linter.unusedSimpArgs false
namespace Go.Proofs.Ytaefmhdpfmpijaa.Abs
open Go

def copyP (T : Types) (H : Heap) (t : TypeId) (B X : AV) (K : AV → Heap → Prop) : Prop :=
  match T t with
  | some ⟨.slice e, _, _, _, _⟩ => match T e with
    | some ei => match B with
      | .sl id off len es full => match H id with
        | some cs => srcP H ei.size X fun n src => (src.all AV.one = true ∧ es = ei.size ∧ off + len * es ≤ cs.length) ∧
            K (.int .i64 (Nat.min n len : Nat)) (setH H id (some (setN cs off (src.take (Nat.min n len * es)))))
        | none => False
      | _ => False
    | none => False
  | _ => False

theorem copyP_sound {P : Program} {T : Types} (hT : TOK P T) {Z : Nat → Prop} {E : Env} {H : Heap} {nx : Nat} (hr : HeapRep Z E H nx) {t tx ty : TypeId} {B X : AV} {vb vx : Value} {K : AV → Heap → Prop}
    (hb : RepV E B vb) (hx : RepV E X vx) (h : copyP T H t B X K) :
    ∃ x H' E' r, K x H' ∧ (Builtin.copy_ #[t, tx] ty #[vb, vx]).run P E.w = .ok r E'.w ∧ After Z E H x H' nx r E' := by
  unfold copyP at h
  split at h
  case h_2 => exact h.elim
  rename_i e a1 b1 z1 sg1 ht
  obtain ⟨d, hd, hdo, _⟩ := (hT t _ ht).und
  have ho' : d = .slice e := hdo
  subst ho'
  split at h
  case h_2 => exact h.elim
  rename_i ei he
  have hse := fun w => run_sizeOf (hT e _ he) w
  split at h
  case h_2 => exact h.elim
  rename_i id off len es full
  split at h
  case h_2 => exact h.elim
  rename_i cs hcs
  obtain ⟨n, src, ⟨⟨hone, rfl, hl⟩, hk⟩, hS⟩ := srcP_sound (P := P) hr hx h
  simp only [RepV] at hb
  obtain ⟨ao, cap, rfl, hlc, hfull, hc⟩ := hb
  obtain ⟨vs, h1, h2⟩ := hS.some E.w.drawn (Nat.min n len) (Nat.min_le_left _ _)
  have hlen := hS.len E.w
  have hmul : Nat.min n len * ei.size ≤ n * ei.size := Nat.mul_le_mul_right _ (Nat.min_le_left _ _)
  have hmul2 : Nat.min n len * ei.size ≤ len * ei.size := Nat.mul_le_mul_right _ (Nat.min_le_right _ _)
  have htl : (src.take (Nat.min n len * ei.size)).length = Nat.min n len * ei.size := by simp [hS.size]
  rcases hc with rfl | ⟨m, c, e', fr, hm, rfl, hh, hs⟩
  · have hl0 : len = 0 := by omega
    subst hl0
    have hm0 : Nat.min n 0 = 0 := Nat.min_zero n
    rw [hm0, Nat.zero_mul, List.take_zero] at hk h2
    simp only [RepL] at h2
    refine ⟨_, _, E, goInt 0, hk, ?_, ⟨Later.refl E, Evo.refl _ _, rep_int E _ _, by simp only [setN]; rw [setH_id _ _ _ hcs]; exact hr⟩⟩
    have h1' : (Builtin.firstCells ei.size (Nat.min n 0) vx).run P E.w = .ok vs E.w := h1
    rw [hm0] at h1'
    have hv0 : vs = #[] := by simpa using h2
    subst hv0
    cases ao with
    | none => simp [Builtin.copy_, run_underlying hd, hse, hlen, hm0, h1']
    | some a => simp [Builtin.copy_, run_underlying hd, hse, hlen, hm0, h1', storeCells]
  · have hsc : ∀ v ∈ vs.toList, scalar v = true := repL_scalar hr.one _ _ h2 (fun x hx' => by
      rw [List.all_eq_true] at hone; exact hone x (List.mem_of_mem_take hx'))
    obtain ⟨E', k1, k2, k3, k4⟩ := storeCells_sound (P := P) (off := off) _ vs.toList 0 E H cs hr hcs hm (by rw [htl]; omega) h2 hsc
    refine ⟨_, _, E', goInt (Nat.min n len : Nat), hk, ?_, ⟨k2, k3, rep_int E' _ _, by simpa using k4⟩⟩
    have h1' : (Builtin.firstCells ei.size (Nat.min n len) vx).run P E.w = .ok vs E.w := h1
    simp only [Builtin.copy_, List.getElem?_toArray, List.getElem?_cons_zero, List.getElem?_cons_succ, run_underlying hd, hse, hlen, h1', Sem.run_bind, Result.andThen_ok, k1, Sem.run_pure]

def zerosA (n : Nat) : List AV → List AV
  | [z] => List.replicate n z
  | zc => (List.replicate n zc).flatten

theorem zerosA_get (n : Nat) (zc : List AV) (hz : 0 < zc.length) : (zerosA n zc).length = n * zc.length ∧ ∀ j, j < n * zc.length → (zerosA n zc)[j]? = zc[j % zc.length]? := by
  have key : ((List.replicate n zc).flatten).length = n * zc.length ∧ ∀ j, j < n * zc.length → ((List.replicate n zc).flatten)[j]? = zc[j % zc.length]? := by
    refine ⟨by simp [List.length_flatten], ?_⟩
    induction n with
    | zero => intro j hj; simp at hj
    | succ n ih =>
      intro j hj
      rw [List.replicate_succ, List.flatten_cons]
      by_cases hjz : j < zc.length
      · rw [List.getElem?_append_left hjz, Nat.mod_eq_of_lt hjz]
      · have e1 : j % zc.length = (j - zc.length) % zc.length := Nat.mod_eq_sub_mod (by omega)
        rw [List.getElem?_append_right (by omega), ih _ (by rw [Nat.add_mul] at hj; omega), e1]
  unfold zerosA
  split
  · rename_i z
    refine ⟨by simp, fun j hj => ?_⟩
    simp only [List.length_cons, List.length_nil, Nat.zero_add, Nat.mul_one] at hj
    simp [List.getElem?_replicate, hj, Nat.mod_one]
  · exact key

theorem zeros_rep {E : Env} {zv : Value} {zc : List AV} (hz : RepL E zc zv.cells.toList) (h0 : 0 < zc.length) (n : Nat) :
    ∀ (j : Nat) x, (zerosA n zc)[j]? = some x → ∃ u, ((Array.range (n * zc.length)).map (zv.cells[· % zv.cells.size]!))[j]? = some u ∧ RepV E x u := by
  have hsz : zv.cells.size = zc.length := by have := repL_length _ _ hz; simpa using this.symm
  obtain ⟨g1, g2⟩ := zerosA_get n zc h0
  intro j x hx
  have hj : j < n * zc.length := by
    rcases Nat.lt_or_ge j (zerosA n zc).length with h' | h'
    · omega
    · rw [List.getElem?_eq_none h'] at hx; cases hx
  rw [g2 j hj] at hx
  obtain ⟨u, hu, hr⟩ := repL_get _ _ hz _ x hx
  rw [Array.getElem?_toList] at hu
  refine ⟨u, ?_, hr⟩
  have hlt : j % zc.length < zv.cells.size := by rw [hsz]; exact Nat.mod_lt _ h0
  simp only [Array.getElem?_map, Array.getElem?_range, hj, if_true, Option.map_some, hsz]
  rw [Array.getElem?_eq_getElem hlt] at hu
  rw [getElem!_pos zv.cells (j % zc.length) hlt]
  exact hu

def makeSliceP (T : Types) (H : Heap) (nx : Nat) (t : TypeId) (L C : AV) (K : AV → Heap → Nat → Prop) : Prop :=
  match T t with
  | some ⟨.slice e, _, _, _, _⟩ => match T e with
    | some ei => match L, C with
      | .int _ l, .int _ c => (c = l ∧ 0 ≤ l ∧ l * ei.bytes ≤ 17592186044416 ∧ l ≤ 17592186044416 ∧ 0 < (cellsA ei.zero).length ∧ (cellsA ei.zero).length = ei.size ∧ ei.zero.ones = true) ∧
          forceL (cellsA ei.zero) fun zs => forceSz ei.size fun sz => K (.sl nx 0 l.toNat sz true) (setH H nx (some (zerosA l.toNat zs))) (nx + 1)
      | _, _ => False
    | none => False
  | _ => False

theorem makeSliceP_sound {P : Program} {T : Types} (hT : TOK P T) {Z : Nat → Prop} {E : Env} {H : Heap} {nx : Nat} (hr : HeapRep Z E H nx) {t : TypeId} {L C : AV} {vl vc : Value} {K : AV → Heap → Nat → Prop}
    (hl : RepV E L vl) (hc : RepV E C vc) (h : makeSliceP T H nx t L C K) :
    ∃ x H' nx' E' r, K x H' nx' ∧ (Instr.makeSlice t vl vc).run P E.w = .ok r E'.w ∧ After Z E H x H' nx' r E' := by
  unfold makeSliceP at h
  simp only [forceL_eq, forceSz_eq] at h
  split at h
  case h_2 => exact h.elim
  rename_i e a1 b1 z1 sg1 ht
  obtain ⟨d, hd, hdo, _⟩ := (hT t _ ht).und
  have ho' : d = .slice e := hdo
  subst ho'
  split at h
  case h_2 => exact h.elim
  rename_i ei he
  have hse := fun w => run_sizeOf (hT e _ he) w
  split at h
  case h_2 => exact h.elim
  rename_i k l k' c
  obtain ⟨⟨rfl, hl0, hlb, hll, hz0, hzs, hzo⟩, hk⟩ := h
  simp only [RepV] at hl hc
  subst hl; subst hc
  have hznt : ei.zero ≠ .top := fun e => by rw [e] at hzo; simp [AV.ones, cellsA, AV.one] at hzo
  obtain ⟨z, hzv, hzr⟩ := run_zeroValue (hT e _ he) hznt E.w
  have hzc := (ones_cells hr.one (hzr E) hzo).1
  have hzv' : ∀ w, (zeroValue e).run P w = .ok z w := fun w => by
    obtain ⟨f, hf, _, _, z', hz', _⟩ := (hT e _ he).info
    have e1 : (zeroValue e).run P E.w = .ok z' E.w := by simp [zeroValue, typeInfo, hf, hz']
    rw [hzv] at e1
    injection e1 with e1 _
    subst e1
    simp [zeroValue, typeInfo, hf, hz']
  obtain ⟨f, hf, hfs, hfb, _⟩ := (hT e _ he).info
  have hw : IntKind.i64.wrap c = c := wrap_in (by simp only [IntKind.lo]; omega) (by simp only [IntKind.hi]; omega)
  obtain ⟨g1, g2⟩ := zerosA_get c.toNat (cellsA ei.zero) hz0
  have hcs := zeros_rep hzc hz0 c.toNat
  obtain ⟨k1, k2, k3, k4, k5⟩ := newRow_sound (P := P) hr e ((Array.range (c.toNat * (cellsA ei.zero).length)).map (z.cells[· % z.cells.size]!)) (zerosA c.toNat (cellsA ei.zero)) (by rw [g1]; simp) hcs
  refine ⟨_, _, _, _, .slice (some ⟨E.w.heap.size, 0, none⟩) c.toNat c.toNat, hk, ?_, ⟨k2, k3, ?_, k4⟩⟩
  · have hti : ∀ w, (typeInfo e).run P w = .ok f w := fun w => by simp [typeInfo, hf]
    have hask : ∀ k w, (askRoom k).run P w = .ok () w := fun k w => by unfold askRoom; split <;> simp [mark, Sem.run]
    have fin : ∀ R', R' = (Array.range (c.toNat * (cellsA ei.zero).length)).map (z.cells[· % z.cells.size]!) →
        (((newRow e R').run P E.w).andThen fun a w' => Result.ok (Value.slice (some a) c.toNat c.toNat) w') =
          .ok (.slice (some ⟨E.w.heap.size, 0, none⟩) c.toNat c.toNat) (E.alloc nx (.cells ((Array.range (c.toNat * (cellsA ei.zero).length)).map (z.cells[· % z.cells.size]!)) e)).w := by
      rintro R' rfl
      rw [k1]; rfl
    by_cases hn : c.toNat * ei.size = 0
    · have hc0 : c.toNat = 0 := by
        rcases Nat.mul_eq_zero.1 hn with h | h
        · exact h
        · omega
      have hfe : ¬ ((f.bytes : Int) * c > 2 ^ 48) := by
        have : (f.bytes : Int) * c ≤ 17592186044416 := by rw [hfb, Int.mul_comm]; exact hlb
        omega
      simp only [Instr.makeSlice, Sem.run_bind, run_underlying hd, Result.andThen_ok, asInt, asIntOf, Sem.run_pure, hti, hw]
      rw [if_neg (by simp; omega)]
      simp only [Sem.run_bind, hask, Result.andThen_ok, hse, hn, if_true, Sem.run_pure]
      exact fin _ (by rw [hc0]; simp)
    · have hfe : ¬ ((f.bytes : Int) * c > 2 ^ 48) := by
        have : (f.bytes : Int) * c ≤ 17592186044416 := by rw [hfb, Int.mul_comm]; exact hlb
        omega
      simp only [Instr.makeSlice, Sem.run_bind, run_underlying hd, Result.andThen_ok, asInt, asIntOf, Sem.run_pure, hti, hw]
      rw [if_neg (by simp; omega)]
      simp only [Sem.run_bind, hask, Result.andThen_ok, hse, hn, if_false, Sem.run_pure, hzv']
      exact fin _ (by rw [hzs])
  · simp only [RepV]
    exact ⟨_, _, rfl, Nat.le_refl _, fun _ => rfl, .inr ⟨_, _, e, (0, 0), k5, rfl, Go.heap_alloc_new _ _, by simp; rw [hzs]; exact Nat.le_refl _⟩⟩

end Go.Proofs.Ytaefmhdpfmpijaa.Abs
