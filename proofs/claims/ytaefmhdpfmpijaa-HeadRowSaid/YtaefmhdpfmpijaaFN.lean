/- Slice literals, conversions, comparisons of arrays and with nil: sound. -/
import Derived.Test.YtaefmhdpfmpijaaFM
set_option linter.unusedVariables false
set_option linter.unusedSimpArgs false
namespace Go.Proofs.Ytaefmhdpfmpijaa.Abs
open Go

def repSegs : Nat → Nat → Nat → List AV → List Seg
  | 0, _, _, _ => []
  | n + 1, k, sz, zc => ⟨k, sz, zc⟩ :: repSegs n (k + sz) sz zc

theorem repSegs_tile : ∀ (n k sz : Nat) (zc : List AV), tile k (repSegs n k sz zc) = true
  | 0, _, _, _ => rfl
  | n + 1, k, sz, zc => by simp [repSegs, tile, repSegs_tile n (k + sz) sz zc]

theorem repSegs_sum : ∀ (n k sz : Nat) (zc : List AV), ((repSegs n k sz zc).map (·.s)).sum = n * sz
  | 0, _, _, _ => by simp [repSegs]
  | n + 1, k, sz, zc => by
    simp only [repSegs, List.map_cons, List.sum_cons, repSegs_sum n (k + sz) sz zc]
    rw [Nat.add_mul]; omega

theorem repSegs_get : ∀ (n i sz : Nat) (zc : List AV) (k : Nat) (g : Seg), (repSegs n (i * sz) sz zc)[k]? = some g → g.o = (i + k) * sz ∧ g.s = sz ∧ g.cs = zc ∧ k < n
  | 0, _, _, _, k, g, h => by simp [repSegs] at h
  | n + 1, i, sz, zc, k, g, h => by
    cases k with
    | zero => simp [repSegs] at h; subst h; simp
    | succ k =>
      simp only [repSegs, List.getElem?_cons_succ] at h
      have e : i * sz + sz = (i + 1) * sz := by rw [Nat.add_mul]; omega
      rw [e] at h
      obtain ⟨h1, h2, h3, h4⟩ := repSegs_get n (i + 1) sz zc k g h
      exact ⟨by rw [h1]; congr 1; omega, h2, h3, by omega⟩

def buildSliceP (T : Types) (H : Heap) (nx : Nat) (t : TypeId) (len : Nat) (ps : List (Nat × AV)) (K : AV → Heap → Nat → Prop) : Prop :=
  match T t with
  | some ⟨.slice e, _, _, _, _⟩ => match T e with
    | some ei => cond (Nat.beq (cellsA ei.zero).length ei.size && ei.zero.ones && Nat.ble 1 ei.size && Nat.ble (len * ei.size) 16777216)
        (segsP (repSegs len 0 ei.size (cellsA ei.zero)) ps fun segs => forceL (flat segs) fun ds => forceSz ei.size fun sz => K (.sl nx 0 len sz true) (setH H nx (some ds)) (nx + 1)) False
    | none => False
  | _ => False

theorem buildSliceP_sound {P : Program} {T : Types} (hT : TOK P T) {Z : Nat → Prop} {E : Env} {H : Heap} {nx : Nat} (hr : HeapRep Z E H nx) {t : TypeId} {len : Nat} {ps : List (Nat × AV)} {vs : List (Nat × Value)}
    {K : AV → Heap → Nat → Prop} (hps : RepPs E ps vs) (h : buildSliceP T H nx t len ps K) :
    ∃ x H' nx' E' r, K x H' nx' ∧ (Instr.buildSlice t len vs.toArray).run P E.w = .ok r E'.w ∧ After Z E H x H' nx' r E' := by
  unfold buildSliceP at h
  simp only [forceL_eq, forceSz_eq] at h
  split at h
  case h_2 => exact h.elim
  rename_i e a1 b1 z1 sg1 ht
  obtain ⟨d, hd, hdo, _⟩ := (hT t _ ht).und
  have ho' : d = .slice e := hdo
  subst ho'
  split at h
  case h_2 => exact h.elim
  rename_i ei he
  have hse := fun w => run_sizeOf (hT e _ he) w
  cases hcond : (Nat.beq (cellsA ei.zero).length ei.size && ei.zero.ones && Nat.ble 1 ei.size && Nat.ble (len * ei.size) 16777216) with
  | false => rw [hcond] at h; exact h.elim
  | true =>
  rw [hcond] at h
  simp only [cond_true] at h
  simp only [Bool.and_eq_true] at hcond
  obtain ⟨⟨⟨hzs, hzo⟩, hs1⟩, hlim⟩ := hcond
  have hzs := Nat.eq_of_beq_eq_true hzs
  have hs1 := Nat.le_of_ble_eq_true hs1
  have hlim := Nat.le_of_ble_eq_true hlim
  have hznt : ei.zero ≠ .top := fun e => by rw [e] at hzo; simp [AV.ones, cellsA, AV.one] at hzo
  obtain ⟨f, hf, hfs, hfb, z, hfz, hzsz, hzr, _⟩ := (hT e _ he).info
  have hzr' := hzr.resolve_left hznt
  have hzv : ∀ w, (zeroValue e).run P w = .ok z w := fun w => by simp [zeroValue, typeInfo, hf, hfz]
  have hzc := (ones_cells hr.one (hzr' E) hzo).1
  let cells : Array Value := (Array.range (len * ei.size)).map (z.cells[· % z.cells.size]!)
  have hrep := zeros_rep hzc (by omega) len
  obtain ⟨g1, g2⟩ := zerosA_get len (cellsA ei.zero) (by omega)
  have hok : SegsOk E (repSegs len 0 ei.size (cellsA ei.zero)) cells := by
    intro g hg
    obtain ⟨k, hk⟩ := List.getElem?_of_mem hg
    have := repSegs_get len 0 ei.size (cellsA ei.zero) k g (by rw [Nat.zero_mul]; exact hk)
    obtain ⟨q1, q2, q3, q4⟩ := this
    rw [Nat.zero_add] at q1
    have hk1 : (k + 1) * ei.size ≤ len * ei.size := Nat.mul_le_mul_right _ (by omega)
    have hk2 : (k + 1) * ei.size = k * ei.size + ei.size := by rw [Nat.add_mul]; omega
    refine ⟨by rw [q3, q2, hzs], by rw [q1, q2]; simp [cells]; omega, fun j x hx => ?_⟩
    rw [q3] at hx
    have hj : j < ei.size := by
      rcases Nat.lt_or_ge j (cellsA ei.zero).length with h' | h'
      · omega
      · rw [List.getElem?_eq_none h'] at hx; cases hx
    have := hrep (g.o + j) x (by
      rw [g2 _ (by rw [hzs, q1]; omega), q1, hzs]
      rw [Nat.mul_comm, Nat.mul_add_mod, Nat.mod_eq_of_lt hj]; exact hx)
    rw [hzs] at this
    exact this
  have hp : PlaceOk (fun i => some (i * ei.size, ei.size)) (repSegs len 0 ei.size (cellsA ei.zero)) := fun k g hg => by
    obtain ⟨q1, q2, _⟩ := repSegs_get len 0 ei.size (cellsA ei.zero) k g (by rw [Nat.zero_mul]; exact hg)
    simp [q1, q2]
  obtain ⟨segs', cells', ⟨k1, k1s⟩, k2, k3, k4, k5⟩ := segsP_sound hr.one ps vs _ cells 0 hok (repSegs_tile _ _ _ _) hp hps (segsP_sum _ _ h)
  have hcl : cells.size = len * ei.size := by simp [cells]
  have hfl := repL_of_cells segs' cells' k3 k4 (by rw [k1s, repSegs_sum, k5, hcl])
  obtain ⟨m1, m2, m3, m4, m5⟩ := newRow_sound (P := P) hr e cells' (flat segs') (by have := repL_length _ _ hfl; simp at this; omega)
    (fun j x hx => by obtain ⟨u, hu, hr'⟩ := repL_get _ _ hfl j x hx; exact ⟨u, by simpa using hu, hr'⟩)
  refine ⟨_, _, _, _, .slice (some ⟨E.w.heap.size, 0, none⟩) len len, k1, ?_, ⟨m2, m3, ?_, m4⟩⟩
  · have hnl : ¬ (len * ei.size > 2 ^ 24) := by omega
    have hzcells : ∀ zz : Array Value, (len * ei.size = 0 → True) → True := fun _ _ => trivial
    have fin2 : (do let a ← newRow e cells'; Pure.pure (Value.slice (some a) len len) : Sem Value).run P E.w = .ok (.slice (some ⟨E.w.heap.size, 0, none⟩) len len) (E.alloc nx (.cells cells' e)).w := by
      simp [m1]
    by_cases hn : len * ei.size = 0
    · simp only [Instr.buildSlice, Sem.run_bind, run_underlying hd, Result.andThen_ok, hse]
      rw [if_neg hnl]
      simp only [Sem.run_bind, Result.andThen_ok, hn, if_true, Sem.run_pure]
      have e0 : Array.map (fun (x : Nat) => (#[] : Array Value)[x % (#[] : Array Value).size]!) (Array.range 0) = cells := by simp [cells, hn]
      simp only [e0, k2]
      exact fin2
    · simp only [Instr.buildSlice, Sem.run_bind, run_underlying hd, Result.andThen_ok, hse]
      rw [if_neg hnl]
      simp only [Sem.run_bind, Result.andThen_ok, hn, if_false, Sem.run_pure, hzv]
      have e0 : Array.map (fun (x : Nat) => z.cells[x % z.cells.size]!) (Array.range (len * ei.size)) = cells := rfl
      simp only [e0, k2]
      exact fin2
  · simp only [RepV]
    exact ⟨_, _, rfl, Nat.le_refl _, fun _ => rfl, .inr ⟨_, cells', e, (0, 0), m5, rfl, Go.heap_alloc_new _ _, by rw [k5, hcl]; omega⟩⟩

end Go.Proofs.Ytaefmhdpfmpijaa.Abs
