/- From a law's contract to the form in which its row asks it. -/
import Derived.Test.YtaefmhdpfmpijaaGD
import Derived.ChangeShapes
set_option linter.unusedVariables false
set_option linter.unusedSimpArgs false
namespace Go.Proofs.Ytaefmhdpfmpijaa.Abs
open Go

mutual
theorem border_pure {E : Env} : ∀ (x : AV) (v : Value), pureV x = true → RepV E x v → RepB E x v []
  | .own _ _ _, v, hp, _ => by simp [pureV] at hp
  | .ref _, v, hp, _ => by simp [pureV] at hp
  | .sl _ _ _ _ _, v, hp, _ => by simp [pureV] at hp
  | .ptr _ _, v, hp, _ => by simp [pureV] at hp
  | .agg cs, v, hp, h => by
    simp only [RepV] at h
    obtain ⟨vs, rfl, hl⟩ := h
    simp only [RepB]
    exact ⟨vs, rfl, borderL_pure cs _ (by simpa [pureV] using hp) hl⟩
  | .tuple cs, v, hp, h => by
    simp only [RepV] at h
    obtain ⟨vs, rfl, hl⟩ := h
    simp only [RepB]
    exact ⟨vs, rfl, borderL_pure cs _ (by simpa [pureV] using hp) hl⟩
  | .top, v, hp, h => by simp only [RepB]; exact ⟨hp, h, trivial⟩
  | .int k n, v, hp, h => by simp only [RepB]; exact ⟨hp, h, trivial⟩
  | .bool b, v, hp, h => by simp only [RepB]; exact ⟨hp, h, trivial⟩
  | .anyb, v, hp, h => by simp only [RepB]; exact ⟨hp, h, trivial⟩
  | .str s, v, hp, h => by simp only [RepB]; exact ⟨hp, h, trivial⟩
  | .nil, v, hp, h => by simp only [RepB]; exact ⟨hp, h, trivial⟩
  | .ro len cs, v, hp, h => by simp only [RepB]; exact ⟨hp, h, trivial⟩
  | .rop cs, v, hp, h => by simp only [RepB]; exact ⟨hp, h, trivial⟩
  | .nilp, v, hp, h => by simp only [RepB]; exact ⟨hp, h, trivial⟩
  | .hid i, v, hp, h => by simp only [RepB]; exact ⟨hp, h, trivial⟩
  | .fn f cs, v, hp, h => by simp only [RepB]; exact ⟨hp, h, trivial⟩
theorem borderL_pure {E : Env} : ∀ (cs : List AV) (vs : List Value), pureL cs = true → RepL E cs vs → RepBL E cs vs []
  | [], vs, _, h => by simp only [RepL] at h; simp [RepBL, h]
  | c :: cs, vs, hp, h => by
    simp only [pureL, Bool.and_eq_true] at hp
    simp only [RepL] at h
    obtain ⟨u, us, rfl, hu, h⟩ := h
    simp only [RepBL]
    exact ⟨u, us, [], [], rfl, rfl, border_pure c u hp.1 hu, borderL_pure cs us hp.2 h⟩
end

/-- The reading at the beginning of a row: nothing is one's own, nothing is forbidden. -/
def env0 (W : World) : Env := ⟨fun _ => .bool false, fun _ => none, fun _ => False, W⟩

theorem refVals_pure : ∀ (ys : List AV) (vs : List Value), pureL ys = true → refVals ys vs = []
  | [], vs, _ => by simp [refVals]
  | y :: ys, [], _ => by simp [refVals]
  | y :: ys, v :: vs, hp => by
    simp only [pureL, Bool.and_eq_true] at hp
    have : isRef y = false := by
      cases y <;> simp [isRef, pureV] at hp ⊢
    simp [refVals, this, refVals_pure ys vs hp.2]

/-- A contract that answers true, as a row asks it. -/
theorem ACall.row {P : Program} {f : FuncId} {args : List AV} (h : ACall P f args (.bool true) []) (hp : pureL args = true) {W : World} {vals : List Value} (hr : RepL (env0 W) args vals) (ht : TabOk (env0 W)) :
    Calls P f vals.toArray W fun e W' => e = .returned (.bool true) ∧ Go.RowKit.Below W.heap.size W W' := by
  have h0 : HeapRep (fun b => (fun _ => False) b ∨ b ∈ ([] : List Nat)) (env0 W) noHeap 0 :=
    ⟨fun id cs hh => by simp [noHeap] at hh, fun id id' n h1 => by simp [noHeap] at h1, fun b => by simp [env0, Wr, noHeap], fun id n h1 => by simp [noHeap] at h1,
      fun id _ => ⟨rfl, rfl⟩, fun _ => rfl, fun id n h1 => by simp [env0] at h1, fun b hb => by simp at hb, ht⟩
  have := h.2 (fun _ => False) (env0 W) vals [] h0 (borderL_pure args vals hp hr) (by simp) (by simp)
  refine this.mono ?_
  rintro e w' ⟨v, E', Xr, rfl, rfl, _, hev, _, hres, _, _⟩
  rw [refVals_pure args vals hp] at hres
  simp only [List.nil_append, RepBL, RepB, RepV] at hres
  obtain ⟨u, us, Y, Y', he, _, ⟨_, rfl, _⟩, _⟩ := hres
  injection he with he _
  subst he
  refine ⟨rfl, Evo.below (hev.mono fun b hb => by simp at hb)⟩

/-- A slice of numbers, as a row reads it. -/
theorem rep_ints {W : World} {k : IntKind} {a : Addr} {len cap : Nat} {zs : List Int} (hl : len ≤ cap) (hz : zs.length = cap)
    (hcell : ∀ i, i < zs.length → W.cell? (a.add i) = some (.int k (zs.getD i 0))) :
    RepV (env0 W) (.ro (zs.take len).length ((zs.take len).map (AV.int k))) (.slice (some a) len cap) := by
  have hlen : (zs.take len).length = len := by simp; omega
  simp only [RepV]
  refine ⟨some a, cap, by rw [hlen], by omega, ?_⟩
  by_cases h0 : zs.take len = []
  · left; simp [h0]
  · right
    have hpos : 0 < zs.length := by
      cases zs with
      | nil => simp at h0
      | cons x zs => simp
    have ha : a.spot = none := by
      have := hcell 0 hpos
      simp only [Addr.add, if_true, World.cell?] at this
      split at this
      · cases hs : a.spot with
        | none => rfl
        | some q => simp [hs] at this
      · cases this
    obtain ⟨blk, off, spot⟩ := a
    simp only at ha
    subst ha
    refine ⟨blk, off, rfl, fun hf => hf, repM_of_get _ _ _ fun j x hx => ?_⟩
    rw [List.getElem?_map] at hx
    cases hz' : (zs.take len)[j]? with
    | none => rw [hz'] at hx; cases hx
    | some n =>
      rw [hz'] at hx
      simp only [Option.map_some] at hx
      injection hx with hx
      subst hx
      have hj : j < zs.length := by
        rcases Nat.lt_or_ge j zs.length with h' | h'
        · exact h'
        · rw [List.getElem?_eq_none (by simp; omega)] at hz'; cases hz'
      have := hcell j hj
      rw [addr_add] at this
      refine ⟨_, this, ?_⟩
      have hn : zs.getD j 0 = n := by
        rw [List.getElem?_take] at hz'
        split at hz'
        · simp [List.getD, hz']
        · cases hz'
      simp only [RepV, hn]

theorem rep_ints_nil {W : World} {k : IntKind} : RepV (env0 W) (.ro ([] : List Int).length (([] : List Int).map (AV.int k))) (.slice none 0 0) := by
  simp only [RepV]
  exact ⟨none, 0, rfl, Nat.le_refl _, .inl rfl⟩

theorem wf_i64 {n : Int} (h : (Lit.int .i64 n).wf = true) : -9223372036854775808 ≤ n ∧ n < 9223372036854775808 := by
  simp [Lit.wf, IntKind.min, IntKind.max, IntKind.signed, IntKind.bits] at h
  omega
theorem wf_u8 {n : Int} (h : (Lit.int .u8 n).wf = true) : 0 ≤ n ∧ n < 256 := by
  simp [Lit.wf, IntKind.min, IntKind.max, IntKind.signed, IntKind.bits] at h
  omega
theorem wf_u64 {n : Int} (h : (Lit.int .u64 n).wf = true) : 0 ≤ n ∧ n < 18446744073709551616 := by
  simp [Lit.wf, IntKind.min, IntKind.max, IntKind.signed, IntKind.bits] at h
  omega

end Go.Proofs.Ytaefmhdpfmpijaa.Abs
