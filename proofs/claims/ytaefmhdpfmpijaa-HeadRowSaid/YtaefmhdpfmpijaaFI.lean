/- Literals of structs, arrays and slices: sound. -/
import Derived.Test.YtaefmhdpfmpijaaFH
set_option linter.unusedVariables false
set_option linter.unusedSimpArgs false
namespace Go.Proofs.Ytaefmhdpfmpijaa.Abs
open Go

def setSeg : List Seg → Nat → List AV → Option (Nat × List Seg)
  | [], _, _ => none
  | g :: r, 0, xs => some (g.s, ⟨g.o, g.s, xs⟩ :: r)
  | g :: r, i + 1, xs => match setSeg r i xs with
    | some (s, r') => some (s, g :: r')
    | none => none

def flat : List Seg → List AV
  | [] => []
  | g :: r => g.cs ++ flat r

def segsP (segs : List Seg) (ps : List (Nat × AV)) (K : List Seg → Prop) : Prop :=
  match ps with
  | [] => K segs
  | (i, x) :: ps => match setSeg segs i (cellsA x) with
    | some (s, segs') => match x with
      | .agg cs => (cs.length = s ∧ AV.ones (.agg cs) = true) ∧ segsP segs' ps K
      | x => cond (x.one && Nat.beq s 1) (segsP segs' ps K) False
    | none => False

theorem foldl_put : ∀ (l : List Value) (m off : Nat) (cells : Array Value),
    ((l.zipIdx m).foldl (fun cs (p : Value × Nat) => cs.setIfInBounds (off + p.2) p.1) cells).size = cells.size ∧
    ∀ k, off + m + l.length ≤ cells.size → ((l.zipIdx m).foldl (fun cs (p : Value × Nat) => cs.setIfInBounds (off + p.2) p.1) cells)[k]? =
      if off + m ≤ k ∧ k < off + m + l.length then l[k - (off + m)]? else cells[k]?
  | [], m, off, cells => by
    refine ⟨rfl, fun k _ => ?_⟩
    simp only [List.zipIdx_nil, List.foldl_nil, List.length_nil]
    rw [if_neg (by omega)]
  | v :: l, m, off, cells => by
    obtain ⟨h1, h2⟩ := foldl_put l (m + 1) off (cells.setIfInBounds (off + m) v)
    simp only [List.zipIdx_cons, List.foldl_cons]
    refine ⟨h1.trans (by simp), fun k hk => ?_⟩
    simp only [List.length_cons] at hk ⊢
    rw [h2 k (by simp; omega)]
    by_cases hkm : k = off + m
    · subst hkm
      rw [if_neg (by omega), if_pos (by omega)]
      rw [Array.getElem?_setIfInBounds_self, if_pos (by omega)]
      simp
    · by_cases hin : off + (m + 1) ≤ k ∧ k < off + (m + 1) + l.length
      · rw [if_pos hin, if_pos (by omega)]
        rw [show k - (off + m) = (k - (off + (m + 1))) + 1 by omega]
        simp
      · rw [if_neg hin, if_neg (by omega), Array.getElem?_setIfInBounds_ne (by omega)]

/-- The segments lie apart. -/
def Apart (segs : List Seg) : Prop := segs.Pairwise fun g h => g.o + g.s ≤ h.o

theorem tile_le : ∀ (segs : List Seg) (k : Nat), tile k segs = true → ∀ g ∈ segs, k ≤ g.o
  | [], _, _, _, hg => by simp at hg
  | g :: r, k, h, g', hg => by
    simp only [tile, Bool.and_eq_true] at h
    have hk := Nat.eq_of_beq_eq_true h.1
    rcases List.mem_cons.1 hg with rfl | hg
    · omega
    · have := tile_le r _ h.2 g' hg; omega

theorem tile_apart : ∀ (segs : List Seg) (k : Nat), tile k segs = true → Apart segs
  | [], _, _ => List.Pairwise.nil
  | g :: r, k, h => by
    simp only [tile, Bool.and_eq_true] at h
    have hk := Nat.eq_of_beq_eq_true h.1
    exact List.Pairwise.cons (fun h' hh => by have := tile_le r _ h.2 h' hh; omega) (tile_apart r _ h.2)

theorem setSeg_tile : ∀ (segs : List Seg) (i : Nat) (xs : List AV) (s : Nat) (segs' : List Seg), setSeg segs i xs = some (s, segs') → ∀ k, tile k segs = true → tile k segs' = true
  | [], i, xs, s, segs', h, k, ht => by simp [setSeg] at h
  | g :: r, 0, xs, s, segs', h, k, ht => by
    simp only [setSeg] at h
    injection h with h
    injection h with h1 h2
    subst h2
    exact ht
  | g :: r, i + 1, xs, s, segs', h, k, ht => by
    simp only [setSeg] at h
    split at h
    · rename_i s' r' hr
      injection h with h
      injection h with h1 h2
      subst h2
      simp only [tile, Bool.and_eq_true] at ht ⊢
      exact ⟨ht.1, setSeg_tile r i xs s' r' hr _ ht.2⟩
    · cases h

/-- What stands where, behind one segment more. -/
theorem setSeg_spec : ∀ (segs : List Seg) (i : Nat) (xs : List AV) (s : Nat) (segs' : List Seg), setSeg segs i xs = some (s, segs') →
    ∃ g, segs[i]? = some g ∧ g.s = s ∧ ∀ h ∈ segs', h = ⟨g.o, g.s, xs⟩ ∨ (h ∈ segs ∧ (Apart segs → h.o + h.s ≤ g.o ∨ g.o + g.s ≤ h.o))
  | [], i, xs, s, segs', h => by simp [setSeg] at h
  | g :: r, 0, xs, s, segs', h => by
    simp only [setSeg] at h
    injection h with h
    injection h with h1 h2
    subst h2
    refine ⟨g, by simp, h1, fun h' hh => ?_⟩
    rcases List.mem_cons.1 hh with rfl | hh
    · exact .inl rfl
    · exact .inr ⟨by simp [hh], fun ap => .inr ((List.pairwise_cons.1 ap).1 h' hh)⟩
  | g :: r, i + 1, xs, s, segs', h => by
    simp only [setSeg] at h
    split at h
    · rename_i s' r' hr
      injection h with h
      injection h with h1 h2
      subst h2
      obtain ⟨g', e1, e2, e3⟩ := setSeg_spec r i xs s' r' hr
      refine ⟨g', by simpa using e1, e2.trans h1, fun h' hh => ?_⟩
      rcases List.mem_cons.1 hh with rfl | hh
      · exact .inr ⟨by simp, fun ap => .inl ((List.pairwise_cons.1 ap).1 g' (List.mem_of_getElem? e1))⟩
      · rcases e3 h' hh with rfl | ⟨k1, k2⟩
        · exact .inl rfl
        · exact .inr ⟨by simp [k1], fun ap => k2 (List.pairwise_cons.1 ap).2⟩
    · cases h

theorem segs_step {E : Env} {segs segs' : List Seg} {i s : Nat} {xs : List AV} {vs : Array Value} {cells : Array Value} (hok : SegsOk E segs cells) (hap : Apart segs)
    (hs : setSeg segs i xs = some (s, segs')) (hl : xs.length = s) (hr : RepL E xs vs.toList) :
    ∃ g, segs[i]? = some g ∧ g.s = vs.size ∧ g.o + vs.size ≤ cells.size ∧
      SegsOk E segs' (vs.zipIdx.foldl (fun cs (p : Value × Nat) => cs.setIfInBounds (g.o + p.2) p.1) cells) := by
  obtain ⟨g, e1, e2, e3⟩ := setSeg_spec segs i xs s segs' hs
  have hvs : vs.size = xs.length := by have := repL_length _ _ hr; simpa using this.symm
  obtain ⟨g1, g2, g3⟩ := hok g (List.mem_of_getElem? e1)
  refine ⟨g, e1, by omega, by omega, fun h hh => ?_⟩
  have hf := foldl_put vs.toList 0 g.o cells
  have hz : vs.zipIdx.foldl (fun cs (p : Value × Nat) => cs.setIfInBounds (g.o + p.2) p.1) cells = (vs.toList.zipIdx 0).foldl (fun cs (p : Value × Nat) => cs.setIfInBounds (g.o + p.2) p.1) cells := by
    rw [← Array.foldl_toList, Array.toList_zipIdx]
  rw [hz]
  have hlen : vs.toList.length = vs.size := by simp
  rcases e3 h hh with rfl | ⟨k1, k2⟩
  · refine ⟨by simp [hl, e2], by rw [hf.1]; exact g2, fun j x hx => ?_⟩
    obtain ⟨u, hu, hr'⟩ := repL_get _ _ hr j x hx
    have hj : j < vs.size := by
      rcases Nat.lt_or_ge j vs.toList.length with h' | h'
      · simpa using h'
      · rw [List.getElem?_eq_none h'] at hu; cases hu
    refine ⟨u, ?_, hr'⟩
    show _ = some u
    rw [hf.2 (g.o + j) (by omega), if_pos (by omega)]
    rw [show g.o + j - (g.o + 0) = j by omega]
    exact hu
  · obtain ⟨c1, c2, c3⟩ := hok h k1
    refine ⟨c1, by rw [hf.1]; exact c2, fun j x hx => ?_⟩
    obtain ⟨u, hu, hr'⟩ := c3 j x hx
    have hj : j < h.s := by
      rcases Nat.lt_or_ge j h.cs.length with h' | h'
      · omega
      · rw [List.getElem?_eq_none h'] at hx; cases hx
    refine ⟨u, ?_, hr'⟩
    rw [hf.2 (h.o + j) (by omega), if_neg ?_]
    · exact hu
    · have := k2 hap
      omega

def RepPs (E : Env) : List (Nat × AV) → List (Nat × Value) → Prop
  | [], vs => vs = []
  | (i, x) :: ps, vs => ∃ v r, vs = (i, v) :: r ∧ RepV E x v ∧ RepPs E ps r

/-- The places that the model's literal uses are those of the segments. -/
def PlaceOk (place : Nat → Option (Nat × Nat)) (segs : List Seg) : Prop := ∀ (i : Nat) (g : Seg), segs[i]? = some g → place i = some (g.o, g.s)

theorem setSeg_place {place : Nat → Option (Nat × Nat)} : ∀ (segs : List Seg) (i : Nat) (xs : List AV) (s : Nat) (segs' : List Seg), setSeg segs i xs = some (s, segs') →
    ∀ (k : Nat) (g' : Seg), segs'[k]? = some g' → ∃ g : Seg, segs[k]? = some g ∧ g.o = g'.o ∧ g.s = g'.s
  | [], i, xs, s, segs', h => by simp [setSeg] at h
  | g :: r, 0, xs, s, segs', h => by
    simp only [setSeg] at h
    injection h with h
    injection h with h1 h2
    subst h2
    intro k g' hk
    cases k with
    | zero => simp at hk; subst hk; exact ⟨g, by simp, rfl, rfl⟩
    | succ k => exact ⟨g', by simpa using hk, rfl, rfl⟩
  | g :: r, i + 1, xs, s, segs', h => by
    simp only [setSeg] at h
    split at h
    · rename_i s' r' hr
      injection h with h
      injection h with h1 h2
      subst h2
      intro k g' hk
      cases k with
      | zero => simp at hk; subst hk; exact ⟨g, by simp, rfl, rfl⟩
      | succ k => simpa using setSeg_place (place := place) r i xs s' r' hr k g' (by simpa using hk)
    · cases h

theorem segsP_sound {E : Env} (hη : ∀ i, scalar (E.η i) = true) {place : Nat → Option (Nat × Nat)} {K : List Seg → Prop} : ∀ (ps : List (Nat × AV)) (vs : List (Nat × Value)) (segs : List Seg) (cells : Array Value) (k0 : Nat),
    SegsOk E segs cells → tile k0 segs = true → PlaceOk place segs → RepPs E ps vs → segsP segs ps K →
    ∃ segs' cells', K segs' ∧ Instr.fill place cells vs = some cells' ∧ SegsOk E segs' cells' ∧ tile k0 segs' = true ∧ cells'.size = cells.size
  | [], vs, segs, cells, k0, hok, ht, hp, hr, h => by
    simp only [RepPs] at hr
    subst hr
    exact ⟨segs, cells, h, rfl, hok, ht, rfl⟩
  | (i, x) :: ps, vs, segs, cells, k0, hok, ht, hp, hr, h => by
    simp only [RepPs] at hr
    obtain ⟨v, r, rfl, hx, hr⟩ := hr
    unfold segsP at h
    split at h
    · rename_i s segs' hs
      have hcond : (cellsA x).length = s ∧ x.ones = true ∧ segsP segs' ps K := by
        split at h
        · exact ⟨h.1.1, h.1.2, h.2⟩
        · rename_i hne
          cases hb : (x.one && Nat.beq s 1) with
          | false => rw [hb] at h; exact h.elim
          | true =>
            rw [hb] at h
            simp only [Bool.and_eq_true] at hb
            have hs1 := Nat.eq_of_beq_eq_true hb.2
            have hc : cellsA x = [x] := by cases x <;> first | rfl | exact absurd rfl (hne _)
            exact ⟨by rw [hc, hs1]; rfl, by simp [AV.ones, hc, hb.1], h⟩
      obtain ⟨hl, ho, hk⟩ := hcond
      have hvs := (ones_cells hη hx ho).1
      obtain ⟨g, e1, e2, e3, e4⟩ := segs_step hok (tile_apart segs k0 ht) hs hl hvs
      have hp' : PlaceOk place segs' := fun k g' hg' => by
        obtain ⟨g0, q1, q2, q3⟩ := setSeg_place (place := place) segs i (cellsA x) s segs' hs k g' hg'
        rw [← q2, ← q3]; exact hp k g0 q1
      obtain ⟨segs'', cells', k1, k2, k3, k4, k5⟩ := segsP_sound hη ps r segs' _ k0 e4 (setSeg_tile segs i _ s segs' hs k0 ht) hp' hr hk
      refine ⟨segs'', cells', k1, ?_, k3, k4, ?_⟩
      · simp only [Instr.fill, hp i g e1, e2]
        have : (v.cells.size != v.cells.size || decide (g.o + v.cells.size > cells.size)) = false := by simp; omega
        rw [show (decide (v.cells.size ≠ v.cells.size) || decide (g.o + v.cells.size > cells.size)) = false by simp; omega]
        simpa using k2
      · rw [k5, ← Array.foldl_toList, Array.toList_zipIdx]
        exact (foldl_put v.cells.toList 0 g.o cells).1
    · exact h.elim

theorem flat_rep {E : Env} {cells : Array Value} : ∀ (segs : List Seg) (k : Nat), SegsOk E segs cells → tile k segs = true → ∀ (j : Nat) x, (flat segs)[j]? = some x → ∃ u, cells[k + j]? = some u ∧ RepV E x u
  | [], k, hok, ht, j, x, hx => by simp [flat] at hx
  | g :: r, k, hok, ht, j, x, hx => by
    simp only [tile, Bool.and_eq_true] at ht
    have hk := Nat.eq_of_beq_eq_true ht.1
    subst hk
    obtain ⟨h1, h2, h3⟩ := hok g (by simp)
    simp only [flat] at hx
    by_cases hj : j < g.cs.length
    · rw [List.getElem?_append_left hj] at hx; exact h3 j x hx
    · rw [List.getElem?_append_right (by omega)] at hx
      obtain ⟨u, hu, hr⟩ := flat_rep r _ (fun g' hg' => hok g' (by simp [hg'])) ht.2 _ x hx
      exact ⟨u, by rw [← hu]; congr 1; omega, hr⟩

theorem flat_length {E : Env} {cells : Array Value} : ∀ (segs : List Seg), SegsOk E segs cells → (flat segs).length = (segs.map (·.s)).sum
  | [], _ => rfl
  | g :: r, hok => by
    simp only [flat, List.length_append, List.map_cons, List.sum_cons]
    rw [flat_length r (fun g' hg' => hok g' (by simp [hg'])), (hok g (by simp)).1]

end Go.Proofs.Ytaefmhdpfmpijaa.Abs
