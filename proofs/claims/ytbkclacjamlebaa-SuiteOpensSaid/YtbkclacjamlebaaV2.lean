/- Texts FI to FO, merged. -/
import Derived.Laws.Tables
import Derived.Laws.BytesString
import Derived.Laws.Small
import Derived.Laws.Cover3
import Derived.Test.YtbkclacjamlebaaV1
set_option linter.unusedVariables false
set_option linter.unusedSimpArgs false
namespace Go.Proofs.Ytbkclacjamlebaa.Abs
open Go
section

def setSeg : List Seg → Nat → List AV → Option (Nat × List Seg)
 | [], _, _ => none
 | g :: r, 0, xs => some (g.s, ⟨g.o, g.s, xs⟩ :: r)
 | g :: r, i + 1, xs => match setSeg r i xs with
  | some (s, r') => some (s, g :: r')
  | none => none
def flat : List Seg → List AV
 | [] => []
 | g :: r => g.cs ++ flat r
def segsP (segs : List Seg) (ps : List (Nat × AV)) (K : List Seg → Prop) : Prop :=
 match ps with
 | [] => K segs
 | (i, x) :: ps => match setSeg segs i (cellsA x) with
  | some (s, segs') => match x with
   | .agg cs => (cs.length = s ∧ AV.ones (.agg cs) = true) ∧ segsP segs' ps K
   | x => cond (x.one && Nat.beq s 1) (segsP segs' ps K) False
  | none => False
theorem foldl_put : ∀ (l : List Value) (m off : Nat) (cells : Array Value),
  ((l.zipIdx m).foldl (fun cs (p : Value × Nat) => cs.setIfInBounds (off + p.2) p.1) cells).size = cells.size ∧
  ∀ k, off + m + l.length ≤ cells.size → ((l.zipIdx m).foldl (fun cs (p : Value × Nat) => cs.setIfInBounds (off + p.2) p.1) cells)[k]? =
   if off + m ≤ k ∧ k < off + m + l.length then l[k - (off + m)]? else cells[k]?
 | [], m, off, cells => by
  refine ⟨rfl, fun k _ => ?_⟩
  simp only [List.zipIdx_nil, List.foldl_nil, List.length_nil]
  rw [if_neg (by omega)]
 | v :: l, m, off, cells => by
  obtain ⟨h1, h2⟩ := foldl_put l (m + 1) off (cells.setIfInBounds (off + m) v)
  simp only [List.zipIdx_cons, List.foldl_cons]
  refine ⟨h1.trans (by simp), fun k hk => ?_⟩
  simp only [List.length_cons] at hk ⊢
  rw [h2 k (by simp; omega)]
  by_cases hkm : k = off + m
  ·subst hkm
   rw [if_neg (by omega), if_pos (by omega)]
   rw [Array.getElem?_setIfInBounds_self, if_pos (by omega)]
   simp
  ·by_cases hin : off + (m + 1) ≤ k ∧ k < off + (m + 1) + l.length
   ·rw [if_pos hin, if_pos (by omega)]
    rw [show k - (off + m) = (k - (off + (m + 1))) + 1 by omega]
    simp
   ·rw [if_neg hin, if_neg (by omega), Array.getElem?_setIfInBounds_ne (by omega)]
def Apart (segs : List Seg) : Prop := segs.Pairwise fun g h => g.o + g.s ≤ h.o
theorem tile_le : ∀ (segs : List Seg) (k : Nat), tile k segs = true → ∀ g ∈ segs, k ≤ g.o
 | [], _, _, _, hg => by simp at hg
 | g :: r, k, h, g', hg => by
  simp only [tile, Bool.and_eq_true] at h
  have hk := Nat.eq_of_beq_eq_true h.1
  rcases List.mem_cons.1 hg with rfl | hg
  ·omega
  ·have := tile_le r _ h.2 g' hg; omega
theorem tile_apart : ∀ (segs : List Seg) (k : Nat), tile k segs = true → Apart segs
 | [], _, _ => List.Pairwise.nil
 | g :: r, k, h => by
  simp only [tile, Bool.and_eq_true] at h
  have hk := Nat.eq_of_beq_eq_true h.1
  exact List.Pairwise.cons (fun h' hh => by have := tile_le r _ h.2 h' hh; omega) (tile_apart r _ h.2)
theorem setSeg_tile : ∀ (segs : List Seg) (i : Nat) (xs : List AV) (s : Nat) (segs' : List Seg), setSeg segs i xs = some (s, segs') → ∀ k, tile k segs = true → tile k segs' = true
 | [], i, xs, s, segs', h, k, ht => by simp [setSeg] at h
 | g :: r, 0, xs, s, segs', h, k, ht => by
  simp only [setSeg] at h
  injection h with h
  injection h with h1 h2
  subst h2
  exact ht
 | g :: r, i + 1, xs, s, segs', h, k, ht => by
  simp only [setSeg] at h
  split at h
  ·rename_i s' r' hr
   injection h with h
   injection h with h1 h2
   subst h2
   simp only [tile, Bool.and_eq_true] at ht ⊢
   exact ⟨ht.1, setSeg_tile r i xs s' r' hr _ ht.2⟩
  ·cases h
theorem setSeg_spec : ∀ (segs : List Seg) (i : Nat) (xs : List AV) (s : Nat) (segs' : List Seg), setSeg segs i xs = some (s, segs') →
  ∃ g, segs[i]? = some g ∧ g.s = s ∧ ∀ h ∈ segs', h = ⟨g.o, g.s, xs⟩ ∨ (h ∈ segs ∧ (Apart segs → h.o + h.s ≤ g.o ∨ g.o + g.s ≤ h.o))
 | [], i, xs, s, segs', h => by simp [setSeg] at h
 | g :: r, 0, xs, s, segs', h => by
  simp only [setSeg] at h
  injection h with h
  injection h with h1 h2
  subst h2
  refine ⟨g, by simp, h1, fun h' hh => ?_⟩
  rcases List.mem_cons.1 hh with rfl | hh
  ·exact .inl rfl
  ·exact .inr ⟨by simp [hh], fun ap => .inr ((List.pairwise_cons.1 ap).1 h' hh)⟩
 | g :: r, i + 1, xs, s, segs', h => by
  simp only [setSeg] at h
  split at h
  ·rename_i s' r' hr
   injection h with h
   injection h with h1 h2
   subst h2
   obtain ⟨g', e1, e2, e3⟩ := setSeg_spec r i xs s' r' hr
   refine ⟨g', by simpa using e1, e2.trans h1, fun h' hh => ?_⟩
   rcases List.mem_cons.1 hh with rfl | hh
   ·exact .inr ⟨by simp, fun ap => .inl ((List.pairwise_cons.1 ap).1 g' (List.mem_of_getElem? e1))⟩
   ·rcases e3 h' hh with rfl | ⟨k1, k2⟩
    ·exact .inl rfl
    ·exact .inr ⟨by simp [k1], fun ap => k2 (List.pairwise_cons.1 ap).2⟩
  ·cases h
theorem segs_step {E : Env} {segs segs' : List Seg} {i s : Nat} {xs : List AV} {vs : Array Value} {cells : Array Value} (hok : SegsOk E segs cells) (hap : Apart segs)
  (hs : setSeg segs i xs = some (s, segs')) (hl : xs.length = s) (hr : RepL E xs vs.toList) :
  ∃ g, segs[i]? = some g ∧ g.s = vs.size ∧ g.o + vs.size ≤ cells.size ∧
   SegsOk E segs' (vs.zipIdx.foldl (fun cs (p : Value × Nat) => cs.setIfInBounds (g.o + p.2) p.1) cells) := by
 obtain ⟨g, e1, e2, e3⟩ := setSeg_spec segs i xs s segs' hs
 have hvs : vs.size = xs.length := by have := repL_length _ _ hr; simpa using this.symm
 obtain ⟨g1, g2, g3⟩ := hok g (List.mem_of_getElem? e1)
 refine ⟨g, e1, by omega, by omega, fun h hh => ?_⟩
 have hf := foldl_put vs.toList 0 g.o cells
 have hz : vs.zipIdx.foldl (fun cs (p : Value × Nat) => cs.setIfInBounds (g.o + p.2) p.1) cells = (vs.toList.zipIdx 0).foldl (fun cs (p : Value × Nat) => cs.setIfInBounds (g.o + p.2) p.1) cells := by
  rw [← Array.foldl_toList, Array.toList_zipIdx]
 rw [hz]
 have hlen : vs.toList.length = vs.size := by simp
 rcases e3 h hh with rfl | ⟨k1, k2⟩
 ·refine ⟨by simp [hl, e2], by rw [hf.1]; exact g2, fun j x hx => ?_⟩
  obtain ⟨u, hu, hr'⟩ := repL_get _ _ hr j x hx
  have hj : j < vs.size := by
   rcases Nat.lt_or_ge j vs.toList.length with h' | h'
   ·simpa using h'
   ·rw [List.getElem?_eq_none h'] at hu; cases hu
  refine ⟨u, ?_, hr'⟩
  show _ = some u
  rw [hf.2 (g.o + j) (by omega), if_pos (by omega)]
  rw [show g.o + j - (g.o + 0) = j by omega]
  exact hu
 ·obtain ⟨c1, c2, c3⟩ := hok h k1
  refine ⟨c1, by rw [hf.1]; exact c2, fun j x hx => ?_⟩
  obtain ⟨u, hu, hr'⟩ := c3 j x hx
  have hj : j < h.s := by
   rcases Nat.lt_or_ge j h.cs.length with h' | h'
   ·omega
   ·rw [List.getElem?_eq_none h'] at hx; cases hx
  refine ⟨u, ?_, hr'⟩
  rw [hf.2 (h.o + j) (by omega), if_neg ?_]
  ·exact hu
  ·have := k2 hap
   omega
def RepPs (E : Env) : List (Nat × AV) → List (Nat × Value) → Prop
 | [], vs => vs = []
 | (i, x) :: ps, vs => ∃ v r, vs = (i, v) :: r ∧ RepV E x v ∧ RepPs E ps r
def PlaceOk (place : Nat → Option (Nat × Nat)) (segs : List Seg) : Prop := ∀ (i : Nat) (g : Seg), segs[i]? = some g → place i = some (g.o, g.s)
theorem setSeg_place {place : Nat → Option (Nat × Nat)} : ∀ (segs : List Seg) (i : Nat) (xs : List AV) (s : Nat) (segs' : List Seg), setSeg segs i xs = some (s, segs') →
  ∀ (k : Nat) (g' : Seg), segs'[k]? = some g' → ∃ g : Seg, segs[k]? = some g ∧ g.o = g'.o ∧ g.s = g'.s
 | [], i, xs, s, segs', h => by simp [setSeg] at h
 | g :: r, 0, xs, s, segs', h => by
  simp only [setSeg] at h
  injection h with h
  injection h with h1 h2
  subst h2
  intro k g' hk
  cases k with
  | zero => simp at hk; subst hk; exact ⟨g, by simp, rfl, rfl⟩
  | succ k => exact ⟨g', by simpa using hk, rfl, rfl⟩
 | g :: r, i + 1, xs, s, segs', h => by
  simp only [setSeg] at h
  split at h
  ·rename_i s' r' hr
   injection h with h
   injection h with h1 h2
   subst h2
   intro k g' hk
   cases k with
   | zero => simp at hk; subst hk; exact ⟨g, by simp, rfl, rfl⟩
   | succ k => simpa using setSeg_place (place := place) r i xs s' r' hr k g' (by simpa using hk)
  ·cases h
theorem segsP_sound {E : Env} (hη : ∀ i, scalar (E.η i) = true) {place : Nat → Option (Nat × Nat)} {K : List Seg → Prop} : ∀ (ps : List (Nat × AV)) (vs : List (Nat × Value)) (segs : List Seg) (cells : Array Value) (k0 : Nat),
  SegsOk E segs cells → tile k0 segs = true → PlaceOk place segs → RepPs E ps vs → segsP segs ps K →
  ∃ segs' cells', K segs' ∧ Instr.fill place cells vs = some cells' ∧ SegsOk E segs' cells' ∧ tile k0 segs' = true ∧ cells'.size = cells.size
 | [], vs, segs, cells, k0, hok, ht, hp, hr, h => by
  simp only [RepPs] at hr
  subst hr
  exact ⟨segs, cells, h, rfl, hok, ht, rfl⟩
 | (i, x) :: ps, vs, segs, cells, k0, hok, ht, hp, hr, h => by
  simp only [RepPs] at hr
  obtain ⟨v, r, rfl, hx, hr⟩ := hr
  unfold segsP at h
  split at h
  ·rename_i s segs' hs
   have hcond : (cellsA x).length = s ∧ x.ones = true ∧ segsP segs' ps K := by
    split at h
    ·exact ⟨h.1.1, h.1.2, h.2⟩
    ·rename_i hne
     cases hb : (x.one && Nat.beq s 1) with
     | false => rw [hb] at h; exact h.elim
     | true =>
      rw [hb] at h
      simp only [Bool.and_eq_true] at hb
      have hs1 := Nat.eq_of_beq_eq_true hb.2
      have hc : cellsA x = [x] := by cases x <;> first | rfl | exact absurd rfl (hne _)
      exact ⟨by rw [hc, hs1]; rfl, by simp [AV.ones, hc, hb.1], h⟩
   obtain ⟨hl, ho, hk⟩ := hcond
   have hvs := (ones_cells hη hx ho).1
   obtain ⟨g, e1, e2, e3, e4⟩ := segs_step hok (tile_apart segs k0 ht) hs hl hvs
   have hp' : PlaceOk place segs' := fun k g' hg' => by
    obtain ⟨g0, q1, q2, q3⟩ := setSeg_place (place := place) segs i (cellsA x) s segs' hs k g' hg'
    rw [← q2, ← q3]; exact hp k g0 q1
   obtain ⟨segs'', cells', k1, k2, k3, k4, k5⟩ := segsP_sound hη ps r segs' _ k0 e4 (setSeg_tile segs i _ s segs' hs k0 ht) hp' hr hk
   refine ⟨segs'', cells', k1, ?_, k3, k4, ?_⟩
   ·simp only [Instr.fill, hp i g e1, e2]
    have : (v.cells.size != v.cells.size || decide (g.o + v.cells.size > cells.size)) = false := by simp; omega
    rw [show (decide (v.cells.size ≠ v.cells.size) || decide (g.o + v.cells.size > cells.size)) = false by simp; omega]
    simpa using k2
   ·rw [k5, ← Array.foldl_toList, Array.toList_zipIdx]
    exact (foldl_put v.cells.toList 0 g.o cells).1
  ·exact h.elim
theorem flat_rep {E : Env} {cells : Array Value} : ∀ (segs : List Seg) (k : Nat), SegsOk E segs cells → tile k segs = true → ∀ (j : Nat) x, (flat segs)[j]? = some x → ∃ u, cells[k + j]? = some u ∧ RepV E x u
 | [], k, hok, ht, j, x, hx => by simp [flat] at hx
 | g :: r, k, hok, ht, j, x, hx => by
  simp only [tile, Bool.and_eq_true] at ht
  have hk := Nat.eq_of_beq_eq_true ht.1
  subst hk
  obtain ⟨h1, h2, h3⟩ := hok g (by simp)
  simp only [flat] at hx
  by_cases hj : j < g.cs.length
  ·rw [List.getElem?_append_left hj] at hx; exact h3 j x hx
  ·rw [List.getElem?_append_right (by omega)] at hx
   obtain ⟨u, hu, hr⟩ := flat_rep r _ (fun g' hg' => hok g' (by simp [hg'])) ht.2 _ x hx
   exact ⟨u, by rw [← hu]; congr 1; omega, hr⟩
theorem flat_length {E : Env} {cells : Array Value} : ∀ (segs : List Seg), SegsOk E segs cells → (flat segs).length = (segs.map (·.s)).sum
 | [], _ => rfl
 | g :: r, hok => by
  simp only [flat, List.length_append, List.map_cons, List.sum_cons]
  rw [flat_length r (fun g' hg' => hok g' (by simp [hg'])), (hok g (by simp)).1]
end
section

def eqS : AV → Value → Bool
 | .int k n, .int j m => kEq k j && decide (n = m)
 | .bool b, .bool c => b == c
 | .str s, .string ba => decide (bytesOf ba = s)
 | .nil, .slice none 0 0 => true
 | .nilp, .pointer none => true
 | .top, _ => true
 | _, _ => false
theorem eqS_rep {x : AV} {v : Value} (h : eqS x v = true) (E : Env) : RepV E x v := by
 unfold eqS at h
 split at h
 ·simp only [Bool.and_eq_true, decide_eq_true_eq] at h
  rw [kEq_eq h.1, h.2]; exact rep_int E _ _
 ·rw [beq_iff_eq] at h; subst h; exact rep_bool E _
 ·simp only [RepV]; exact ⟨_, rfl, of_decide_eq_true h⟩
 ·simp [RepV]
 ·simp [RepV]
 ·simp [RepV]
 ·cases h
def eqL : List AV → List Value → Bool
 | [], [] => true
 | x :: xs, v :: vs => eqS x v && eqL xs vs
 | _, _ => false
theorem eqL_rep : ∀ {xs : List AV} {vs : List Value}, eqL xs vs = true → ∀ E, RepL E xs vs
 | [], [], _, E => by simp [RepL]
 | x :: xs, v :: vs, h, E => by
  simp only [eqL, Bool.and_eq_true] at h
  simp only [RepL]
  exact ⟨v, vs, rfl, eqS_rep h.1 E, eqL_rep h.2 E⟩
 | [], _ :: _, h, E => by simp [eqL] at h
 | _ :: _, [], h, E => by simp [eqL] at h
def eqV : AV → Value → Bool
 | .agg cs, .agg vs => eqL cs vs.toList
 | x, v => eqS x v
theorem eqV_rep {x : AV} {v : Value} (h : eqV x v = true) (E : Env) : RepV E x v := by
 unfold eqV at h
 split at h
 ·simp only [RepV]; exact ⟨_, rfl, eqL_rep h E⟩
 ·exact eqS_rep h E
def isTop : AV → Bool
 | .top => true
 | _ => false
def fieldsEq : List Field → List (Nat × TypeId) → Bool
 | [], [] => true
 | f :: fs, (o, t) :: r => Nat.beq f.offset o && Nat.beq f.type t && fieldsEq fs r
 | _, _ => false
theorem fieldsEq_eq : ∀ (fs : List Field) (r : List (Nat × TypeId)), fieldsEq fs r = true → fs.map (fun f => (f.offset, f.type)) = r
 | [], [], _ => rfl
 | f :: fs, (o, t) :: r, h => by
  simp only [fieldsEq, Bool.and_eq_true] at h
  simp only [List.map_cons, fieldsEq_eq fs r h.2, Nat.eq_of_beq_eq_true h.1.1, Nat.eq_of_beq_eq_true h.1.2]
 | [], _ :: _, h => by simp [fieldsEq] at h
 | _ :: _, [], h => by simp [fieldsEq] at h
def tdChk : TD → TypeDesc → Bool
 | .int k, .int j => kEq k j
 | .bool, .bool => true
 | .str, .string => true
 | .slice e, .slice e' => Nat.beq e e'
 | .arr n e, .array n' e' => Nat.beq n n' && Nat.beq e e'
 | .struct fs, .struct a => fieldsEq a.toList fs
 | .ptr e, .pointer e' => Nat.beq e e'
 | .other, .struct _ => false
 | .other, .array _ _ => false
 | .other, _ => true
 | _, _ => false
theorem tdChk_of {d : TD} {t : TypeDesc} (h : tdChk d t = true) : d.of t ∧ TDesc.isAgg t = d.agg := by
 unfold tdChk at h
 split at h
 ·rw [kEq_eq h]; exact ⟨rfl, rfl⟩
 ·exact ⟨rfl, rfl⟩
 ·exact ⟨rfl, rfl⟩
 ·rw [Nat.eq_of_beq_eq_true h]; exact ⟨rfl, rfl⟩
 ·simp only [Bool.and_eq_true] at h
  rw [Nat.eq_of_beq_eq_true h.1, Nat.eq_of_beq_eq_true h.2]; exact ⟨rfl, rfl⟩
 ·exact ⟨⟨_, rfl, fieldsEq_eq _ _ h⟩, rfl⟩
 ·rw [Nat.eq_of_beq_eq_true h]; exact ⟨rfl, rfl⟩
 ·cases h
 ·cases h
 ·rename_i h1 h2
  refine ⟨trivial, ?_⟩
  cases t <;> first | rfl | exact absurd rfl (h1 _) | exact absurd rfl (h2 _ _)
 ·cases h
def segsChk : List Seg → List Value → Bool
 | [], _ => true
 | g :: r, vs => Nat.beq g.cs.length g.s && Nat.ble (g.o + g.s) vs.length && eqL g.cs ((vs.drop g.o).take g.s) && segsChk r vs
theorem segsChk_ok : ∀ {segs : List Seg} {vs : Array Value}, segsChk segs vs.toList = true → ∀ E, SegsOk E segs vs
 | [], vs, _, E => by intro g hg; simp at hg
 | g :: r, vs, h, E => by
  simp only [segsChk, Bool.and_eq_true] at h
  obtain ⟨⟨⟨h1, h2⟩, h3⟩, h4⟩ := h
  intro g' hg
  rcases List.mem_cons.1 hg with rfl | hg
  ·have hl := Nat.eq_of_beq_eq_true h1
   refine ⟨hl, by simpa using Nat.le_of_ble_eq_true h2, fun j x hx => ?_⟩
   obtain ⟨u, hu, hr⟩ := repL_get _ _ (eqL_rep h3 E) j x hx
   have hj : j < g'.s := by
    rcases Nat.lt_or_ge j g'.cs.length with h' | h'
    ·omega
    ·rw [List.getElem?_eq_none h'] at hx; cases hx
   rw [List.getElem?_take_of_lt hj, List.getElem?_drop] at hu
   exact ⟨u, by simpa using hu, hr⟩
  ·exact segsChk_ok h4 E g' hg
def structChk (P : Program) : List (Nat × TypeId) → List Seg → Bool
 | [], [] => true
 | _ :: _, [] => false
 | (o, t) :: fs, g :: r => Nat.beq o g.o && (match P.info? t with | some f => Nat.beq f.size g.s | none => false) && structChk P fs r
 | [], _ :: _ => false
theorem structChk_ok {P : Program} : ∀ {fs : List (Nat × TypeId)} {segs : List Seg}, structChk P fs segs = true →
  segs.length = fs.length ∧ ∀ (k : Nat) (g : Seg), segs[k]? = some g → ∃ ft ff, fs[k]? = some (g.o, ft) ∧ P.info? ft = some ff ∧ ff.size = g.s
 | [], [], _ => ⟨rfl, fun k g hk => by simp at hk⟩
 | _ :: _, [], h => by simp [structChk] at h
 | (o, t) :: fs, g :: r, h => by
  simp only [structChk, Bool.and_eq_true] at h
  obtain ⟨⟨h1, h2⟩, h3⟩ := h
  refine ⟨by simp [(structChk_ok h3).1], fun k g' hk => ?_⟩
  cases k with
  | zero =>
   simp at hk; subst hk
   split at h2
   ·rename_i f hf
    exact ⟨t, f, by simp [Nat.eq_of_beq_eq_true h1], hf, Nat.eq_of_beq_eq_true h2⟩
   ·cases h2
  | succ k => simpa using (structChk_ok h3).2 k g' (by simpa using hk)
 | [], _ :: _, h => by simp [structChk] at h
def arrChk (s : Nat) : Nat → List Seg → Bool
 | _, [] => true
 | k, g :: r => Nat.beq g.o (k * s) && Nat.beq g.s s && arrChk s (k + 1) r
theorem arrChk_ok {s : Nat} : ∀ {segs : List Seg} {k0 : Nat}, arrChk s k0 segs = true → ∀ (k : Nat) (g : Seg), segs[k]? = some g → g.o = (k0 + k) * s ∧ g.s = s
 | [], _, _, k, g, hk => by simp at hk
 | g :: r, k0, h, k, g', hk => by
  simp only [arrChk, Bool.and_eq_true] at h
  cases k with
  | zero => simp at hk; subst hk; exact ⟨Nat.eq_of_beq_eq_true h.1.1, Nat.eq_of_beq_eq_true h.1.2⟩
  | succ k =>
   have := arrChk_ok h.2 k g' (by simpa using hk)
   rwa [show k0 + 1 + k = k0 + (k + 1) by omega] at this
def segChk (P : Program) (i : TI) (z : Value) : Bool :=
 match i.segs with
 | [] => true
 | _ => tile 0 i.segs && Nat.beq (i.segs.map (·.s)).sum z.cells.size && segsChk i.segs z.cells.toList && match i.d with
  | .struct fs => structChk P fs i.segs
  | .arr _ e => match P.info? e with
   | some f => arrChk f.size 0 i.segs
   | none => false
  | _ => false
def tiChk (P : Program) (t : TypeId) (i : TI) : Bool :=
 match P.underlying t, P.info? t with
 | some d, some f => tdChk i.d d && Nat.beq f.size i.size && Nat.beq f.bytes i.bytes && match f.zero with
  | some z => (isTop i.zero || eqV i.zero z) && segChk P i z && Nat.beq z.cells.size i.size
  | none => false
 | _, _ => false
theorem tiChk_ok {P : Program} {t : TypeId} {i : TI} (h : tiChk P t i = true) : TIok P t i := by
 unfold tiChk at h
 split at h
 ·rename_i d f hd hf
  simp only [Bool.and_eq_true] at h
  obtain ⟨⟨⟨h1, h2⟩, h3⟩, h4⟩ := h
  split at h4
  ·rename_i z hz
   simp only [Bool.and_eq_true, Bool.or_eq_true] at h4
   obtain ⟨⟨h4, h5⟩, h6⟩ := h4
   have htd := tdChk_of h1
   refine ⟨⟨d, hd, htd.1, htd.2⟩, ⟨f, hf, Nat.eq_of_beq_eq_true h2, Nat.eq_of_beq_eq_true h3, z, hz, Nat.eq_of_beq_eq_true h6, ?_, ?_⟩⟩
   ·rcases h4 with h4 | h4
    ·left; revert h4; cases i.zero <;> simp [isTop]
    ·right; exact fun E => eqV_rep h4 E
   ·unfold segChk at h5
    split at h5
    ·left; assumption
    ·right
     simp only [Bool.and_eq_true] at h5
     obtain ⟨⟨⟨k1, k2⟩, k3⟩, k4⟩ := h5
     refine ⟨k1, Nat.eq_of_beq_eq_true k2, segsChk_ok k3, ?_⟩
     split at k4
     ·rename_i fs hdd
      try simp only [hdd]
      exact structChk_ok k4
     ·rename_i n e hdd
      try simp only [hdd]
      split at k4
      ·rename_i f' hf'
       exact ⟨f', hf', fun k g hg => by simpa using arrChk_ok k4 k g hg⟩
      ·cases k4
     ·cases k4
  ·cases h4
 ·cases h
def lookT : List (Nat × TI) → Types
 | [], _ => none
 | (k, i) :: r, t => cond (Nat.beq t k) (some i) (lookT r t)
def tabChk (P : Program) : List (Nat × TI) → Bool
 | [] => true
 | (k, i) :: r => tiChk P k i && tabChk P r
theorem tabChk_ok {P : Program} : ∀ {l : List (Nat × TI)}, tabChk P l = true → TOK P (lookT l)
 | [], _, t, i, h => by simp [lookT] at h
 | (k, j) :: r, hc, t, i, h => by
  simp only [tabChk, Bool.and_eq_true] at hc
  simp only [lookT] at h
  cases hb : Nat.beq t k with
  | true =>
   rw [hb] at h
   injection h with h
   subst h
   rw [Nat.eq_of_beq_eq_true hb]
   exact tiChk_ok hc.1
  | false =>
   rw [hb] at h
   exact tabChk_ok hc.2 t i h
def buildP (T : Types) (t : TypeId) (ps : List (Nat × AV)) (K : AV → Prop) : Prop :=
 match T t with
 | some i => match i.segs with
  | [] => False
  | g :: r => segsP (g :: r) ps fun segs => K (.agg (flat segs))
 | none => False
theorem repL_of_cells {E : Env} (segs : List Seg) (cells : Array Value) (hok : SegsOk E segs cells) (ht : tile 0 segs = true) (hs : (segs.map (·.s)).sum = cells.size) :
  RepL E (flat segs) cells.toList :=
 repL_of_get _ _ (by rw [flat_length segs hok, hs]; simp) fun j x u hx hu => by
  obtain ⟨u', h1, h2⟩ := flat_rep segs 0 hok ht j x hx
  simp only [Nat.zero_add] at h1
  simp only [Array.getElem?_toList] at hu
  rw [h1] at hu
  injection hu with hu
  rw [← hu]; exact h2
theorem setSeg_sum : ∀ (segs : List Seg) (i : Nat) (xs : List AV) (s : Nat) (segs' : List Seg), setSeg segs i xs = some (s, segs') → segs'.map (·.s) = segs.map (·.s)
 | [], i, xs, s, segs', h => by simp [setSeg] at h
 | g :: r, 0, xs, s, segs', h => by
  simp only [setSeg] at h
  injection h with h
  injection h with h1 h2
  subst h2; rfl
 | g :: r, i + 1, xs, s, segs', h => by
  simp only [setSeg] at h
  split at h
  ·rename_i s' r' hr
   injection h with h
   injection h with h1 h2
   subst h2
   simp [setSeg_sum r i xs s' r' hr]
  ·cases h
theorem segsP_sum {K : List Seg → Prop} : ∀ (ps : List (Nat × AV)) (segs : List Seg), segsP segs ps K → segsP segs ps fun segs' => K segs' ∧ segs'.map (·.s) = segs.map (·.s)
 | [], segs, h => by unfold segsP at h ⊢; exact ⟨h, rfl⟩
 | (i, x) :: ps, segs, h => by
  unfold segsP at h ⊢
  split at h
  ·rename_i s segs' hs
   have he := setSeg_sum _ _ _ _ _ hs
   cases x <;> simp only at h ⊢
   case agg cs =>
    have := segsP_sum ps segs' h.2
    rw [he] at this
    exact ⟨h.1, this⟩
   all_goals
    revert h
    generalize (AV.one _ && Nat.beq s 1) = b
    cases b
    ·exact fun h => h
    ·intro h
     have := segsP_sum ps segs' h
     rw [he] at this
     exact this
  ·exact h.elim
theorem places_of (P : Program) : ∀ (fs : List Field), (∀ (k : Nat) (fd : Field), fs[k]? = some fd → ∃ ff, P.info? fd.type = some ff) →
  ∃ places, fs.mapM (fun f => (P.info? f.type).map fun i => (f.offset, i.size)) = some places ∧ ∀ (k : Nat) (fd : Field) (ff : TypeInfo), fs[k]? = some fd → P.info? fd.type = some ff → places[k]? = some (fd.offset, ff.size)
 | [], _ => ⟨[], by simp, by simp⟩
 | f :: fs, h => by
  obtain ⟨ff, hff⟩ := h 0 f (by simp)
  obtain ⟨places, h1, h2⟩ := places_of P fs (fun k fd hk => h (k + 1) fd (by simpa using hk))
  refine ⟨(f.offset, ff.size) :: places, by simp [hff, h1], fun k fd ff' hk hf => ?_⟩
  cases k with
  | zero => simp at hk; subst hk; rw [hff] at hf; injection hf with hf; simp [hf]
  | succ k => simpa using h2 k fd ff' (by simpa using hk) hf
theorem buildP_sound {P : Program} {T : Types} (hT : TOK P T) {E : Env} (hη : ∀ i, scalar (E.η i) = true) {t : TypeId} {ps : List (Nat × AV)} {vs : List (Nat × Value)} {K : AV → Prop}
  (hr : RepPs E ps vs) (h : buildP T t ps K) : ∃ x r, K x ∧ (∀ w, (Instr.build t vs.toArray).run P w = .ok r w) ∧ RepV E x r := by
 unfold buildP at h
 split at h
 ·rename_i i hi
  split at h
  ·exact h.elim
  ·rename_i g r hseg
   obtain ⟨f, hf, hsz, hby, z, hz, _, hzr, hsg⟩ := (hT t i hi).info
   obtain ⟨d, hd, hdo, _⟩ := (hT t i hi).und
   rcases hsg with hsg | ⟨s1, s2, s3, s4⟩
   ·rw [hseg] at hsg; cases hsg
   ·have hzv : ∀ w, (zeroValue t).run P w = .ok z w := fun w => by simp [zeroValue, typeInfo, hf, hz]
    rw [hseg] at s1 s2 s3 s4
    have h' := segsP_sum ps (g :: r) h
    split at s4
    ·rename_i fs hdd
     rw [hdd] at hdo
     obtain ⟨a, rfl, ha⟩ := hdo
     obtain ⟨s4l, s4⟩ := s4
     have hall : ∀ (k : Nat) (fd : Field), a.toList[k]? = some fd → ∃ ff, P.info? fd.type = some ff := fun k fd hk => by
      have hlt : k < (g :: r).length := by
       rw [s4l, ← ha, List.length_map]
       rcases Nat.lt_or_ge k a.toList.length with h' | h'
       ·exact h'
       ·rw [List.getElem?_eq_none h'] at hk; cases hk
      obtain ⟨ft, ff, e1, e2, e3⟩ := s4 k _ (List.getElem?_eq_getElem hlt)
      rw [← ha, List.getElem?_map, hk] at e1
      simp at e1
      exact ⟨ff, by rw [e1.2]; exact e2⟩
     obtain ⟨places, hpl1, hpl2⟩ := places_of P a.toList hall
     have hp : PlaceOk (places.toArray[·]?) (g :: r) := fun k g' hg' => by
      obtain ⟨ft, ff, e1, e2, e3⟩ := s4 k g' hg'
      rw [← ha, List.getElem?_map] at e1
      cases hk : a.toList[k]? with
      | none => rw [hk] at e1; simp at e1
      | some fd =>
       rw [hk] at e1
       simp at e1
       have := hpl2 k fd ff hk (by rw [e1.2]; exact e2)
       simp [this, e1.1, e3]
     obtain ⟨segs', cells', k1, k2, k3, k4, k5⟩ := segsP_sound hη ps vs (g :: r) z.cells 0 (s3 E) s1 hp hr h'
     refine ⟨_, .agg cells', k1.1, fun w => ?_, ?_⟩
     ·apply run_build
      simp only [Program.built, hf, hd, hz, hpl1]
      simpa using k2
     ·simp only [RepV]
      exact ⟨_, rfl, repL_of_cells segs' cells' k3 k4 (by rw [k1.2, s2, k5])⟩
    ·rename_i m e hdd
     rw [hdd] at hdo
     have hdo' : d = .array m e := hdo
     subst hdo'
     obtain ⟨fe, hfe, hpl⟩ := s4
     have hp : PlaceOk (fun i => some (i * fe.size, fe.size)) (g :: r) := fun k g' hg' => by
      obtain ⟨e1, e2⟩ := hpl k g' hg'
      simp [e1, e2]
     obtain ⟨segs', cells', k1, k2, k3, k4, k5⟩ := segsP_sound hη ps vs (g :: r) z.cells 0 (s3 E) s1 hp hr h'
     refine ⟨_, .agg cells', k1.1, fun w => ?_, ?_⟩
     ·have hse : ∀ w, (sizeOf e).run P w = .ok fe.size w := fun w => by simp [sizeOf, typeInfo, hfe]
      simp [Instr.build, hzv, run_underlying hd, hse, k2]
     ·simp only [RepV]
      exact ⟨_, rfl, repL_of_cells segs' cells' k3 k4 (by rw [k1.2, s2, k5])⟩
    ·exact s4.elim
 ·exact h.elim
end
section

def srcP (H : Heap) (esz : Nat) (X : AV) (K : Nat → List AV → Prop) : Prop :=
 match X with
 | .nil => K 0 []
 | .ro len cs => cs.length = len * esz ∧ K len cs
 | .sl id off len es full => match H id with
  | some cs => ((es = esz ∧ off = 0 ∧ cs.length = len * esz) ∧ K len cs) ∨ ((es = esz ∧ off + len * esz ≤ cs.length) ∧ K len ((cs.drop off).take (len * esz)))
  | none => False
 | .str s => esz = 1 ∧ K s.length (s.map (AV.int .u8))
 | _ => False
theorem load_list {P : Program} {E : Env} {b off : Nat} {cs : List AV} (hm : ∀ (j : Nat) x, cs[j]? = some x → ∃ u, E.w.cell? ⟨b, off + j, none⟩ = some u ∧ RepV E x u) :
  ∃ vs : Array Value, (loadCells ⟨b, off, none⟩ cs.length).run P E.w = .ok vs E.w ∧ RepL E cs vs.toList := by
 have hex : ∀ n, n ≤ cs.length → ∃ vs : List Value, vs.length = n ∧ (∀ (j : Nat), j < n → ∃ x u, cs[j]? = some x ∧ vs[j]? = some u ∧ E.w.cell? ⟨b, off + j, none⟩ = some u ∧ RepV E x u) := by
  intro n
  induction n with
  | zero => exact fun _ => ⟨[], rfl, fun j hj => by omega⟩
  | succ n ih =>
   intro hn
   obtain ⟨vs, hl', hv⟩ := ih (by omega)
   obtain ⟨u, hu, hr⟩ := hm n cs[n] (by simp)
   refine ⟨vs ++ [u], by simp [hl'], fun j hj => ?_⟩
   by_cases hjn : j < n
   ·obtain ⟨x, u', h1, h2, h3, h4⟩ := hv j hjn
    exact ⟨x, u', h1, by rw [List.getElem?_append_left (by omega)]; exact h2, h3, h4⟩
   ·obtain rfl : j = n := by omega
    exact ⟨cs[j], u, by simp, by rw [List.getElem?_append_right (by omega)]; simp [hl'], hu, hr⟩
 obtain ⟨vs, hlen, hv⟩ := hex cs.length (Nat.le_refl _)
 refine ⟨vs.toArray, ?_, repL_of_get _ _ (by simp [hlen]) fun j x u hx hu => ?_⟩
 ·have := run_loadCells_list (P := P) E.w ⟨b, off, none⟩ vs (fun j v hj => by
   have hjl : j < cs.length := by
    rcases Nat.lt_or_ge j vs.length with h' | h'
    ·omega
    ·simp [List.getElem?_eq_none h'] at hj
   obtain ⟨x, u, h1, h2, h3, h4⟩ := hv j hjl
   rw [addr_add]
   rw [h2] at hj
   injection hj with hj
   rw [← hj]; exact h3)
  rwa [hlen] at this
 ·have hjl : j < cs.length := by
   rcases Nat.lt_or_ge j cs.length with h' | h'
   ·exact h'
   ·simp [List.getElem?_eq_none h'] at hx
  obtain ⟨x', u', h1, h2, h3, h4⟩ := hv j hjl
  simp only [List.toList_toArray] at hu
  rw [h1] at hx; injection hx with hx
  rw [h2] at hu; injection hu with hu
  rw [← hx, ← hu]; exact h4
structure SrcOk (P : Program) (E : Env) (esz n : Nat) (src : List AV) (v : Value) : Prop where
 len : ∀ w, (Builtin.lenOf v).run P w = .ok n w
 some : ∀ k m, m ≤ n → ∃ vs : Array Value, (Builtin.firstCells esz m v).run P { E.w with drawn := k } = .ok vs { E.w with drawn := k } ∧ RepL E (src.take (m * esz)) vs.toList
 size : src.length = n * esz
theorem SrcOk.cells {P : Program} {E : Env} {esz n : Nat} {src : List AV} {v : Value} (h : SrcOk P E esz n src v) (k : Nat) :
  ∃ vs : Array Value, (Builtin.firstCells esz n v).run P { E.w with drawn := k } = .ok vs { E.w with drawn := k } ∧ RepL E src vs.toList := by
 have := h.some k n (Nat.le_refl _)
 rwa [List.take_of_length_le (by rw [h.size]; exact Nat.le_refl _)] at this
theorem repM_take {E : Env} {cs : List AV} {b off : Nat} (h : RepM E cs b off) (n : Nat) : RepM E (cs.take n) b off :=
 repM_of_get _ _ _ fun j x hx => by
  by_cases hj : j < n
  ·rw [List.getElem?_take_of_lt hj] at hx; exact repM_get _ _ _ h j x hx
  ·rw [List.getElem?_eq_none (by simp; omega)] at hx; cases hx
theorem srcP_sound {P : Program} {Z : Nat → Prop} {E : Env} {H : Heap} {nx : Nat} (hr : HeapRep Z E H nx) {esz : Nat} {X : AV} {v : Value} {K : Nat → List AV → Prop} (hx : RepV E X v) (h : srcP H esz X K) :
  ∃ n src, K n src ∧ SrcOk P E esz n src v := by
 unfold srcP at h
 split at h
 ·simp only [RepV] at hx
  subst hx
  exact ⟨0, [], h, ⟨fun w => rfl, fun k m hm => ⟨#[], by simp [Builtin.firstCells], by simp [RepL]⟩, by simp⟩⟩
 ·rename_i len cs
  obtain ⟨hl, hk⟩ := h
  simp only [RepV] at hx
  obtain ⟨a, cap, rfl, _, hc⟩ := hx
  refine ⟨len, cs, hk, ⟨fun w => rfl, fun k m hmn => ?_, hl⟩⟩
  have hmm : m * esz ≤ len * esz := Nat.mul_le_mul_right _ hmn
  rcases hc with rfl | ⟨b, off, rfl, hV, hm⟩
  ·have h0 : m * esz = 0 := by have : len * esz = 0 := by simpa using hl.symm
                               omega
   refine ⟨#[], ?_, by simp [RepL]⟩
   cases a with
   | none => simp [Builtin.firstCells]
   | some a => simp [Builtin.firstCells, h0, loadCells, loadCellsFrom]
  ·obtain ⟨vs, h1, h2⟩ := load_list (P := P) (repM_get _ b off (repM_take (RepM.later (later_drawn E k) cs b off hV hm) (m * esz)))
   rw [List.length_take, Nat.min_eq_left (by omega)] at h1
   exact ⟨vs, by simp only [Builtin.firstCells]; exact h1, RepL.later (later_drawn (E.drawn k) E.w.drawn) _ _ h2⟩
 ·rename_i id off len es full
  split at h
  ·rename_i cs hcs
   have key : ∀ ds : List AV, es = esz → off + len * esz ≤ cs.length → ds = (cs.drop off).take (len * esz) → K len ds → ∃ n src, K n src ∧ SrcOk P E esz n src v := by
    intro ds hes hl hds hk
    subst hes
    simp only [RepV] at hx
    obtain ⟨a, cap, rfl, hlc, _, hc⟩ := hx
    have hdl : ds.length = len * es := by rw [hds]; simp; omega
    refine ⟨len, ds, hk, ⟨fun w => rfl, fun k m hmn => ?_, hdl⟩⟩
    have hmm : m * es ≤ len * es := Nat.mul_le_mul_right _ hmn
    rcases hc with rfl | ⟨n, c, e, fr, hn, rfl, hh, hs⟩
    ·have : len = 0 := by omega
     subst this
     have : ds = [] := List.length_eq_zero_iff.1 (by rw [hdl]; simp)
     subst this
     have hm0 : m * es = 0 := by omega
     refine ⟨#[], ?_, by simp [RepL]⟩
     cases a with
     | none => simp [Builtin.firstCells]
     | some a => simp [Builtin.firstCells, hm0, loadCells, loadCellsFrom]
    ·obtain ⟨vs, h1, h2⟩ := load_list (P := P) (E := E.drawn k) (b := n) (off := off) (cs := ds.take (m * es)) (fun j x hx' => by
      refine blk_cells (hr.drawn k) hcs hn (off + j) x ?_
      by_cases hjm : j < m * es
      case neg => rw [List.getElem?_eq_none (by simp; omega)] at hx'; cases hx'
      rw [List.getElem?_take_of_lt hjm, hds] at hx'
      by_cases hj : j < len * es
      ·rwa [List.getElem?_take_of_lt hj, List.getElem?_drop] at hx'
      ·rw [List.getElem?_eq_none (by simp; omega)] at hx'; cases hx')
     rw [List.length_take, Nat.min_eq_left (by omega)] at h1
     exact ⟨vs, by simp only [Builtin.firstCells]; exact h1, RepL.later (later_drawn (E.drawn k) E.w.drawn) _ _ h2⟩
   rcases h with ⟨⟨hes, ho, hl⟩, hk⟩ | ⟨⟨hes, hl⟩, hk⟩
   ·exact key cs hes (by omega) (by rw [ho, List.drop_zero, List.take_of_length_le (by omega)]) hk
   ·exact key _ hes hl rfl hk
  ·exact h.elim
 ·rename_i s
  obtain ⟨rfl, hk⟩ := h
  simp only [RepV] at hx
  obtain ⟨ba, rfl, rfl⟩ := hx
  refine ⟨_, _, hk, ⟨fun w => by simp [Builtin.lenOf, length_bytesOf], fun k m hm => ⟨_, rfl, ?_⟩, by simp⟩⟩
  rw [length_bytesOf] at hm
  have e : (ba.extract 0 m).data.toList = ba.data.toList.take m := by rw [Go.Lib.extract_data]; simp
  refine repL_of_get _ _ (by simp [length_bytesOf]) fun j x u hx hu => ?_
  have hd : ∀ j : Nat, (bytesOf ba)[j]? = (ba.data.toList[j]?).map (fun (b : UInt8) => (b.toNat : Int)) := fun j => by simp [bytesOf]
  by_cases hj : j < m
  case neg => rw [List.getElem?_eq_none (by simp; omega)] at hx; cases hx
  rw [List.getElem?_take_of_lt (by omega), List.getElem?_map, hd] at hx
  simp only [Array.toList_map, List.getElem?_map, e] at hu
  rw [List.getElem?_take_of_lt hj] at hu
  cases hjj : ba.data.toList[j]? with
  | none => rw [hjj] at hx; simp at hx
  | some y =>
   rw [hjj] at hx hu
   simp at hx hu
   rw [← hx, ← hu]; exact rep_int E _ _
 ·exact h.elim
def limB : Nat := 17592186044416
theorem nextcap_le (need old : Nat) (h : old < need) : Builtin.nextslicecap need old ≤ 2 * need + 4096 := by
 unfold Builtin.nextslicecap
 split
 ·omega
 ·split
  ·omega
  ·have g : ∀ r c, c ≤ 2 * need + 4096 → c < need + 1024 ∨ c ≤ 2 * need + 4096 → Builtin.growBy need r c ≤ 2 * need + 4096 := by
    intro r
    induction r with
    | zero => intro c h1 _; simpa [Builtin.growBy] using h1
    | succ r ih =>
     intro c h1 _
     unfold Builtin.growBy
     split
     ·exact h1
     ·exact ih _ (by omega) (by omega)
   exact g 4 old (by omega) (.inr (by omega))
theorem BlkOk.tops {E : Env} {n : Nat} {cs : List AV} (h : BlkOk E n cs) (k : Nat) (hk : ∀ c e fr, E.w.heap[n]? = some (.cells c e fr) → cs.length + k ≤ c.size) :
  BlkOk E n (cs ++ List.replicate k .top) := by
 obtain ⟨c, e, fr, h1, h2, h3, h4⟩ := h
 refine ⟨c, e, fr, h1, h2, by simpa using hk c e fr h1, fun j x hx => ?_⟩
 by_cases hj : j < cs.length
 ·rw [List.getElem?_append_left hj] at hx; exact h4 j x hx
 ·rw [List.getElem?_append_right (by omega)] at hx
  have hjk : j - cs.length < k := by
   rcases Nat.lt_or_ge (j - cs.length) (List.replicate k AV.top).length with h' | h'
   ·simpa using h'
   ·rw [List.getElem?_eq_none h'] at hx; cases hx
  have hc := hk c e fr h1
  refine ⟨c[j]'(by omega), by simp, ?_⟩
  rw [List.getElem?_replicate, if_pos hjk] at hx
  injection hx with hx
  subst hx
  simp [RepV]
theorem HeapRep.move {Z : Nat → Prop} {E : Env} {H : Heap} {nx : Nat} (h : HeapRep Z E H nx) {id : Nat} {cs ds : List AV} (hi : H id = some cs)
  (hd : (E.ρ id = none ∧ ds = []) ∨ ∃ n, E.ρ id = some n ∧ BlkOk E n ds) :
  ∃ E', E'.w = E.w ∧ Later E E' ∧ E'.ρ nx = E.ρ id ∧ HeapRep Z E' (setH (setH H id none) nx (some ds)) (nx + 1) ∧ (∀ b, Wr E'.ρ (setH (setH H id none) nx (some ds)) b ↔ Wr E.ρ H b) := by
 have hnx := h.fresh nx (Nat.le_refl _)
 have hne : id ≠ nx := fun e => by rw [e, hnx.2] at hi; cases hi
 let E' : Env := { E with ρ := fun i => cond (Nat.beq i nx) (E.ρ id) (E.ρ i) }
 have r1 : E'.ρ nx = E.ρ id := by simp [E']
 have r2 : ∀ i, i ≠ nx → E'.ρ i = E.ρ i := fun i hi => by
  have : Nat.beq i nx = false := by
   cases hh : Nat.beq i nx
   ·rfl
   ·exact absurd (Nat.eq_of_beq_eq_true hh) hi
  simp [E', this]
 have L : Later E E' := by
  refine ⟨rfl, fun i n hn => ?_, Nat.le_refl _, fun _ c _ fr hh => ⟨c, fr, hh, rfl⟩, fun _ _ _ => rfl, fun _ _ hh => hh⟩
  have : i ≠ nx := fun e => by rw [e, hnx.1] at hn; cases hn
  rw [r2 i this]; exact hn
 have hget : ∀ i, i ≠ nx → i ≠ id → setH (setH H id none) nx (some ds) i = H i := fun i h1 h2 => by rw [setH_ne _ _ h1, setH_ne _ _ h2]
 have hid : setH (setH H id none) nx (some ds) id = none := by rw [setH_ne _ _ hne, setH_same]
 have hwr : ∀ b, Wr E'.ρ (setH (setH H id none) nx (some ds)) b ↔ Wr E.ρ H b := by
  intro b
  constructor
  ·rintro ⟨i, es, h1, h2⟩
   by_cases hin : i = nx
   ·subst hin; exact ⟨id, cs, hi, by rw [← r1]; exact h2⟩
   ·by_cases hii : i = id
    ·subst hii; rw [hid] at h1; cases h1
    ·rw [hget i hin hii] at h1; rw [r2 i hin] at h2; exact ⟨i, es, h1, h2⟩
  ·rintro ⟨i, es, h1, h2⟩
   have hin : i ≠ nx := fun e => by rw [e, hnx.2] at h1; cases h1
   by_cases hii : i = id
   ·subst hii; exact ⟨nx, ds, setH_same _ _ _, by rw [r1]; exact h2⟩
   ·exact ⟨i, es, by rw [hget i hin hii]; exact h1, by rw [r2 i hin]; exact h2⟩
 refine ⟨E', rfl, L, r1, ⟨fun i es hh => ?_, fun i i' n h1 h2 h3 h4 => ?_, fun b => by rw [hwr]; exact h.V b, fun i n h1 h2 => ?_, fun i hh => ?_, h.one, fun i n hn => ?_, h.zold, h.tab.later L⟩, hwr⟩
 ·by_cases hin : i = nx
  ·subst hin
   rw [setH_same] at hh
   injection hh with hh
   subst hh
   rw [r1]
   rcases hd with hd | ⟨n, hn, hb⟩
   ·exact .inl hd
   ·refine .inr ⟨n, hn, ?_⟩
    obtain ⟨c, e, fr, k1, k2, k3, k4⟩ := hb
    exact ⟨c, e, fr, k1, k2, k3, fun j x hx => let ⟨u, hu, hr⟩ := k4 j x hx; ⟨u, hu, RepV.later L x u hr⟩⟩
  ·by_cases hii : i = id
   ·subst hii; rw [hid] at hh; cases hh
   ·rw [hget i hin hii] at hh
    rw [r2 i hin]
    rcases h.blk i es hh with h0 | ⟨m, hm, hb⟩
    ·exact .inl h0
    ·exact .inr ⟨m, hm, h.blk_later L hm hb rfl⟩
 ·have nrm : ∀ i, setH (setH H id none) nx (some ds) i ≠ none → ∃ k, H k ≠ none ∧ E'.ρ i = E.ρ k ∧ ((i = nx ∧ k = id) ∨ (i ≠ nx ∧ k = i ∧ i ≠ id)) := by
   intro i hh
   by_cases hin : i = nx
   ·subst hin; exact ⟨id, by rw [hi]; simp, r1, .inl ⟨rfl, rfl⟩⟩
   ·by_cases hii : i = id
    ·subst hii; exact absurd hid hh
    ·rw [hget i hin hii] at hh; exact ⟨i, hh, r2 i hin, .inr ⟨hin, rfl, hii⟩⟩
  obtain ⟨k, q1, q2, q3⟩ := nrm i h1
  obtain ⟨k', q1', q2', q3'⟩ := nrm i' h2
  have := h.inj k k' n q1 q1' (by rw [← q2]; exact h3) (by rw [← q2']; exact h4)
  rcases q3 with ⟨a1, a2⟩ | ⟨a1, a2, a3⟩ <;> rcases q3' with ⟨b1, b2⟩ | ⟨b1, b2, b3⟩ <;> (try omega)
 ·by_cases hin : i = nx
  ·subst hin; rw [r1] at h2; exact h.apart id n (by rw [hi]; simp) h2
  ·by_cases hii : i = id
   ·subst hii; exact absurd hid h1
   ·rw [hget i hin hii] at h1; rw [r2 i hin] at h2; exact h.apart i n h1 h2
 ·have hin : i ≠ nx := by omega
  have hii : i ≠ id := fun e => by
   have := h.fresh i (by omega)
   rw [e] at this; rw [hi] at this; exact absurd this.2 (by simp)
  rw [r2 i hin, hget i hin hii]; exact h.fresh i (by omega)
 ·by_cases hin : i = nx
  ·subst hin; rw [r1] at hn; exact h.old id n hn
  ·rw [r2 i hin] at hn; exact h.old i n hn
theorem HeapRep.empty {Z : Nat → Prop} {E : Env} {H : Heap} {nx : Nat} (h : HeapRep Z E H nx) : HeapRep Z E (setH H nx (some [])) (nx + 1) := by
 have hnx := h.fresh nx (Nat.le_refl _)
 have hwr : ∀ b, Wr E.ρ (setH H nx (some [])) b ↔ Wr E.ρ H b := by
  intro b
  constructor
  ·rintro ⟨i, es, h1, h2⟩
   by_cases hin : i = nx
   ·subst hin; rw [hnx.1] at h2; cases h2
   ·rw [setH_ne _ _ hin] at h1; exact ⟨i, es, h1, h2⟩
  ·rintro ⟨i, es, h1, h2⟩
   have hin : i ≠ nx := fun e => by rw [e, hnx.2] at h1; cases h1
   exact ⟨i, es, by rw [setH_ne _ _ hin]; exact h1, h2⟩
 refine ⟨fun i es hh => ?_, fun i i' n h1 h2 h3 h4 => ?_, fun b => by rw [hwr]; exact h.V b, fun i n h1 h2 => ?_, fun i hh => ?_, h.one, h.old, h.zold, h.tab⟩
 ·by_cases hin : i = nx
  ·subst hin; rw [setH_same] at hh; injection hh with hh; exact .inl ⟨hnx.1, hh.symm⟩
  ·rw [setH_ne _ _ hin] at hh; exact h.blk i es hh
 ·have hin : i ≠ nx := fun e => by rw [e, hnx.1] at h3; cases h3
  have hin' : i' ≠ nx := fun e => by rw [e, hnx.1] at h4; cases h4
  rw [setH_ne _ _ hin] at h1
  rw [setH_ne _ _ hin'] at h2
  exact h.inj i i' n h1 h2 h3 h4
 ·have hin : i ≠ nx := fun e => by rw [e, hnx.1] at h2; cases h2
  rw [setH_ne _ _ hin] at h1
  exact h.apart i n h1 h2
 ·have hin : i ≠ nx := by omega
  rw [setH_ne _ _ hin]; exact h.fresh i (by omega)
end
section

def srcTy (T : Types) (t : TypeId) : Bool :=
 match T t with
 | some ⟨.slice _, _, _, _, _⟩ => true
 | some ⟨.str, _, _, _, _⟩ => true
 | _ => false
def appendP (T : Types) (H : Heap) (nx : Nat) (t tx : TypeId) (B X : AV) (K : AV → Heap → Nat → Prop) : Prop :=
 match T t with
 | some ⟨.slice e, _, _, _, _⟩ => match T e with
  | some ei => cond (srcTy T tx && !isTop ei.zero && Nat.ble 1 ei.bytes && Nat.ble ei.bytes 1048576) (srcP H ei.size X fun n src => src.all AV.one = true ∧ match B with
   | .nil => (n * ei.bytes ≤ limB) ∧ forceSz ei.size fun sz => K (.sl nx 0 n sz false) (setH H nx (some src)) (nx + 1)
   | .sl id off len es full => match H id with
    | some cs => match full with
     | false => (off = 0 ∧ es = ei.size ∧ cs.length = len * es ∧ (len + n) * ei.bytes ≤ limB) ∧ K (.sl nx 0 (len + n) es false) (setH (setH H id none) nx (some (cs ++ src))) (nx + 1)
     | true => (es = ei.size ∧ off + len * es ≤ cs.length ∧ (len = 0 ∨ 0 < n) ∧ (len + n) * ei.bytes ≤ limB) ∧ K (.sl nx 0 (len + n) es false) (setH H nx (some ((cs.drop off).take (len * es) ++ src))) (nx + 1)
    | none => False
   | _ => False) False
  | none => False
 | _ => False
theorem srcTy_zeros {P : Program} {T : Types} (hT : TOK P T) {t : TypeId} (h : srcTy T t = true) (w : World) :
  ∃ d, P.underlying t = some d ∧ ∀ k, d ≠ .int k := by
 unfold srcTy at h
 split at h
 ·rename_i e a b z sg ht
  obtain ⟨d, hd, ho, _⟩ := (hT t _ ht).und
  have ho' : d = .slice e := ho
  subst ho'
  exact ⟨_, hd, fun k => by simp⟩
 ·rename_i a b z sg ht
  obtain ⟨d, hd, ho, _⟩ := (hT t _ ht).und
  have ho' : d = .string := ho
  subst ho'
  exact ⟨_, hd, fun k => by simp⟩
 ·cases h
theorem run_append_in {P : Program} {t tx ty e : TypeId} {d : TypeDesc} {size : Nat} (ht : P.underlying t = some (.slice e)) (hs : ∀ w, (sizeOf e).run P w = .ok size w)
  (hx : P.underlying tx = some d) (hd : ∀ k, d ≠ .int k) {base : Option Addr} {len cap n : Nat} {x : Value} {w w' : World} {vs : Array Value}
  (hlen : (Builtin.lenOf x).run P w = .ok n w) (hc : (Builtin.firstCells size n x).run P w = .ok vs w) (hroom : len + n ≤ cap)
  (hst : ∀ a, base = some a → (storeCells (a.add (len * size)) vs.toList).run P w = .ok () w') (hno : base = none → w' = w) :
  (Builtin.append_ #[t, tx] ty #[.slice base len cap, x]).run P w = .ok (.slice base (len + n) cap) w' := by
 have hz : (match (generalizing := false) d with | .int _ => true | _ => false) = false := by cases d <;> first | rfl | exact absurd rfl (hd _)
 cases base with
 | none =>
  obtain rfl := hno rfl
  simp [Builtin.append_, run_underlying ht, run_underlying hx, hs, hz, hlen, hroom, hc]
 | some a => simp [Builtin.append_, run_underlying ht, run_underlying hx, hs, hz, hlen, hroom, hc, hst a rfl]
theorem run_append_new {P : Program} {t tx ty e : TypeId} {d : TypeDesc} {f : TypeInfo} {z : Value} (ht : P.underlying t = some (.slice e)) (hf : P.info? e = some f) (hfz : f.zero = some z)
  (hx : P.underlying tx = some d) (hd : ∀ k, d ≠ .int k) {base : Option Addr} {len cap n : Nat} {x : Value} {w : World} {vs us : Array Value}
  (hlen : ∀ w, (Builtin.lenOf x).run P w = .ok n w) (hroom : ¬ len + n ≤ cap) (hb : 0 < f.bytes) (hb2 : f.bytes ≤ 1048576) (hlim : (len + n) * f.bytes ≤ limB)
  (ho : (Builtin.firstCells f.size len (.slice base len cap)).run P { w with drawn := w.drawn + 1 } = .ok us { w with drawn := w.drawn + 1 })
  (hc : (Builtin.firstCells f.size n x).run P { w with drawn := w.drawn + 1 } = .ok vs { w with drawn := w.drawn + 1 }) :
  ∃ newCap, len + n ≤ newCap ∧ (Builtin.append_ #[t, tx] ty #[.slice base len cap, x]).run P w =
   ((newRow e (us ++ vs ++ Builtin.zeroCells z.cells (newCap - (len + n)))).run P { w with drawn := w.drawn + 1 }).andThen fun a w' => .ok (.slice (some a) (len + n) newCap) w' := by
 have hz : (match (generalizing := false) d with | .int _ => true | _ => false) = false := by cases d <;> first | rfl | exact absurd rfl (hd _)
 have h1 : ¬ (9223372036854775807 < (len : Int) + (n : Int) ∧ f.bytes = 0) := by
  intro h; omega
 have h2 : ¬ (2 ^ 48 < Builtin.nextslicecap (len + n) cap * f.bytes) := by
  have := nextcap_le (len + n) cap (by omega)
  have h3 : Builtin.nextslicecap (len + n) cap * f.bytes ≤ (2 * (len + n) + 4096) * f.bytes := Nat.mul_le_mul_right _ this
  have h4 : (2 * (len + n) + 4096) * f.bytes = 2 * ((len + n) * f.bytes) + 4096 * f.bytes := by rw [Nat.add_mul, Nat.mul_assoc]
  unfold limB at hlim
  omega
 refine ⟨(Question.appendCap (len + n) cap e).cut (w.tape w.drawn (.appendCap (len + n) cap e)), by simp [Question.cut], ?_⟩
 have hs : ∀ w, (sizeOf e).run P w = .ok f.size w := fun w => by simp [sizeOf, typeInfo, hf]
 have hti : ∀ w, (typeInfo e).run P w = .ok f w := fun w => by simp [typeInfo, hf]
 have hzv : ∀ w, (zeroValue e).run P w = .ok z w := fun w => by simp [zeroValue, typeInfo, hf, hfz]
 have hask : ∀ k w, (askRoom k).run P w = .ok () w := fun k w => by unfold askRoom; split <;> simp [mark, Sem.run]
 simp only [Builtin.append_, run_underlying ht, run_underlying hx, hs, hti, hzv, hz, hlen, hroom, Sem.run_bind, Result.andThen_ok, Sem.run_pure, List.getElem?_toArray, List.getElem?_cons_zero, List.getElem?_cons_succ,
  Bool.false_eq_true, if_false, ite_false, false_and, false_or, Bool.not_false, if_true]
 rw [if_neg (by simp only [IntKind.max_i64]; omega)]
 simp only [Sem.run_bind, hti, Result.andThen_ok]
 rw [if_neg h2]
 have hch : ∀ q : Question, q.forced = false → ∀ w : World, (choose q).run P w = .ok (q.cut (w.tape w.drawn q)) { w with drawn := w.drawn + 1 } := fun q hq w => by simp [choose, Sem.run, hq]
 simp only [Sem.run_bind, hch _ (show (Question.appendCap (len + n) cap e).forced = false from rfl), Result.andThen_ok, hti, hask, ho, hc, hzv, Sem.run_pure]
theorem HeapRep.drop {Z : Nat → Prop} {E : Env} {H : Heap} {nx : Nat} (h : HeapRep Z E H nx) (id : Nat) :
  ∃ E', E'.w = E.w ∧ E'.ρ = E.ρ ∧ Later E E' ∧ HeapRep Z E' (setH H id none) nx ∧ (∀ b, Wr E'.ρ (setH H id none) b → Wr E.ρ H b) ∧ (∀ n, H id ≠ none → E.ρ id = some n → ¬ E'.V n) := by
 let E' : Env := { E with V := fun b => Z b ∨ Wr E.ρ (setH H id none) b }
 have hwr : ∀ b, Wr E.ρ (setH H id none) b → Wr E.ρ H b := by
  rintro b ⟨i, es, h1, h2⟩
  by_cases hi : i = id
  ·subst hi; rw [setH_same] at h1; cases h1
  ·rw [setH_ne _ _ hi] at h1; exact ⟨i, es, h1, h2⟩
 have L : Later E E' := ⟨rfl, fun _ _ h => h, Nat.le_refl _, fun _ c _ fr hh => ⟨c, fr, hh, rfl⟩, fun _ _ _ => rfl, fun b _ hb => (h.V b).2 (hb.imp (fun x => x) (hwr b))⟩
 have hne : ∀ i, setH H id none i ≠ none → H i ≠ none ∧ i ≠ id := fun i hi => by
  by_cases he : i = id
  ·subst he; rw [setH_same] at hi; exact absurd rfl hi
  ·rw [setH_ne _ _ he] at hi; exact ⟨hi, he⟩
 refine ⟨E', rfl, rfl, L, ⟨fun i es hh => ?_, fun i i' n h1 h2 h3 h4 => h.inj i i' n (hne i h1).1 (hne i' h2).1 h3 h4, fun b => Iff.rfl, fun i n h1 h2 => h.apart i n (hne i h1).1 h2, fun i hh => ?_, h.one, h.old, h.zold, h.tab.later L⟩, hwr, fun n hi hn hv => ?_⟩
 ·by_cases he : i = id
  ·subst he; rw [setH_same] at hh; cases hh
  ·rw [setH_ne _ _ he] at hh
   rcases h.blk i es hh with h0 | ⟨m, hm, hb⟩
   ·exact .inl h0
   ·exact .inr ⟨m, hm, h.blk_later L hm hb rfl⟩
 ·by_cases he : i = id
  ·subst he; exact ⟨(h.fresh i hh).1, setH_same _ _ _⟩
  ·rw [setH_ne _ _ he]; exact h.fresh i hh
 ·rcases hv with hz | ⟨i, es, h1, h2⟩
  ·exact h.apart id n hi hn hz
  ·obtain ⟨k1, k2⟩ := hne i (by rw [h1]; simp)
   exact k2 (h.inj i id n k1 hi h2 hn)
theorem zeroCells_size (z : Array Value) (n : Nat) : (Builtin.zeroCells z n).size = n * z.size := size_zeroCells z n
theorem grow_after {P : Program} {Z : Nat → Prop} {E0 E : Env} {H0 H : Heap} {nx : Nat} {e : TypeId} {us vs zs : Array Value} {cs src : List AV} {len n newCap esz : Nat}
  (hE : Later E0 E) (hev : Evo (Wr E0.ρ H0) E0.w E.w) (hw : ∀ b, b < E0.w.heap.size → Wr E.ρ H b → Wr E0.ρ H0 b) (h : HeapRep Z E H nx) (h1 : RepL E cs us.toList) (h2 : RepL E src vs.toList)
  (hc : cs.length = len * esz) (hs : src.length = n * esz) (hz : zs.size = (newCap - (len + n)) * esz) (hcap : len + n ≤ newCap) :
  ∃ a E', (newRow e (us ++ vs ++ zs)).run P E.w = .ok a E'.w ∧ After Z E0 H0 (.sl nx 0 (len + n) esz false) (setH H nx (some (cs ++ src))) (nx + 1) (.slice (some a) (len + n) newCap) E' := by
 have l1 := repL_length _ _ h1
 have l2 := repL_length _ _ h2
 simp only [Array.length_toList] at l1 l2
 obtain ⟨k1, k2, k3, k4, k5⟩ := newRow_sound (P := P) h e (us ++ vs ++ zs) (cs ++ src) (by simp; omega) (fun j x hx => by
  by_cases hj : j < cs.length
  ·rw [List.getElem?_append_left hj] at hx
   obtain ⟨u, hu, hr⟩ := repL_get _ _ h1 j x hx
   rw [Array.getElem?_toList] at hu
   exact ⟨u, by rw [Array.append_assoc, Array.getElem?_append_left (by omega)]; exact hu, hr⟩
  ·rw [List.getElem?_append_right (by omega)] at hx
   obtain ⟨u, hu, hr⟩ := repL_get _ _ h2 _ x hx
   rw [Array.getElem?_toList] at hu
   have hjv : j - us.size < vs.size := by
    rcases Nat.lt_or_ge (j - us.size) vs.size with h' | h'
    ·exact h'
    ·rw [Array.getElem?_eq_none (by omega)] at hu; cases hu
   exact ⟨u, by rw [Array.append_assoc, Array.getElem?_append_right (by omega), Array.getElem?_append_left hjv, ← l1]; exact hu, hr⟩)
 refine ⟨_, _, k1, ⟨hE.trans k2, hev.trans k3 hw, ?_, k4⟩⟩
 simp only [RepV]
 refine ⟨_, newCap, rfl, hcap, (nofun), .inr ⟨_, us ++ vs ++ zs, e, (0, 0), k5, rfl, Go.heap_alloc_new _ _, ?_⟩⟩
 simp only [Array.size_append, hz]
 have : (newCap - (len + n)) * esz + (len + n) * esz = newCap * esz := by rw [← Nat.add_mul]; congr 1; omega
 have e1 : (len + n) * esz = len * esz + n * esz := Nat.add_mul _ _ _
 omega
set_option maxHeartbeats 1000000 in
theorem appendP_sound {P : Program} {T : Types} (hT : TOK P T) {Z : Nat → Prop} {E : Env} {H : Heap} {nx : Nat} (hr : HeapRep Z E H nx) {t tx ty : TypeId} {B X : AV} {vb vx : Value} {K : AV → Heap → Nat → Prop}
  (hb : RepV E B vb) (hx : RepV E X vx) (h : appendP T H nx t tx B X K) :
  ∃ x H' nx' E' r, K x H' nx' ∧ (Builtin.append_ #[t, tx] ty #[vb, vx]).run P E.w = .ok r E'.w ∧ After Z E H x H' nx' r E' := by
 unfold appendP at h
 simp only [forceSz_eq] at h
 split at h
 case h_2 => exact h.elim
 rename_i e a1 b1 z1 sg1 ht
 obtain ⟨d, hd, hdo, _⟩ := (hT t _ ht).und
 have ho' : d = .slice e := hdo
 subst ho'
 split at h
 case h_2 => exact h.elim
 rename_i ei he
 cases hcond : (srcTy T tx && !isTop ei.zero && Nat.ble 1 ei.bytes && Nat.ble ei.bytes 1048576) with
 | false => rw [hcond] at h; exact h.elim
 | true =>
 rw [hcond] at h
 simp only [Bool.and_eq_true, Bool.not_eq_true'] at hcond
 obtain ⟨⟨⟨hsrc, hzt⟩, hb1⟩, hb2⟩ := hcond
 have hb1 := Nat.le_of_ble_eq_true hb1
 have hb2 := Nat.le_of_ble_eq_true hb2
 obtain ⟨dx, hdx, hdxn⟩ := srcTy_zeros hT hsrc E.w
 obtain ⟨f, hf, hfs, hfb, z, hfz, hzsz, hzr, _⟩ := (hT e _ he).info
 have hzr' : ∀ E, RepV E ei.zero z := hzr.resolve_left (fun e => by rw [e] at hzt; simp [isTop] at hzt)
 have hse := fun w => run_sizeOf (hT e _ he) w
 have h' := h
 simp only [cond_true] at h'
 clear h
 have hrd := hr.drawn (E.w.drawn + 1)
 have Ld := later_drawn E (E.w.drawn + 1)
 have evd : Evo (Wr E.ρ H) E.w (E.drawn (E.w.drawn + 1)).w := Evo.drawn _ _ _
 obtain ⟨n, src, ⟨hone, h⟩, hS⟩ := srcP_sound (P := P) hr hx h'
 clear h'
 obtain ⟨vs, hvs1, hvs2⟩ := hS.cells E.w.drawn
 obtain ⟨us, hus1, hus2⟩ := hS.cells (E.w.drawn + 1)
 have hus2' := RepL.later Ld _ _ hus2
 have hsc : ∀ v ∈ vs.toList, scalar v = true := repL_scalar hr.one _ _ hvs2 (by simpa using hone)
 have hz0 : ∀ k, (Builtin.zeroCells z.cells k).size = k * ei.size := fun k => by rw [zeroCells_size, hzsz]
 have hvl : vs.size = n * ei.size := by have := repL_length _ _ hvs2; rw [hS.size] at this; simpa using this.symm
 split at h
 ·
  simp only [RepV] at hb
  subst hb
  by_cases hn : n = 0
  ·subst hn
   have hs0 : src = [] := List.length_eq_zero_iff.1 (by rw [hS.size]; simp)
   subst hs0
   refine ⟨_, _, _, E, _, h.2, run_append_in hd hse hdx hdxn (hS.len E.w) hvs1 (by simp) (fun a ha => by cases ha) (fun _ => rfl), ⟨Later.refl E, Evo.refl _ _, ?_, hr.empty⟩⟩
   simp only [RepV]
   exact ⟨_, _, rfl, by simp, (nofun), .inl rfl⟩
  ·obtain ⟨newCap, hc1, hc2⟩ := run_append_new (P := P) (ty := ty) hd hf hfz hdx hdxn (base := none) (len := 0) (cap := 0) hS.len (by omega) (by omega) (by omega) (by rw [hfb]; simpa using h.1) (us := #[]) (w := E.w)
    (by simp [Builtin.firstCells]) (by rw [hfs]; exact hus1)
   obtain ⟨a, E', k1, k2⟩ := grow_after (P := P) (e := e) (esz := ei.size) (len := 0) (n := n) (newCap := newCap) (zs := Builtin.zeroCells z.cells (newCap - (0 + n))) Ld evd (fun b _ hb => hb) hrd (us := #[]) (cs := []) (by simp [RepL]) hus2' (by simp) hS.size (hz0 _) hc1
   refine ⟨_, _, _, E', _, h.2, ?_, by simpa using k2⟩
   rw [hc2]
   have k1' := k1
   simp only [Env.drawn] at k1'
   rw [k1']
   simp
 ·rename_i id off len es full
  split at h
  case h_2 => exact h.elim
  rename_i cs hcs
  simp only [RepV] at hb
  obtain ⟨ao, cap, rfl, hlc, hfull, hc⟩ := hb
  split at h
  ·
   obtain ⟨⟨rfl, rfl, hcl, hlim⟩, hk⟩ := h
   by_cases hroom : len + n ≤ cap
   ·rcases hc with rfl | ⟨m, c, e', fr, hm, rfl, hh, hs⟩
    ·have hl0 : len = 0 := by omega
     have hn0 : n = 0 := by omega
     subst hl0; subst hn0
     have hs0 : src = [] := List.length_eq_zero_iff.1 (by rw [hS.size]; simp)
     have hc0 : cs = [] := List.length_eq_zero_iff.1 (by rw [hcl]; simp)
     subst hs0; subst hc0
     have hv0 : vs.toList = [] := by
      have : vs.size = 0 := by rw [hvl]; simp
      simpa using this
     obtain ⟨E', e1, L', r1, hr', hw'⟩ := hr.move (ds := []) hcs (by
      rcases hr.blk id [] hcs with h0 | ⟨m, hm, hb⟩
      ·exact .inl h0
      ·exact .inr ⟨m, hm, hb⟩)
     refine ⟨_, _, _, E', .slice ao 0 0, hk, ?_, ⟨L', e1 ▸ Evo.refl _ _, ?_, by simpa using hr'⟩⟩
     ·rw [e1]
      exact run_append_in hd hse hdx hdxn (hS.len E.w) hvs1 (by simp) (fun a _ => by rw [hv0]; simp [storeCells]) (fun _ => rfl)
     ·simp only [RepV]
      exact ⟨_, _, rfl, by simp, (nofun), .inl rfl⟩
    ·have hblk : BlkOk E m cs := by
      rcases hr.blk id cs hcs with ⟨h0, _⟩ | ⟨m', hm', hb⟩
      ·rw [hm] at h0; cases h0
      ·obtain rfl : m = m' := by rw [hm] at hm'; injection hm'
       exact hb
     have hmul : (len + n) * ei.size ≤ cap * ei.size := Nat.mul_le_mul_right _ hroom
     have hmul2 : (len + n) * ei.size = len * ei.size + n * ei.size := Nat.add_mul _ _ _
     have hblk2 := hblk.tops src.length (fun c' e'' fr' hh' => by
      rw [hh] at hh'
      injection hh' with hh'
      injection hh' with q1 q2 q3
      subst q1
      rw [hcl, hS.size]; omega)
     obtain ⟨E1, e1, L1, r1, hr1, hw1⟩ := hr.move (ds := cs ++ List.replicate src.length .top) hcs (.inr ⟨m, hm, hblk2⟩)
     have hvs1' : RepL E1 src vs.toList := RepL.later L1 _ _ hvs2
     obtain ⟨E2, k1, k2, k3, k4⟩ := storeCells_sound (P := P) (off := len * ei.size) src vs.toList 0 E1 _ _ hr1 (setH_same _ _ _) (by rw [r1]; exact hm) (by simp; omega) hvs1' hsc
     rw [setH_twice, Nat.add_zero, setN_eq _ _ _ (by simp; omega)] at k4
     have hset : (cs ++ List.replicate src.length AV.top).take (len * ei.size) ++ src ++ (cs ++ List.replicate src.length AV.top).drop (len * ei.size + src.length) = cs ++ src := by
      rw [← hcl, List.take_left, List.drop_eq_nil_of_le (by simp), List.append_nil]
     rw [hset] at k4
     refine ⟨_, _, _, E2, .slice (some ⟨m, 0, none⟩) (len + n) cap, hk, ?_, ⟨L1.trans k2, ?_, ?_, k4⟩⟩
     ·refine run_append_in hd hse hdx hdxn (hS.len E.w) hvs1 hroom (fun a ha => ?_) (fun hh => by cases hh)
      injection ha with ha
      subst ha
      rw [addr_add, Nat.zero_add, ← e1]
      exact k1
     ·rw [← e1]
      exact k3.mono (fun b hb => (hw1 b).1 hb)
     ·simp only [RepV]
      obtain ⟨c', fr', hc1, hc2⟩ := (L1.trans k2).kept m c e' fr hh
      exact ⟨_, _, rfl, hroom, (nofun), .inr ⟨m, c', e', fr', k2.ρ _ _ (by rw [r1]; exact hm), rfl, hc1, by omega⟩⟩
   ·
    obtain ⟨E1, e1, r1, L1, hr1, hw1, _⟩ := hrd.drop id
    have hold : ∃ os : Array Value, (Builtin.firstCells ei.size len (.slice ao len cap)).run P { E.w with drawn := E.w.drawn + 1 } = .ok os { E.w with drawn := E.w.drawn + 1 } ∧ RepL E1 cs os.toList := by
     rcases hc with rfl | ⟨m, c, e', fr, hm, rfl, hh, hs⟩
     ·have hl0 : len = 0 := by omega
      subst hl0
      have hc0 : cs = [] := List.length_eq_zero_iff.1 (by rw [hcl]; simp)
      subst hc0
      refine ⟨#[], ?_, by simp [RepL]⟩
      cases ao with
      | none => simp [Builtin.firstCells]
      | some a => simp [Builtin.firstCells, loadCells, loadCellsFrom]
     ·obtain ⟨os, h1, h2⟩ := load_list (P := P) (E := E.drawn (E.w.drawn + 1)) (b := m) (off := 0) (cs := cs) (fun j x hx' => by
       rw [Nat.zero_add]; exact blk_cells hrd hcs hm j x hx')
      exact ⟨os, by simp only [Builtin.firstCells, ← hcl]; exact h1, RepL.later L1 _ _ h2⟩
    obtain ⟨os, ho1, ho2⟩ := hold
    obtain ⟨newCap, hc1, hc2⟩ := run_append_new (P := P) (ty := ty) hd hf hfz hdx hdxn (base := ao) (len := len) (cap := cap) hS.len hroom (by omega) (by omega) (by rw [hfb]; exact hlim) (us := os) (w := E.w)
     (by rw [hfs]; exact ho1) (by rw [hfs]; exact hus1)
    obtain ⟨a, E', k1, k2⟩ := grow_after (P := P) (e := e) (esz := ei.size) (len := len) (n := n) (newCap := newCap) (zs := Builtin.zeroCells z.cells (newCap - (len + n))) (E0 := E) (H0 := H) (E := E1) (Ld.trans L1) (by rw [e1]; exact evd)
     (fun b _ hb => hw1 b hb) hr1 ho2 (RepL.later L1 _ _ hus2') hcl hS.size (hz0 _) hc1
    refine ⟨_, _, _, E', _, hk, ?_, k2⟩
    rw [hc2]
    rw [e1] at k1
    simp only [Env.drawn] at k1
    rw [k1]
    simp
  ·
   obtain ⟨⟨rfl, hcl, hln, hlim⟩, hk⟩ := h
   have hcap := hfull rfl
   by_cases hn : n = 0
   ·subst hn
    have hl0 : len = 0 := by omega
    subst hl0
    have hs0 : src = [] := List.length_eq_zero_iff.1 (by rw [hS.size]; simp)
    subst hs0
    have hv0 : vs.toList = [] := by
     have : vs.size = 0 := by rw [hvl]; simp
     simpa using this
    subst hcap
    refine ⟨_, _, _, E, .slice ao 0 0, hk, run_append_in hd hse hdx hdxn (hS.len E.w) hvs1 (by simp) (fun a _ => by rw [hv0]; simp [storeCells]) (fun _ => rfl), ⟨Later.refl E, Evo.refl _ _, ?_, by simpa using hr.empty⟩⟩
    simp only [RepV]
    exact ⟨_, _, rfl, by simp, (nofun), .inl rfl⟩
   ·have hold : ∃ os : Array Value, (Builtin.firstCells ei.size len (.slice ao len cap)).run P { E.w with drawn := E.w.drawn + 1 } = .ok os { E.w with drawn := E.w.drawn + 1 } ∧ RepL (E.drawn (E.w.drawn + 1)) ((cs.drop off).take (len * ei.size)) os.toList := by
     have hdl : ((cs.drop off).take (len * ei.size)).length = len * ei.size := by simp; omega
     rcases hc with rfl | ⟨m, c, e', fr, hm, rfl, hh, hs⟩
     ·have hl0 : len = 0 := by omega
      subst hl0
      refine ⟨#[], ?_, by simp [RepL]⟩
      cases ao with
      | none => simp [Builtin.firstCells]
      | some a => simp [Builtin.firstCells, loadCells, loadCellsFrom]
     ·obtain ⟨os, h1, h2⟩ := load_list (P := P) (E := E.drawn (E.w.drawn + 1)) (b := m) (off := off) (cs := (cs.drop off).take (len * ei.size)) (fun j x hx' => by
       refine blk_cells hrd hcs hm (off + j) x ?_
       by_cases hj : j < len * ei.size
       ·rwa [List.getElem?_take_of_lt hj, List.getElem?_drop] at hx'
       ·rw [List.getElem?_eq_none (by omega)] at hx'; cases hx')
      rw [hdl] at h1
      exact ⟨os, by simp only [Builtin.firstCells]; exact h1, h2⟩
    obtain ⟨os, ho1, ho2⟩ := hold
    obtain ⟨newCap, hc1, hc2⟩ := run_append_new (P := P) (ty := ty) hd hf hfz hdx hdxn (base := ao) (len := len) (cap := cap) hS.len (by omega) (by omega) (by omega) (by rw [hfb]; exact hlim) (us := os) (w := E.w)
     (by rw [hfs]; exact ho1) (by rw [hfs]; exact hus1)
    obtain ⟨a, E', k1, k2⟩ := grow_after (P := P) (e := e) (esz := ei.size) (len := len) (n := n) (newCap := newCap) (zs := Builtin.zeroCells z.cells (newCap - (len + n))) (E0 := E) (H0 := H) (E := E.drawn (E.w.drawn + 1)) Ld evd
     (fun b _ hb => hb) hrd ho2 hus2' (by simp; omega) hS.size (hz0 _) hc1
    refine ⟨_, _, _, E', _, hk, ?_, k2⟩
    rw [hc2]
    have k1' := k1
    simp only [Env.drawn] at k1'
    rw [k1']
    simp
 ·exact h.elim
end
section

def appendZ (T : Types) (H : Heap) (nx : Nat) (t tx : TypeId) (n : Int) (K : AV → Heap → Nat → Prop) : Prop :=
 match T t, T tx with
 | some ⟨.slice e, _, _, _, _⟩, some ⟨.int k, _, _, _, _⟩ => match T e with
  | some ei => cond (kEq k .i64 && Nat.ble 1 ei.bytes && Nat.ble ei.bytes 1048576) ((0 < n ∧ n.toNat * ei.bytes ≤ limB) ∧ forceSz ei.size fun sz => K (.sl nx 0 n.toNat sz false) (setH H nx (some (List.replicate (n.toNat * sz) .top))) (nx + 1)) False
  | none => False
 | _, _ => False
theorem run_append_zero {P : Program} {t tx ty e : TypeId} {f : TypeInfo} {z : Value} (ht : P.underlying t = some (.slice e)) (hf : P.info? e = some f) (hfz : f.zero = some z)
  (hx : P.underlying tx = some (.int .i64)) {n : Int} {w : World} (hn : 0 < n) (hb : 0 < f.bytes) (hb2 : f.bytes ≤ 1048576) (hlim : n.toNat * f.bytes ≤ limB) (hzs : z.cells.size = f.size) :
  ∃ newCap, n.toNat ≤ newCap ∧ (Builtin.append_ #[t, tx] ty #[.slice none 0 0, .int .i64 n]).run P w =
   ((newRow e (Builtin.zeroCells z.cells n.toNat ++ Builtin.zeroCells z.cells (newCap - n.toNat))).run P { w with drawn := w.drawn + 1 }).andThen fun a w' => .ok (.slice (some a) n.toNat newCap) w' := by
 have hle : n.toNat ≤ n.toNat * f.bytes := Nat.le_mul_of_pos_right _ hb
 have hlb : limB < 9223372036854775807 := by unfold limB; omega
 have hw : IntKind.i64.wrap n = n := wrap_in (k := .i64) (by simp [IntKind.lo]; omega) (by simp [IntKind.hi]; omega)
 have hb48 : ¬ (2 ^ 48 < n * (f.bytes : Int)) := by
  have e : n * (f.bytes : Int) = ((n.toNat * f.bytes : Nat) : Int) := by rw [Int.natCast_mul]; congr 1; omega
  rw [e]
  have : limB ≤ 2 ^ 48 := by unfold limB; omega
  omega
 have h2 : ¬ (2 ^ 48 < Builtin.nextslicecap n.toNat 0 * f.bytes) := by
  have := nextcap_le n.toNat 0 (by omega)
  have h3 : Builtin.nextslicecap n.toNat 0 * f.bytes ≤ (2 * n.toNat + 4096) * f.bytes := Nat.mul_le_mul_right _ this
  have h4 : (2 * n.toNat + 4096) * f.bytes = 2 * (n.toNat * f.bytes) + 4096 * f.bytes := by rw [Nat.add_mul, Nat.mul_assoc]
  unfold limB at hlim
  omega
 have hroom : ¬ n.toNat ≤ 0 := by omega
 refine ⟨(Question.appendCap n.toNat 0 e).cut (w.tape w.drawn (.appendCap n.toNat 0 e)), by simp [Question.cut], ?_⟩
 have hs : ∀ w, (sizeOf e).run P w = .ok f.size w := fun w => by simp [sizeOf, typeInfo, hf]
 have hti : ∀ w, (typeInfo e).run P w = .ok f w := fun w => by simp [typeInfo, hf]
 have hzv : ∀ w, (zeroValue e).run P w = .ok z w := fun w => by simp [zeroValue, typeInfo, hf, hfz]
 have hask : ∀ k w, (askRoom k).run P w = .ok () w := fun k w => by unfold askRoom; split <;> simp [mark, Sem.run]
 have hch : ∀ q : Question, q.forced = false → ∀ w : World, (choose q).run P w = .ok (q.cut (w.tape w.drawn q)) { w with drawn := w.drawn + 1 } := fun q hq w => by simp [choose, Sem.run, hq]
 simp only [Builtin.append_, run_underlying ht, run_underlying hx, hs, hti, hzv, hroom, Sem.run_bind, Result.andThen_ok, Sem.run_pure, List.getElem?_toArray, List.getElem?_cons_zero, List.getElem?_cons_succ, if_true, ite_true, asInt, hw, Nat.zero_add]
 have hai : ∀ w, (asIntOf (Value.int IntKind.i64 n)).run P w = .ok (IntKind.i64, n) w := fun w => by simp [asIntOf]
 simp only [hai, Result.andThen_ok]
 rw [hw, if_neg (by omega)]
 simp only [Sem.run_bind, hti, Result.andThen_ok]
 rw [if_neg hb48]
 simp only [Sem.run_bind, Sem.run_pure, Result.andThen_ok]
 rw [if_neg hroom]
 simp only [Sem.run_bind, hti, Result.andThen_ok]
 rw [if_neg (by simp only [IntKind.max_i64]; omega)]
 simp only [Sem.run_bind, hti, Result.andThen_ok]
 rw [if_neg h2]
 simp only [Sem.run_bind, hch _ (show (Question.appendCap n.toNat 0 e).forced = false from rfl), Result.andThen_ok, hti, hask, hzv, Sem.run_pure, Bool.not_true, Bool.false_eq_true, if_false]
 have hfst : ∀ w, (Builtin.firstCells f.size 0 (.slice none 0 0)).run P w = .ok #[] w := fun w => by simp [Builtin.firstCells]
 simp only [hfst, Result.andThen_ok]
 by_cases h0 : n.toNat * f.size = 0
 ·rw [if_pos h0]
  have : Builtin.zeroCells z.cells n.toNat = #[] := by
   apply Array.eq_empty_of_size_eq_zero
   rw [zeroCells_size, hzs]
   exact h0
  simp only [Sem.run_pure, Result.andThen_ok, this, hzv, Sem.run_bind, Array.empty_append, Array.append_empty]
 ·rw [if_neg h0]
  simp only [Sem.run_bind, hzv, Sem.run_pure, Result.andThen_ok, Array.empty_append]
theorem repL_tops {E : Env} : ∀ (k : Nat) (vs : List Value), vs.length = k → RepL E (List.replicate k .top) vs
 | 0, [], _ => rfl
 | k + 1, v :: vs, h => by
  simp only [List.replicate_succ, RepL]
  exact ⟨v, vs, rfl, by simp [RepV], repL_tops k vs (by simpa using h)⟩
theorem appendZ_sound {P : Program} {T : Types} (hT : TOK P T) {Z : Nat → Prop} {E : Env} {H : Heap} {nx : Nat} (hr : HeapRep Z E H nx) {t tx ty : TypeId} {n : Int} {K : AV → Heap → Nat → Prop}
  (h : appendZ T H nx t tx n K) :
  ∃ x H' nx' E' r, K x H' nx' ∧ (Builtin.append_ #[t, tx] ty #[.slice none 0 0, .int .i64 n]).run P E.w = .ok r E'.w ∧ After Z E H x H' nx' r E' := by
 unfold appendZ at h
 simp only [forceSz_eq] at h
 split at h
 case h_2 => exact h.elim
 rename_i e a1 b1 z1 sg1 k a2 b2 z2 sg2 ht htx
 obtain ⟨d, hd, hdo, _⟩ := (hT t _ ht).und
 have ho' : d = .slice e := hdo
 subst ho'
 obtain ⟨dx, hdx, hdxo, _⟩ := (hT tx _ htx).und
 have hx' : dx = .int k := hdxo
 subst hx'
 split at h
 case h_2 => exact h.elim
 rename_i ei he
 cases hcond : (kEq k .i64 && Nat.ble 1 ei.bytes && Nat.ble ei.bytes 1048576) with
 | false => rw [hcond] at h; exact h.elim
 | true =>
 rw [hcond] at h
 simp only [Bool.and_eq_true] at hcond
 obtain ⟨⟨hk, hb1⟩, hb2⟩ := hcond
 obtain rfl := kEq_eq hk
 have hb1 := Nat.le_of_ble_eq_true hb1
 have hb2 := Nat.le_of_ble_eq_true hb2
 obtain ⟨f, hf, hfs, hfb, z, hfz, hzsz, hzr, _⟩ := (hT e _ he).info
 simp only [cond_true] at h
 obtain ⟨⟨hn, hlim⟩, hK⟩ := h
 have hrd := hr.drawn (E.w.drawn + 1)
 have Ld := later_drawn E (E.w.drawn + 1)
 have evd : Evo (Wr E.ρ H) E.w (E.drawn (E.w.drawn + 1)).w := Evo.drawn _ _ _
 obtain ⟨newCap, hc1, hc2⟩ := run_append_zero (P := P) (ty := ty) hd hf hfz hdx (w := E.w) hn (by omega) (by omega) (by rw [hfb]; exact hlim) (by rw [hzsz, hfs])
 have hz0 : ∀ k, (Builtin.zeroCells z.cells k).size = k * ei.size := fun k => by rw [zeroCells_size, hzsz]
 obtain ⟨a, E', k1, k2⟩ := grow_after (P := P) (e := e) (esz := ei.size) (len := 0) (n := n.toNat) (newCap := newCap) (zs := Builtin.zeroCells z.cells (newCap - n.toNat)) Ld evd (fun b _ hb => hb) hrd (us := #[]) (cs := []) (by simp [RepL])
  (vs := Builtin.zeroCells z.cells n.toNat) (src := List.replicate (n.toNat * ei.size) .top) (repL_tops _ _ (by rw [Array.length_toList, hz0])) (by simp) (by simp) (by rw [hz0, Nat.zero_add]) (by omega)
 refine ⟨_, _, _, E', _, hK, ?_, by simpa using k2⟩
 rw [hc2]
 have k1' := k1
 simp only [Env.drawn, Array.empty_append] at k1'
 rw [k1']
 simp
theorem cap_nil {P : Program} (w : World) {ts : Array TypeId} {ty t : TypeId} {e : TypeId} (ht : P.underlying t = some (.slice e)) : (Builtin.cap_ #[t] ty #[.slice none 0 0]).run P w = .ok (.int .i64 0) w := by
 simp [Builtin.cap_, run_underlying ht, goInt]
end
section

def copyP (T : Types) (H : Heap) (t : TypeId) (B X : AV) (K : AV → Heap → Prop) : Prop :=
 match T t with
 | some ⟨.slice e, _, _, _, _⟩ => match T e with
  | some ei => match B with
   | .sl id off len es full => match H id with
    | some cs => srcP H ei.size X fun n src => (src.all AV.one = true ∧ es = ei.size ∧ off + len * es ≤ cs.length) ∧
      K (.int .i64 (Nat.min n len : Nat)) (setH H id (some (setN cs off (src.take (Nat.min n len * es)))))
    | none => False
   | _ => False
  | none => False
 | _ => False
theorem copyP_sound {P : Program} {T : Types} (hT : TOK P T) {Z : Nat → Prop} {E : Env} {H : Heap} {nx : Nat} (hr : HeapRep Z E H nx) {t tx ty : TypeId} {B X : AV} {vb vx : Value} {K : AV → Heap → Prop}
  (hb : RepV E B vb) (hx : RepV E X vx) (h : copyP T H t B X K) :
  ∃ x H' E' r, K x H' ∧ (Builtin.copy_ #[t, tx] ty #[vb, vx]).run P E.w = .ok r E'.w ∧ After Z E H x H' nx r E' := by
 unfold copyP at h
 split at h
 case h_2 => exact h.elim
 rename_i e a1 b1 z1 sg1 ht
 obtain ⟨d, hd, hdo, _⟩ := (hT t _ ht).und
 have ho' : d = .slice e := hdo
 subst ho'
 split at h
 case h_2 => exact h.elim
 rename_i ei he
 have hse := fun w => run_sizeOf (hT e _ he) w
 split at h
 case h_2 => exact h.elim
 rename_i id off len es full
 split at h
 case h_2 => exact h.elim
 rename_i cs hcs
 obtain ⟨n, src, ⟨⟨hone, rfl, hl⟩, hk⟩, hS⟩ := srcP_sound (P := P) hr hx h
 simp only [RepV] at hb
 obtain ⟨ao, cap, rfl, hlc, hfull, hc⟩ := hb
 obtain ⟨vs, h1, h2⟩ := hS.some E.w.drawn (Nat.min n len) (Nat.min_le_left _ _)
 have hlen := hS.len E.w
 have hmul : Nat.min n len * ei.size ≤ n * ei.size := Nat.mul_le_mul_right _ (Nat.min_le_left _ _)
 have hmul2 : Nat.min n len * ei.size ≤ len * ei.size := Nat.mul_le_mul_right _ (Nat.min_le_right _ _)
 have htl : (src.take (Nat.min n len * ei.size)).length = Nat.min n len * ei.size := by simp [hS.size]
 rcases hc with rfl | ⟨m, c, e', fr, hm, rfl, hh, hs⟩
 ·have hl0 : len = 0 := by omega
  subst hl0
  have hm0 : Nat.min n 0 = 0 := Nat.min_zero n
  rw [hm0, Nat.zero_mul, List.take_zero] at hk h2
  simp only [RepL] at h2
  refine ⟨_, _, E, goInt 0, hk, ?_, ⟨Later.refl E, Evo.refl _ _, rep_int E _ _, by simp only [setN]; rw [setH_id _ _ _ hcs]; exact hr⟩⟩
  have h1' : (Builtin.firstCells ei.size (Nat.min n 0) vx).run P E.w = .ok vs E.w := h1
  rw [hm0] at h1'
  have hv0 : vs = #[] := by simpa using h2
  subst hv0
  cases ao with
  | none => simp [Builtin.copy_, run_underlying hd, hse, hlen, hm0, h1']
  | some a => simp [Builtin.copy_, run_underlying hd, hse, hlen, hm0, h1', storeCells]
 ·have hsc : ∀ v ∈ vs.toList, scalar v = true := repL_scalar hr.one _ _ h2 (fun x hx' => by
   rw [List.all_eq_true] at hone; exact hone x (List.mem_of_mem_take hx'))
  obtain ⟨E', k1, k2, k3, k4⟩ := storeCells_sound (P := P) (off := off) _ vs.toList 0 E H cs hr hcs hm (by rw [htl]; omega) h2 hsc
  refine ⟨_, _, E', goInt (Nat.min n len : Nat), hk, ?_, ⟨k2, k3, rep_int E' _ _, by simpa using k4⟩⟩
  have h1' : (Builtin.firstCells ei.size (Nat.min n len) vx).run P E.w = .ok vs E.w := h1
  simp only [Builtin.copy_, List.getElem?_toArray, List.getElem?_cons_zero, List.getElem?_cons_succ, run_underlying hd, hse, hlen, h1', Sem.run_bind, Result.andThen_ok, k1, Sem.run_pure]
def zerosA (n : Nat) : List AV → List AV
 | [z] => List.replicate n z
 | zc => (List.replicate n zc).flatten
theorem zerosA_get (n : Nat) (zc : List AV) (hz : 0 < zc.length) : (zerosA n zc).length = n * zc.length ∧ ∀ j, j < n * zc.length → (zerosA n zc)[j]? = zc[j % zc.length]? := by
 have key : ((List.replicate n zc).flatten).length = n * zc.length ∧ ∀ j, j < n * zc.length → ((List.replicate n zc).flatten)[j]? = zc[j % zc.length]? := by
  refine ⟨by simp [List.length_flatten], ?_⟩
  induction n with
  | zero => intro j hj; simp at hj
  | succ n ih =>
   intro j hj
   rw [List.replicate_succ, List.flatten_cons]
   by_cases hjz : j < zc.length
   ·rw [List.getElem?_append_left hjz, Nat.mod_eq_of_lt hjz]
   ·have e1 : j % zc.length = (j - zc.length) % zc.length := Nat.mod_eq_sub_mod (by omega)
    rw [List.getElem?_append_right (by omega), ih _ (by rw [Nat.add_mul] at hj; omega), e1]
 unfold zerosA
 split
 ·rename_i z
  refine ⟨by simp, fun j hj => ?_⟩
  simp only [List.length_cons, List.length_nil, Nat.zero_add, Nat.mul_one] at hj
  simp [List.getElem?_replicate, hj, Nat.mod_one]
 ·exact key
theorem zeros_rep {E : Env} {zv : Value} {zc : List AV} (hz : RepL E zc zv.cells.toList) (h0 : 0 < zc.length) (n : Nat) :
  ∀ (j : Nat) x, (zerosA n zc)[j]? = some x → ∃ u, ((Array.range (n * zc.length)).map (zv.cells[· % zv.cells.size]!))[j]? = some u ∧ RepV E x u := by
 have hsz : zv.cells.size = zc.length := by have := repL_length _ _ hz; simpa using this.symm
 obtain ⟨g1, g2⟩ := zerosA_get n zc h0
 intro j x hx
 have hj : j < n * zc.length := by
  rcases Nat.lt_or_ge j (zerosA n zc).length with h' | h'
  ·omega
  ·rw [List.getElem?_eq_none h'] at hx; cases hx
 rw [g2 j hj] at hx
 obtain ⟨u, hu, hr⟩ := repL_get _ _ hz _ x hx
 rw [Array.getElem?_toList] at hu
 refine ⟨u, ?_, hr⟩
 have hlt : j % zc.length < zv.cells.size := by rw [hsz]; exact Nat.mod_lt _ h0
 simp only [Array.getElem?_map, Array.getElem?_range, hj, if_true, Option.map_some, hsz]
 rw [Array.getElem?_eq_getElem hlt] at hu
 rw [getElem!_pos zv.cells (j % zc.length) hlt]
 exact hu
def makeSliceP (T : Types) (H : Heap) (nx : Nat) (t : TypeId) (L C : AV) (K : AV → Heap → Nat → Prop) : Prop :=
 match T t with
 | some ⟨.slice e, _, _, _, _⟩ => match T e with
  | some ei => match L, C with
   | .int _ l, .int _ c => (c = l ∧ 0 ≤ l ∧ l * ei.bytes ≤ 17592186044416 ∧ l ≤ 17592186044416 ∧ 0 < (cellsA ei.zero).length ∧ (cellsA ei.zero).length = ei.size ∧ ei.zero.ones = true) ∧
     forceL (cellsA ei.zero) fun zs => forceSz ei.size fun sz => K (.sl nx 0 l.toNat sz true) (setH H nx (some (zerosA l.toNat zs))) (nx + 1)
   | _, _ => False
  | none => False
 | _ => False
theorem makeSliceP_sound {P : Program} {T : Types} (hT : TOK P T) {Z : Nat → Prop} {E : Env} {H : Heap} {nx : Nat} (hr : HeapRep Z E H nx) {t : TypeId} {L C : AV} {vl vc : Value} {K : AV → Heap → Nat → Prop}
  (hl : RepV E L vl) (hc : RepV E C vc) (h : makeSliceP T H nx t L C K) :
  ∃ x H' nx' E' r, K x H' nx' ∧ (Instr.makeSlice t vl vc).run P E.w = .ok r E'.w ∧ After Z E H x H' nx' r E' := by
 unfold makeSliceP at h
 simp only [forceL_eq, forceSz_eq] at h
 split at h
 case h_2 => exact h.elim
 rename_i e a1 b1 z1 sg1 ht
 obtain ⟨d, hd, hdo, _⟩ := (hT t _ ht).und
 have ho' : d = .slice e := hdo
 subst ho'
 split at h
 case h_2 => exact h.elim
 rename_i ei he
 have hse := fun w => run_sizeOf (hT e _ he) w
 split at h
 case h_2 => exact h.elim
 rename_i k l k' c
 obtain ⟨⟨rfl, hl0, hlb, hll, hz0, hzs, hzo⟩, hk⟩ := h
 simp only [RepV] at hl hc
 subst hl; subst hc
 have hznt : ei.zero ≠ .top := fun e => by rw [e] at hzo; simp [AV.ones, cellsA, AV.one] at hzo
 obtain ⟨z, hzv, hzr⟩ := run_zeroValue (hT e _ he) hznt E.w
 have hzc := (ones_cells hr.one (hzr E) hzo).1
 have hzv' : ∀ w, (zeroValue e).run P w = .ok z w := fun w => by
  obtain ⟨f, hf, _, _, z', hz', _⟩ := (hT e _ he).info
  have e1 : (zeroValue e).run P E.w = .ok z' E.w := by simp [zeroValue, typeInfo, hf, hz']
  rw [hzv] at e1
  injection e1 with e1 _
  subst e1
  simp [zeroValue, typeInfo, hf, hz']
 obtain ⟨f, hf, hfs, hfb, _⟩ := (hT e _ he).info
 have hw : IntKind.i64.wrap c = c := wrap_in (by simp only [IntKind.lo]; omega) (by simp only [IntKind.hi]; omega)
 obtain ⟨g1, g2⟩ := zerosA_get c.toNat (cellsA ei.zero) hz0
 have hcs := zeros_rep hzc hz0 c.toNat
 obtain ⟨k1, k2, k3, k4, k5⟩ := newRow_sound (P := P) hr e ((Array.range (c.toNat * (cellsA ei.zero).length)).map (z.cells[· % z.cells.size]!)) (zerosA c.toNat (cellsA ei.zero)) (by rw [g1]; simp) hcs
 refine ⟨_, _, _, _, .slice (some ⟨E.w.heap.size, 0, none⟩) c.toNat c.toNat, hk, ?_, ⟨k2, k3, ?_, k4⟩⟩
 ·have hti : ∀ w, (typeInfo e).run P w = .ok f w := fun w => by simp [typeInfo, hf]
  have hask : ∀ k w, (askRoom k).run P w = .ok () w := fun k w => by unfold askRoom; split <;> simp [mark, Sem.run]
  have fin : ∀ R', R' = (Array.range (c.toNat * (cellsA ei.zero).length)).map (z.cells[· % z.cells.size]!) →
    (((newRow e R').run P E.w).andThen fun a w' => Result.ok (Value.slice (some a) c.toNat c.toNat) w') =
     .ok (.slice (some ⟨E.w.heap.size, 0, none⟩) c.toNat c.toNat) (E.alloc nx (.cells ((Array.range (c.toNat * (cellsA ei.zero).length)).map (z.cells[· % z.cells.size]!)) e)).w := by
   rintro R' rfl
   rw [k1]; rfl
  by_cases hn : c.toNat * ei.size = 0
  ·have hc0 : c.toNat = 0 := by
    rcases Nat.mul_eq_zero.1 hn with h | h
    ·exact h
    ·omega
   have hfe : ¬ ((f.bytes : Int) * c > 2 ^ 48) := by
    have : (f.bytes : Int) * c ≤ 17592186044416 := by rw [hfb, Int.mul_comm]; exact hlb
    omega
   simp only [Instr.makeSlice, Sem.run_bind, run_underlying hd, Result.andThen_ok, asInt, asIntOf, Sem.run_pure, hti, hw]
   rw [if_neg (by simp; omega)]
   simp only [Sem.run_bind, hask, Result.andThen_ok, hse, hn, if_true, Sem.run_pure]
   exact fin _ (by rw [hc0]; simp)
  ·have hfe : ¬ ((f.bytes : Int) * c > 2 ^ 48) := by
    have : (f.bytes : Int) * c ≤ 17592186044416 := by rw [hfb, Int.mul_comm]; exact hlb
    omega
   simp only [Instr.makeSlice, Sem.run_bind, run_underlying hd, Result.andThen_ok, asInt, asIntOf, Sem.run_pure, hti, hw]
   rw [if_neg (by simp; omega)]
   simp only [Sem.run_bind, hask, Result.andThen_ok, hse, hn, if_false, Sem.run_pure, hzv']
   exact fin _ (by rw [hzs])
 ·simp only [RepV]
  exact ⟨_, _, rfl, Nat.le_refl _, fun _ => rfl, .inr ⟨_, _, e, (0, 0), k5, rfl, Go.heap_alloc_new _ _, by simp; rw [hzs]; exact Nat.le_refl _⟩⟩
end
section

def repSegs : Nat → Nat → Nat → List AV → List Seg
 | 0, _, _, _ => []
 | n + 1, k, sz, zc => ⟨k, sz, zc⟩ :: repSegs n (k + sz) sz zc
theorem repSegs_tile : ∀ (n k sz : Nat) (zc : List AV), tile k (repSegs n k sz zc) = true
 | 0, _, _, _ => rfl
 | n + 1, k, sz, zc => by simp [repSegs, tile, repSegs_tile n (k + sz) sz zc]
theorem repSegs_sum : ∀ (n k sz : Nat) (zc : List AV), ((repSegs n k sz zc).map (·.s)).sum = n * sz
 | 0, _, _, _ => by simp [repSegs]
 | n + 1, k, sz, zc => by
  simp only [repSegs, List.map_cons, List.sum_cons, repSegs_sum n (k + sz) sz zc]
  rw [Nat.add_mul]; omega
theorem repSegs_get : ∀ (n i sz : Nat) (zc : List AV) (k : Nat) (g : Seg), (repSegs n (i * sz) sz zc)[k]? = some g → g.o = (i + k) * sz ∧ g.s = sz ∧ g.cs = zc ∧ k < n
 | 0, _, _, _, k, g, h => by simp [repSegs] at h
 | n + 1, i, sz, zc, k, g, h => by
  cases k with
  | zero => simp [repSegs] at h; subst h; simp
  | succ k =>
   simp only [repSegs, List.getElem?_cons_succ] at h
   have e : i * sz + sz = (i + 1) * sz := by rw [Nat.add_mul]; omega
   rw [e] at h
   obtain ⟨h1, h2, h3, h4⟩ := repSegs_get n (i + 1) sz zc k g h
   exact ⟨by rw [h1]; congr 1; omega, h2, h3, by omega⟩
def buildSliceP (T : Types) (H : Heap) (nx : Nat) (t : TypeId) (len : Nat) (ps : List (Nat × AV)) (K : AV → Heap → Nat → Prop) : Prop :=
 match T t with
 | some ⟨.slice e, _, _, _, _⟩ => match T e with
  | some ei => cond (Nat.beq (cellsA ei.zero).length ei.size && ei.zero.ones && Nat.ble 1 ei.size && Nat.ble (len * ei.size) 16777216)
    (segsP (repSegs len 0 ei.size (cellsA ei.zero)) ps fun segs => forceL (flat segs) fun ds => forceSz ei.size fun sz => K (.sl nx 0 len sz true) (setH H nx (some ds)) (nx + 1)) False
  | none => False
 | _ => False
theorem buildSliceP_sound {P : Program} {T : Types} (hT : TOK P T) {Z : Nat → Prop} {E : Env} {H : Heap} {nx : Nat} (hr : HeapRep Z E H nx) {t : TypeId} {len : Nat} {ps : List (Nat × AV)} {vs : List (Nat × Value)}
  {K : AV → Heap → Nat → Prop} (hps : RepPs E ps vs) (h : buildSliceP T H nx t len ps K) :
  ∃ x H' nx' E' r, K x H' nx' ∧ (Instr.buildSlice t len vs.toArray).run P E.w = .ok r E'.w ∧ After Z E H x H' nx' r E' := by
 unfold buildSliceP at h
 simp only [forceL_eq, forceSz_eq] at h
 split at h
 case h_2 => exact h.elim
 rename_i e a1 b1 z1 sg1 ht
 obtain ⟨d, hd, hdo, _⟩ := (hT t _ ht).und
 have ho' : d = .slice e := hdo
 subst ho'
 split at h
 case h_2 => exact h.elim
 rename_i ei he
 have hse := fun w => run_sizeOf (hT e _ he) w
 cases hcond : (Nat.beq (cellsA ei.zero).length ei.size && ei.zero.ones && Nat.ble 1 ei.size && Nat.ble (len * ei.size) 16777216) with
 | false => rw [hcond] at h; exact h.elim
 | true =>
 rw [hcond] at h
 simp only [cond_true] at h
 simp only [Bool.and_eq_true] at hcond
 obtain ⟨⟨⟨hzs, hzo⟩, hs1⟩, hlim⟩ := hcond
 have hzs := Nat.eq_of_beq_eq_true hzs
 have hs1 := Nat.le_of_ble_eq_true hs1
 have hlim := Nat.le_of_ble_eq_true hlim
 have hznt : ei.zero ≠ .top := fun e => by rw [e] at hzo; simp [AV.ones, cellsA, AV.one] at hzo
 obtain ⟨f, hf, hfs, hfb, z, hfz, hzsz, hzr, _⟩ := (hT e _ he).info
 have hzr' := hzr.resolve_left hznt
 have hzv : ∀ w, (zeroValue e).run P w = .ok z w := fun w => by simp [zeroValue, typeInfo, hf, hfz]
 have hzc := (ones_cells hr.one (hzr' E) hzo).1
 let cells : Array Value := (Array.range (len * ei.size)).map (z.cells[· % z.cells.size]!)
 have hrep := zeros_rep hzc (by omega) len
 obtain ⟨g1, g2⟩ := zerosA_get len (cellsA ei.zero) (by omega)
 have hok : SegsOk E (repSegs len 0 ei.size (cellsA ei.zero)) cells := by
  intro g hg
  obtain ⟨k, hk⟩ := List.getElem?_of_mem hg
  have := repSegs_get len 0 ei.size (cellsA ei.zero) k g (by rw [Nat.zero_mul]; exact hk)
  obtain ⟨q1, q2, q3, q4⟩ := this
  rw [Nat.zero_add] at q1
  have hk1 : (k + 1) * ei.size ≤ len * ei.size := Nat.mul_le_mul_right _ (by omega)
  have hk2 : (k + 1) * ei.size = k * ei.size + ei.size := by rw [Nat.add_mul]; omega
  refine ⟨by rw [q3, q2, hzs], by rw [q1, q2]; simp [cells]; omega, fun j x hx => ?_⟩
  rw [q3] at hx
  have hj : j < ei.size := by
   rcases Nat.lt_or_ge j (cellsA ei.zero).length with h' | h'
   ·omega
   ·rw [List.getElem?_eq_none h'] at hx; cases hx
  have := hrep (g.o + j) x (by
   rw [g2 _ (by rw [hzs, q1]; omega), q1, hzs]
   rw [Nat.mul_comm, Nat.mul_add_mod, Nat.mod_eq_of_lt hj]; exact hx)
  rw [hzs] at this
  exact this
 have hp : PlaceOk (fun i => some (i * ei.size, ei.size)) (repSegs len 0 ei.size (cellsA ei.zero)) := fun k g hg => by
  obtain ⟨q1, q2, _⟩ := repSegs_get len 0 ei.size (cellsA ei.zero) k g (by rw [Nat.zero_mul]; exact hg)
  simp [q1, q2]
 obtain ⟨segs', cells', ⟨k1, k1s⟩, k2, k3, k4, k5⟩ := segsP_sound hr.one ps vs _ cells 0 hok (repSegs_tile _ _ _ _) hp hps (segsP_sum _ _ h)
 have hcl : cells.size = len * ei.size := by simp [cells]
 have hfl := repL_of_cells segs' cells' k3 k4 (by rw [k1s, repSegs_sum, k5, hcl])
 obtain ⟨m1, m2, m3, m4, m5⟩ := newRow_sound (P := P) hr e cells' (flat segs') (by have := repL_length _ _ hfl; simp at this; omega)
  (fun j x hx => by obtain ⟨u, hu, hr'⟩ := repL_get _ _ hfl j x hx; exact ⟨u, by simpa using hu, hr'⟩)
 refine ⟨_, _, _, _, .slice (some ⟨E.w.heap.size, 0, none⟩) len len, k1, ?_, ⟨m2, m3, ?_, m4⟩⟩
 ·have hnl : ¬ (len * ei.size > 2 ^ 24) := by omega
  have hzcells : ∀ zz : Array Value, (len * ei.size = 0 → True) → True := fun _ _ => trivial
  have fin2 : (do let a ← newRow e cells'; Pure.pure (Value.slice (some a) len len) : Sem Value).run P E.w = .ok (.slice (some ⟨E.w.heap.size, 0, none⟩) len len) (E.alloc nx (.cells cells' e)).w := by
   simp [m1]
  by_cases hn : len * ei.size = 0
  ·simp only [Instr.buildSlice, Sem.run_bind, run_underlying hd, Result.andThen_ok, hse]
   rw [if_neg hnl]
   simp only [Sem.run_bind, Result.andThen_ok, hn, if_true, Sem.run_pure]
   have e0 : Array.map (fun (x : Nat) => (#[] : Array Value)[x % (#[] : Array Value).size]!) (Array.range 0) = cells := by simp [cells, hn]
   simp only [e0, k2]
   exact fin2
  ·simp only [Instr.buildSlice, Sem.run_bind, run_underlying hd, Result.andThen_ok, hse]
   rw [if_neg hnl]
   simp only [Sem.run_bind, Result.andThen_ok, hn, if_false, Sem.run_pure, hzv]
   have e0 : Array.map (fun (x : Nat) => z.cells[x % z.cells.size]!) (Array.range (len * ei.size)) = cells := rfl
   simp only [e0, k2]
   exact fin2
 ·simp only [RepV]
  exact ⟨_, _, rfl, Nat.le_refl _, fun _ => rfl, .inr ⟨_, cells', e, (0, 0), m5, rfl, Go.heap_alloc_new _ _, by rw [k5, hcl]; omega⟩⟩
end
section

theorem all_range_eq : ∀ (x y : List Int), x.length = y.length → (List.range x.length).all (fun i => x.getD i 0 == y.getD i 0) = decide (x = y)
 | [], [], _ => rfl
 | a :: x, b :: y, h => by
  rw [List.length_cons, List.range_succ_eq_map, List.all_cons, List.all_map]
  have := all_range_eq x y (by simpa using h)
  simp only [Function.comp_def, List.getD_cons_succ, List.getD_cons_zero]
  rw [this]
  rw [Bool.eq_iff_iff]
  simp
 | [], _ :: _, h => by simp at h
 | _ :: _, [], h => by simp at h
theorem run_eqA {P : Program} {w : World} (d : Nat) (t e : TypeId) (n : Nat) (k : IntKind) (ht : P.underlying t = some (.array n e)) (he : P.underlying e = some (.int k)) (hsz : ∀ w, (sizeOf e).run P w = .ok 1 w)
  (xs ys : List Int) (hx : xs.length = n) (hy : ys.length = n) :
  (Op.equalIn (d + 2) t (.agg (xs.map (Value.int k)).toArray) (.agg (ys.map (Value.int k)).toArray)).run P w = .ok (decide (xs = ys)) w := by
 rw [← all_range_eq xs ys (hx.trans hy.symm), hx, List.range_eq_range', Op.equalIn]
 simp only [Sem.run_bind, run_underlying ht, Result.andThen_ok, hsz, Std.Legacy.Range.forIn_eq_forIn_range', Std.Legacy.Range.size, Nat.sub_zero, Nat.add_sub_cancel, Nat.div_one]
 have hl : ∀ i ∈ List.range' 0 n 1, i < n := fun i hi => by simpa using (List.mem_range'_1.1 hi).2
 generalize List.range' 0 n 1 = l at hl ⊢
 induction l with
 | nil => simp
 | cons i l ih =>
  have hi : i < n := hl i (by simp)
  have px : (part e (xs.map (Value.int k)).toArray (i * 1)).run P w = .ok (Value.int k (xs.getD i 0)) w := by
   simp [part, isAgg, run_underlying he, List.getD, List.getElem?_eq_getElem (show i < xs.length by omega)]
  have py : (part e (ys.map (Value.int k)).toArray (i * 1)).run P w = .ok (Value.int k (ys.getD i 0)) w := by
   simp [part, isAgg, run_underlying he, List.getD, List.getElem?_eq_getElem (show i < ys.length by omega)]
  have pe : (Op.equalIn (d + 1) e (Value.int k (xs.getD i 0)) (Value.int k (ys.getD i 0))).run P w = .ok (xs.getD i 0 == ys.getD i 0) w :=
   run_equalIn_int w d e k k _ _ he
  simp only [List.forIn_cons, Sem.run_bind, px, py, pe, Result.andThen_ok, List.all_cons]
  cases hb : (xs.getD i 0 == ys.getD i 0)
  ·simp
  ·simp only [Bool.not_true, Bool.false_eq_true, if_false, Sem.run_pure, Result.andThen_ok, Bool.true_and]
   exact ih fun j hj => hl j (by simp [hj])
theorem run_eq_ptr {P : Program} (w : World) (t e : TypeId) (a : Option Addr) (h : P.underlying t = some (.pointer e)) : (Op.equal t (.pointer a) (.pointer none)).run P w = .ok a.isNone w := by
 unfold Op.equal Op.maxDepth
 rw [show (10000 : Nat) = 9999 + 1 from rfl, Op.equalIn]
 cases a <;> simp [run_underlying h]
theorem repL_ints {E : Env} {k : IntKind} : ∀ (xs : List Int) (vs : List Value), RepL E (xs.map (AV.int k)) vs → vs = xs.map (Value.int k)
 | [], vs, h => by simpa [RepL] using h
 | x :: xs, vs, h => by
  simp only [List.map_cons, RepL] at h ⊢
  obtain ⟨u, us, rfl, hu, h⟩ := h
  simp only [RepV] at hu
  rw [hu, repL_ints xs us h]
def eqP (T : Types) (t : TypeId) (X Y : AV) (K : AV → Prop) (f : Bool → AV) : Prop :=
 match X, Y with
 | .agg cs, .agg ds => match T t with
  | some ⟨.arr n e, _, _, _, _⟩ => match T e with
   | some ⟨.int k, sz, _, _, _⟩ => ∃ xs ys : List Int, (sz = 1 ∧ cs = xs.map (AV.int k) ∧ ds = ys.map (AV.int k) ∧ xs.length = n ∧ ys.length = n) ∧ K (f (decide (xs = ys)))
   | _ => False
  | _ => False
 | .bool a, .bool b => match T t with
  | some ⟨.bool, _, _, _, _⟩ => K (f (a == b))
  | _ => False
 | .ptr _ _, .nilp => match T t with
  | some ⟨.ptr _, _, _, _, _⟩ => K (f false)
  | _ => False
 | .rop _, .nilp => match T t with
  | some ⟨.ptr _, _, _, _, _⟩ => K (f false)
  | _ => False
 | .nil, .nil => match T t with
  | some ⟨.slice _, _, _, _, _⟩ => K (f true)
  | _ => False
 | .ro len cs, .nil => match T t with
  | some ⟨.slice _, _, _, _, _⟩ => (cs = [] → K (f true)) ∧ K (f false)
  | _ => False
 | .sl _ _ len _ _, .nil => match T t with
  | some ⟨.slice _, _, _, _, _⟩ => (len = 0 → K (f true)) ∧ K (f false)
  | _ => False
 | _, _ => False
theorem run_eq_bool {P : Program} (n : Nat) (w : World) (t : TypeId) (a b : Bool) (hd : P.underlying t = some .bool) : (Op.equalIn (n + 1) t (.bool a) (.bool b)).run P w = .ok (a == b) w := by
 simp [Op.equalIn, run_underlying hd]
theorem eqP_sound {P : Program} {T : Types} (hT : TOK P T) {E : Env} {t : TypeId} {X Y : AV} {u v : Value} {K : AV → Prop} {f : Bool → AV} {g : Bool → Bool} (hf : ∀ b, f b = .bool (g b)) (hu : RepV E X u) (hv : RepV E Y v)
  (h : eqP T t X Y K f) : ∃ x b, K x ∧ RepV E x (.bool (g b)) ∧ (∀ w, (Op.equal t u v).run P w = .ok b w) ∧ ∀ op xo yo w, (eqGuard op t xo yo u v).run P w = .ok () w := by
 have hfr : ∀ b, RepV E (f b) (.bool (g b)) := fun b => by rw [hf]; exact rep_bool E _
 unfold eqP at h
 split at h
 ·rename_i cs ds
  split at h
  case h_2 => exact h.elim
  rename_i n e a b z sg ht
  obtain ⟨d, hd, ho, _⟩ := (hT t _ ht).und
  have ho' : d = .array n e := ho
  subst ho'
  split at h
  case h_2 => exact h.elim
  rename_i k sz b' z' sg' he
  obtain ⟨d', hd', ho2, _⟩ := (hT e _ he).und
  have ho2' : d' = .int k := ho2
  subst ho2'
  obtain ⟨xs, ys, ⟨rfl, rfl, rfl, hx, hy⟩, hk⟩ := h
  simp only [RepV] at hu hv
  obtain ⟨us, rfl, hus⟩ := hu
  obtain ⟨vs, rfl, hvs⟩ := hv
  have e1 := repL_ints _ _ hus
  have e2 := repL_ints _ _ hvs
  have e1' : us = (xs.map (Value.int k)).toArray := by rw [← e1]
  have e2' : vs = (ys.map (Value.int k)).toArray := by rw [← e2]
  subst e1'; subst e2'
  refine ⟨_, decide (xs = ys), hk, hfr _, fun w => run_eqA 9998 t e n k hd hd' (fun w => run_sizeOf (hT e _ he) w) xs ys hx hy, fun op xo yo w => ?_⟩
  have hdep : ∃ m, P.depth = m + 2 := ⟨2 * (P.types.size + Made.depth), rfl⟩
  obtain ⟨m, hm⟩ := hdep
  refine run_eqGuard_agg w op t xo yo _ _ ?_
  rw [hm]
  simp [Program.eqGuardType, hd, hd']
 ·rename_i a b
  split at h
  case h_2 => exact h.elim
  rename_i a1 b1 z1 sg1 ht
  obtain ⟨d, hd, ho, _⟩ := (hT t _ ht).und
  have ho' : d = .bool := ho
  subst ho'
  simp only [RepV] at hu hv
  subst hu; subst hv
  refine ⟨_, a == b, h, hfr _, fun w => ?_, fun op xo yo w => ?_⟩
  ·exact run_eq_bool 9999 w t a b hd
  ·unfold eqGuard
   cases op <;> rfl
 ·split at h
  case h_2 => exact h.elim
  rename_i pe a b z sg ht
  obtain ⟨d, hd, ho, _⟩ := (hT t _ ht).und
  have ho' : d = .pointer pe := ho
  subst ho'
  simp only [RepV] at hu hv
  obtain ⟨m, hm, rfl⟩ := hu
  subst hv
  exact ⟨_, false, h, hfr _, fun w => run_eq_ptr w t pe _ hd, fun op xo yo w => by rw [eqGuard_at_pointer]; rfl⟩
 ·split at h
  case h_2 => exact h.elim
  rename_i pe a b z sg ht
  obtain ⟨d, hd, ho, _⟩ := (hT t _ ht).und
  have ho' : d = .pointer pe := ho
  subst ho'
  simp only [RepV] at hu hv
  obtain ⟨bb, off, rfl, _⟩ := hu
  subst hv
  exact ⟨_, false, h, hfr _, fun w => run_eq_ptr w t pe _ hd, fun op xo yo w => by rw [eqGuard_at_pointer]; rfl⟩
 ·split at h
  case h_2 => exact h.elim
  rename_i se a b z sg ht
  obtain ⟨d, hd, ho, _⟩ := (hT t _ ht).und
  have ho' : d = .slice se := ho
  subst ho'
  simp only [RepV] at hu hv
  subst hu; subst hv
  exact ⟨_, true, h, hfr _, fun w => by simp [run_equal_slice_nil w t se _ _ _ hd], fun op xo yo w => by rw [eqGuard_at_slice]; rfl⟩
 ·split at h
  case h_2 => exact h.elim
  rename_i se a b z sg ht
  obtain ⟨d, hd, ho, _⟩ := (hT t _ ht).und
  have ho' : d = .slice se := ho
  subst ho'
  simp only [RepV] at hu hv
  obtain ⟨ao, cap, rfl, hl, hc⟩ := hu
  subst hv
  cases hao : ao with
  | none =>
   subst hao
   rcases hc with rfl | ⟨bb, off, he, _⟩
   ·exact ⟨_, true, h.1 rfl, hfr _, fun w => by simp [run_equal_slice_nil w t se _ _ _ hd], fun op xo yo w => by rw [eqGuard_at_slice]; rfl⟩
   ·cases he
  | some ad => exact ⟨_, false, h.2, hfr _, fun w => by simp [run_equal_slice_nil w t se _ _ _ hd], fun op xo yo w => by rw [eqGuard_at_slice]; rfl⟩
 ·split at h
  case h_2 => exact h.elim
  rename_i se a b z sg ht
  obtain ⟨d, hd, ho, _⟩ := (hT t _ ht).und
  have ho' : d = .slice se := ho
  subst ho'
  simp only [RepV] at hu hv
  obtain ⟨ao, cap, rfl, hl, _, hc⟩ := hu
  subst hv
  cases hao : ao with
  | none =>
   subst hao
   rcases hc with rfl | ⟨m, c, e', fr, _, he, _⟩
   ·exact ⟨_, true, h.1 (by omega), hfr _, fun w => by simp [run_equal_slice_nil w t se _ _ _ hd], fun op xo yo w => by rw [eqGuard_at_slice]; rfl⟩
   ·cases he
  | some ad => exact ⟨_, false, h.2, hfr _, fun w => by simp [run_equal_slice_nil w t se _ _ _ hd], fun op xo yo w => by rw [eqGuard_at_slice]; rfl⟩
 ·exact h.elim
def unP (op : UnOp) (X : AV) (K : AV → Prop) : Prop :=
 match op, X with
 | .not, .bool b => K (.bool (!b))
 | .not, .anyb => K .anyb
 | .neg, .int k n => fitP k (0 - n) fun m => K (.int k m)
 | .xor, .int k n => K (.int k (bits .xor k (if k.signed then -1 else k.max) n))
 | _, _ => False
theorem unP_sound {P : Program} {E : Env} {op : UnOp} {X : AV} {v : Value} {K : AV → Prop} (hx : RepV E X v) (h : unP op X K) :
  ∃ x r, K x ∧ RepV E x r ∧ ∀ w, (Op.unary op v).run P w = .ok r w := by
 unfold unP at h
 split at h <;> (try simp only [RepV] at hx)
 ·subst hx; exact ⟨_, _, h, rep_bool E _, fun w => rfl⟩
 ·obtain ⟨b, rfl⟩ := hx; exact ⟨_, .bool (!b), h, by simp [RepV], fun w => rfl⟩
 ·subst hx; exact ⟨_, _, h.elim, rep_int E _ _, fun w => by simp [Op.unary, Op.intArith]⟩
 ·subst hx; exact ⟨_, _, h, rep_int E _ _, fun w => by simp [Op.unary, intBits_xor]⟩
 ·exact h.elim
def arrayAtP (T : Types) (t : TypeId) (X : AV) (K : AV → Prop) : Prop :=
 match T t with
 | some ⟨.arr n e, _, _, _, _⟩ => match X with
  | .sl id off len es full => (0 < n ∧ n ≤ len) ∧ K (.ptr id off)
  | .ro len cs => (0 < cs.length ∧ n ≤ len) ∧ K (.rop cs)
  | _ => False
 | _ => False
theorem arrayAtP_sound {P : Program} {T : Types} (hT : TOK P T) {E : Env} {t : TypeId} {X : AV} {v : Value} {K : AV → Prop} (hx : RepV E X v) (h : arrayAtP T t X K) :
  ∃ x r, K x ∧ (∀ w, (Instr.arrayAt t v).run P w = .ok r w) ∧ RepV E x r := by
 unfold arrayAtP at h
 split at h
 case h_2 => exact h.elim
 rename_i n e a b z sg ht
 obtain ⟨d, hd, ho, _⟩ := (hT t _ ht).und
 have ho' : d = .array n e := ho
 subst ho'
 split at h
 ·rename_i id off len es full
  obtain ⟨⟨h0, h1⟩, hk⟩ := h
  simp only [RepV] at hx
  obtain ⟨ao, cap, rfl, hl, _, hc⟩ := hx
  rcases hc with rfl | ⟨m, c, e', fr, hm, rfl, _⟩
  ·omega
  ·refine ⟨_, .pointer (some ⟨m, off, none⟩), hk, fun w => ?_, ?_⟩
   ·simp only [Instr.arrayAt, Sem.run_bind, run_underlying hd, Result.andThen_ok]
    rw [if_neg (by omega)]; rfl
   ·simp only [RepV]; exact ⟨m, hm, rfl⟩
 ·obtain ⟨⟨h0, h1⟩, hk⟩ := h
  simp only [RepV] at hx
  obtain ⟨ao, cap, rfl, hl, hc⟩ := hx
  rcases hc with rfl | ⟨bb, off, rfl, hV, hm⟩
  ·simp at h0
  ·refine ⟨_, .pointer (some ⟨bb, off, none⟩), hk, fun w => ?_, ?_⟩
   ·simp only [Instr.arrayAt, Sem.run_bind, run_underlying hd, Result.andThen_ok]
    rw [if_neg (by omega)]; rfl
   ·simp only [RepV]; exact ⟨bb, off, rfl, .inr ⟨hV, hm⟩⟩
 ·exact h.elim
end
end Go.Proofs.Ytbkclacjamlebaa.Abs
