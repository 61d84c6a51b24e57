/- Texts FVA to FZ, merged. -/
import Derived.Lib.BytesEntry
import Derived.Laws.Externs
import Derived.OrdersHeld
import Derived.Test.YtbkclacjamlebaaV3
set_option linter.unusedVariables false
set_option linter.unusedSimpArgs false
namespace Go.Proofs.Ytbkclacjamlebaa.Abs
open Go
section

mutual
def noHidV : AV → Bool
 | .hid _ => false
 | .agg cs | .tuple cs | .ro _ cs | .own _ _ cs | .ref cs | .rop cs | .fn _ cs => noHidL cs
 | _ => true
def noHidL : List AV → Bool
 | [] => true
 | c :: cs => noHidV c && noHidL cs
end
structure SameEta (E E' : Env) : Prop where
 w : E'.w = E.w
 ρ : E'.ρ = E.ρ
 V : E'.V = E.V
mutual
theorem RepV.eta {E E' : Env} (h : SameEta E E') : ∀ (x : AV) (v : Value), noHidV x = true → RepV E x v → RepV E' x v
 | .top, _, _, _ => by simp [RepV]
 | .int k n, v, _, h' => by simpa [RepV] using h'
 | .bool b, v, _, h' => by simpa [RepV] using h'
 | .anyb, v, _, h' => by simpa [RepV] using h'
 | .str s, v, _, h' => by simpa [RepV] using h'
 | .agg cs, v, hp, h' => by
  simp only [RepV] at h' ⊢
  obtain ⟨vs, rfl, hl⟩ := h'
  exact ⟨vs, rfl, RepL.eta h cs _ (by simpa [noHidV] using hp) hl⟩
 | .tuple cs, v, hp, h' => by
  simp only [RepV] at h' ⊢
  obtain ⟨vs, rfl, hl⟩ := h'
  exact ⟨vs, rfl, RepL.eta h cs _ (by simpa [noHidV] using hp) hl⟩
 | .nil, v, _, h' => by simpa [RepV] using h'
 | .ro len cs, v, hp, h' => by
  simp only [RepV] at h' ⊢
  obtain ⟨a, cap, rfl, hl, hc⟩ := h'
  refine ⟨a, cap, rfl, hl, hc.imp (fun x => x) ?_⟩
  rintro ⟨b, off, rfl, hb, hm⟩
  exact ⟨b, off, rfl, by rw [h.V]; exact hb, RepM.eta h cs b off (by simpa [noHidV] using hp) hm⟩
 | .own _ _ _, _, _, h' => by simp [RepV] at h'
 | .ref _, _, _, h' => by simp [RepV] at h'
 | .sl id off len esz full, v, _, h' => by
  simp only [RepV] at h' ⊢
  rw [h.ρ, h.w]; exact h'
 | .ptr id off, v, _, h' => by
  simp only [RepV] at h' ⊢
  rw [h.ρ]; exact h'
 | .rop cs, v, hp, h' => by
  simp only [RepV] at h' ⊢
  obtain ⟨b, off, rfl, hc⟩ := h'
  refine ⟨b, off, rfl, hc.imp (fun x => x) ?_⟩
  rintro ⟨hb, hm⟩
  exact ⟨by rw [h.V]; exact hb, RepM.eta h cs b off (by simpa [noHidV] using hp) hm⟩
 | .nilp, v, _, h' => by simpa [RepV] using h'
 | .hid i, v, hp, _ => by simp [noHidV] at hp
 | .fn f cs, v, hp, h' => by
  simp only [RepV] at h' ⊢
  obtain ⟨vs, rfl, hl⟩ := h'
  exact ⟨vs, rfl, RepL.eta h cs _ (by simpa [noHidV] using hp) hl⟩
theorem RepL.eta {E E' : Env} (h : SameEta E E') : ∀ (cs : List AV) (vs : List Value), noHidL cs = true → RepL E cs vs → RepL E' cs vs
 | [], vs, _, h' => by simpa [RepL] using h'
 | c :: cs, vs, hp, h' => by
  simp only [noHidL, Bool.and_eq_true] at hp
  simp only [RepL] at h' ⊢
  obtain ⟨u, us, rfl, h1, h2⟩ := h'
  exact ⟨u, us, rfl, RepV.eta h c u hp.1 h1, RepL.eta h cs us hp.2 h2⟩
theorem RepM.eta {E E' : Env} (h : SameEta E E') : ∀ (cs : List AV) (b off : Nat), noHidL cs = true → RepM E cs b off → RepM E' cs b off
 | [], _, _, _, _ => by simp [RepM]
 | c :: cs, b, off, hp, h' => by
  simp only [noHidL, Bool.and_eq_true] at hp
  simp only [RepM] at h' ⊢
  obtain ⟨⟨u, hu, hr⟩, h2⟩ := h'
  exact ⟨⟨u, by rw [h.w]; exact hu, RepV.eta h c u hp.1 hr⟩, RepM.eta h cs b (off + 1) hp.2 h2⟩
end
mutual
theorem RepB.eta {E E' : Env} (h : SameEta E E') : ∀ (y : AV) (v : Value) (X : List Nat), noHidV y = true → RepB E y v X → RepB E' y v X
 | .own len esz cs, v, X, hp, hb => by
  simp only [RepB] at hb ⊢
  obtain ⟨hq, a, cap, rfl, hl, hc⟩ := hb
  refine ⟨hq, a, cap, rfl, hl, hc.imp (fun x => x) ?_⟩
  rintro ⟨n, c, e, fr, rfl, rfl, k1, k2, k3, k4, k5⟩
  exact ⟨n, c, e, fr, rfl, rfl, by rw [h.w]; exact k1, k2, k3, k4, RepL.eta h _ _ (by simpa [noHidV] using hp) k5⟩
 | .ref cs, v, X, hp, hb => by
  simp only [RepB] at hb ⊢
  obtain ⟨n, Y, c, e, fr, rfl, rfl, k1, k2, k3, k4⟩ := hb
  exact ⟨n, Y, c, e, fr, rfl, rfl, by rw [h.w]; exact k1, k2, k3, RepBL.eta h cs _ Y (by simpa [noHidV] using hp) k4⟩
 | .agg cs, v, X, hp, hb => by
  simp only [RepB] at hb ⊢
  obtain ⟨vs, rfl, hl⟩ := hb
  exact ⟨vs, rfl, RepBL.eta h cs _ X (by simpa [noHidV] using hp) hl⟩
 | .tuple cs, v, X, hp, hb => by
  simp only [RepB] at hb ⊢
  obtain ⟨vs, rfl, hl⟩ := hb
  exact ⟨vs, rfl, RepBL.eta h cs _ X (by simpa [noHidV] using hp) hl⟩
 | .top, v, X, hp, hb => by simp only [RepB] at hb ⊢; exact ⟨hb.1, RepV.eta h _ v hp hb.2.1, hb.2.2⟩
 | .int k n, v, X, hp, hb => by simp only [RepB] at hb ⊢; exact ⟨hb.1, RepV.eta h _ v hp hb.2.1, hb.2.2⟩
 | .bool b, v, X, hp, hb => by simp only [RepB] at hb ⊢; exact ⟨hb.1, RepV.eta h _ v hp hb.2.1, hb.2.2⟩
 | .anyb, v, X, hp, hb => by simp only [RepB] at hb ⊢; exact ⟨hb.1, RepV.eta h _ v hp hb.2.1, hb.2.2⟩
 | .str s, v, X, hp, hb => by simp only [RepB] at hb ⊢; exact ⟨hb.1, RepV.eta h _ v hp hb.2.1, hb.2.2⟩
 | .nil, v, X, hp, hb => by simp only [RepB] at hb ⊢; exact ⟨hb.1, RepV.eta h _ v hp hb.2.1, hb.2.2⟩
 | .ro len cs, v, X, hp, hb => by simp only [RepB] at hb ⊢; exact ⟨hb.1, RepV.eta h _ v hp hb.2.1, hb.2.2⟩
 | .sl _ _ _ _ _, v, X, hp, hb => by simp only [RepB] at hb ⊢; exact ⟨hb.1, RepV.eta h _ v hp hb.2.1, hb.2.2⟩
 | .ptr _ _, v, X, hp, hb => by simp only [RepB] at hb ⊢; exact ⟨hb.1, RepV.eta h _ v hp hb.2.1, hb.2.2⟩
 | .rop cs, v, X, hp, hb => by simp only [RepB] at hb ⊢; exact ⟨hb.1, RepV.eta h _ v hp hb.2.1, hb.2.2⟩
 | .nilp, v, X, hp, hb => by simp only [RepB] at hb ⊢; exact ⟨hb.1, RepV.eta h _ v hp hb.2.1, hb.2.2⟩
 | .hid i, v, X, hp, hb => by simp [noHidV] at hp
 | .fn f cs, v, X, hp, hb => by simp only [RepB] at hb ⊢; exact ⟨hb.1, RepV.eta h _ v hp hb.2.1, hb.2.2⟩
theorem RepBL.eta {E E' : Env} (h : SameEta E E') : ∀ (cs : List AV) (vs : List Value) (X : List Nat), noHidL cs = true → RepBL E cs vs X → RepBL E' cs vs X
 | [], vs, X, _, hb => by simpa [RepBL] using hb
 | c :: cs, vs, X, hp, hb => by
  simp only [noHidL, Bool.and_eq_true] at hp
  simp only [RepBL] at hb ⊢
  obtain ⟨u, us, Y, Y', rfl, rfl, h1, h2⟩ := hb
  exact ⟨u, us, Y, Y', rfl, rfl, RepB.eta h c u Y hp.1 h1, RepBL.eta h cs us Y' hp.2 h2⟩
end
theorem RepBL.hide {E E' : Env} (h : SameEta E E') : ∀ (cs : List AV) (j : Nat) (vs : List Value) (X : List Nat), noHidL cs = true → cs[j]? = some .top → vs[j]? = some (E'.η 0) → RepBL E cs vs X → RepBL E' (cs.set j (.hid 0)) vs X
 | [], j, vs, X, _, hj, _, hb => by simp at hj
 | c :: cs, 0, vs, X, hp, hj, hv, hb => by
  simp only [noHidL, Bool.and_eq_true] at hp
  simp only [RepBL] at hb
  obtain ⟨u, us, Y, Y', rfl, rfl, h1, h2⟩ := hb
  simp at hj hv
  subst hj; subst hv
  simp only [RepB] at h1
  simp only [List.set_cons_zero, RepBL]
  exact ⟨_, us, Y, Y', rfl, rfl, by simp [RepB, pureV, RepV, h1.2.2], RepBL.eta h cs us Y' hp.2 h2⟩
 | c :: cs, j + 1, vs, X, hp, hj, hv, hb => by
  simp only [noHidL, Bool.and_eq_true] at hp
  simp only [RepBL] at hb
  obtain ⟨u, us, Y, Y', rfl, rfl, h1, h2⟩ := hb
  simp only [List.set_cons_succ, RepBL]
  exact ⟨u, us, Y, Y', rfl, rfl, RepB.eta h c u Y hp.1 h1, RepBL.hide h cs j us Y' hp.2 (by simpa using hj) (by simpa using hv) h2⟩
theorem RepBL.unhide {E E' : Env} (h : SameEta E E') : ∀ (cs : List AV) (j : Nat) (vs : List Value) (X : List Nat), noHidL cs = true → cs[j]? = some .top → RepBL E (cs.set j (.hid 0)) vs X → RepBL E' cs vs X ∧ vs[j]? = some (E.η 0)
 | [], j, vs, X, _, hj, hb => by simp at hj
 | c :: cs, 0, vs, X, hp, hj, hb => by
  simp only [noHidL, Bool.and_eq_true] at hp
  simp only [List.set_cons_zero, RepBL] at hb
  obtain ⟨u, us, Y, Y', rfl, rfl, h1, h2⟩ := hb
  simp at hj
  subst hj
  simp only [RepB, RepV] at h1
  obtain ⟨_, rfl, rfl⟩ := h1
  refine ⟨?_, by simp⟩
  simp only [RepBL]
  exact ⟨_, us, [], Y', rfl, rfl, by simp [RepB, pureV, RepV], RepBL.eta h cs us Y' hp.2 h2⟩
 | c :: cs, j + 1, vs, X, hp, hj, hb => by
  simp only [noHidL, Bool.and_eq_true] at hp
  simp only [List.set_cons_succ, RepBL] at hb
  obtain ⟨u, us, Y, Y', rfl, rfl, h1, h2⟩ := hb
  obtain ⟨k1, k2⟩ := RepBL.unhide h cs j us Y' hp.2 (by simpa using hj) h2
  refine ⟨?_, by simpa using k2⟩
  simp only [RepBL]
  exact ⟨u, us, Y, Y', rfl, rfl, RepB.eta h c u Y hp.1 h1, k1⟩
def cell0 (j : Nat) (vals : List Value) (w : World) : Option Value :=
 match vals with
 | .pointer (some ⟨n, 0, none⟩) :: _ => w.cell? ⟨n, j, none⟩
 | _ => none
theorem cell_take {w : World} {n j m : Nat} {c : Array Value} {e : TypeId} {fr : Nat × Nat} (h : w.heap[n]? = some (.cells c e fr)) (hj : j < m) : w.cell? ⟨n, j, none⟩ = (c.toList.take m)[j]? := by
 simp [World.cell?, h, hj]
theorem ACall.hidJ {P : Program} {f : FuncId} {cs yr os : List AV} {r : AV} {j : Nat} (h : ACall P f (.ref (cs.set j (.hid 0)) :: yr) r [.ref (os.set j (.hid 0))])
  (hn : (noHidL cs && noHidL yr && noHidL os && noHidV r) = true) (hc : cs[j]? = some .top) (ho : os[j]? = some .top) :
  ACallJ P f (.ref cs :: yr) r [.ref os] (fun vals w => ∃ u, cell0 j vals w = some u ∧ scalar u = true) (fun vals w w' => cell0 j vals w' = cell0 j vals w) := by
 simp only [Bool.and_eq_true] at hn
 obtain ⟨⟨⟨n1, n2⟩, n3⟩, n4⟩ := hn
 rintro Z E vals X h0 hargs hX hXZ ⟨u, hu, hsc⟩
 simp only [RepBL] at hargs
 obtain ⟨v0, us, Y, Y', rfl, rfl, h1, h2⟩ := hargs
 simp only [RepB] at h1
 obtain ⟨n, Y0, c, e, fr, rfl, rfl, b1, b2, b3, b4⟩ := h1
 have hjl : j < cs.length := by
  rcases Nat.lt_or_ge j cs.length with h' | h'
  ·exact h'
  ·rw [List.getElem?_eq_none h'] at hc; cases hc
 have hcell : (c.toList.take cs.length)[j]? = some u := by
  rw [← cell_take b1 hjl]
  exact hu
 let E0 : Env := { E with η := fun i => if i = 0 then u else E.η i }
 have hE : SameEta E E0 := ⟨rfl, rfl, rfl⟩
 have h00 : HeapRep (fun b => Z b ∨ b ∈ (Y0 ++ [n]) ++ Y') E0 noHeap 0 :=
  ⟨fun id cs hh => by simp [noHeap] at hh, fun id id' n h1 => by simp [noHeap] at h1, h0.V, fun id n h1 => by simp [noHeap] at h1, h0.fresh, fun i => by
   show scalar (if i = 0 then u else E.η i) = true
   split
   ·exact hsc
   ·exact h0.one i, h0.old, h0.zold, h0.tab⟩
 have hargs0 : RepBL E0 (.ref (cs.set j (.hid 0)) :: yr) (.pointer (some ⟨n, 0, none⟩) :: us) ((Y0 ++ [n]) ++ Y') := by
  simp only [RepBL]
  refine ⟨_, us, Y0 ++ [n], Y', rfl, rfl, ?_, RepBL.eta hE yr us Y' n2 h2⟩
  simp only [RepB]
  refine ⟨n, Y0, c, e, fr, rfl, rfl, b1, b2, by simpa using b3, ?_⟩
  rw [List.length_set]
  exact RepBL.hide hE cs j _ _ n1 hc (by rw [hcell]; simp [E0]) b4
 refine (h.2 Z E0 _ _ h00 hargs0 hX hXZ).mono ?_
 rintro e' w' ⟨v, E', Xr, rfl, k2, k3, k4, k5, k6, k7, k8⟩
 let E2 : Env := { E' with η := E.η }
 have hE2 : SameEta E' E2 := ⟨rfl, rfl, rfl⟩
 have er : refVals (.ref (cs.set j (.hid 0)) :: yr) (.pointer (some ⟨n, 0, none⟩) :: us) = refVals (.ref cs :: yr) (.pointer (some ⟨n, 0, none⟩) :: us) := by simp [refVals, isRef]
 rw [er] at k6
 have er2 : refVals (.ref cs :: yr) (.pointer (some ⟨n, 0, none⟩) :: us) = .pointer (some ⟨n, 0, none⟩) :: refVals yr us := by simp [refVals, isRef]
 rw [er2] at k6 ⊢
 simp only [List.cons_append, List.nil_append, RepBL] at k6
 obtain ⟨u1, us1, W, W', q1, rfl, q3, u2, us2, W2, W3, q4, rfl, q5, q6, rfl⟩ := k6
 injection q1 with q1 q1'
 subst q1
 simp only [RepB] at q3
 obtain ⟨m, Y1, c1, e1, fr1, q7, rfl, q8, q9, q10, q11⟩ := q3
 injection q7 with q7
 injection q7 with q7
 injection q7 with q7 _ _
 subst q7
 rw [List.length_set] at q10 q11
 obtain ⟨z1, z2⟩ := RepBL.unhide hE2 os j _ Y1 n3 ho q11
 have hol : j < os.length := by
  rcases Nat.lt_or_ge j os.length with h' | h'
  ·exact h'
  ·rw [List.getElem?_eq_none h'] at ho; cases ho
 refine ⟨v, E2, _, rfl, k2, rfl, k4, k5, ?_, k7, k8, ?_⟩
 ·simp only [List.cons_append, List.nil_append, RepBL]
  refine ⟨_, us1, Y1 ++ [n], W2 ++ [], by rw [q1'], by simp, ?_, u2, [], W2, [], by rw [q4, q6], rfl, RepB.eta hE2 _ _ _ n4 q5, rfl, rfl⟩
  simp only [RepB]
  exact ⟨n, Y1, c1, e1, fr1, rfl, rfl, q8, q9, q10, z1⟩
 ·show w'.cell? ⟨n, j, none⟩ = E.w.cell? ⟨n, j, none⟩
  have hq : E'.w.cell? ⟨n, j, none⟩ = some (E'.η 0) := by rw [cell_take q8 hol]; exact z2
  rw [← k2, hq, k3]
  show some (if (0 : Nat) = 0 then u else E.η 0) = _
  rw [if_pos rfl]
  exact hu.symm
theorem HeapRep.forget {Z : Nat → Prop} {E : Env} {H : Heap} {nx : Nat} (h : HeapRep Z E H nx) {id : Nat} {cs : List AV} (hi : H id = some cs) (j : Nat) : HeapRep Z E (setH H id (some (cs.set j .top))) nx := by
 have hrw : ∀ i, (setH H id (some (cs.set j .top)) i ≠ none) ↔ H i ≠ none := by
  intro i
  by_cases hh : i = id
  ·subst hh; simp [setH_same, hi]
  ·rw [setH_ne _ _ hh]
 have hwr : ∀ b, Wr E.ρ (setH H id (some (cs.set j .top))) b ↔ Wr E.ρ H b := by
  intro b
  constructor
  ·rintro ⟨i, ds, h1, h2⟩
   have := (hrw i).1 (by rw [h1]; simp)
   cases hh : H i with
   | none => exact absurd hh this
   | some es => exact ⟨i, es, hh, h2⟩
  ·rintro ⟨i, ds, h1, h2⟩
   have := (hrw i).2 (by rw [h1]; simp)
   cases hh : setH H id (some (cs.set j .top)) i with
   | none => exact absurd hh this
   | some es => exact ⟨i, es, hh, h2⟩
 refine ⟨fun i ds hh => ?_, fun i i' m h1 h2 h3 h4 => h.inj i i' m ((hrw i).1 h1) ((hrw i').1 h2) h3 h4, fun b => by rw [hwr]; exact h.V b, fun i m h1 h2 => h.apart i m ((hrw i).1 h1) h2, fun i hh => ?_, h.one, h.old, h.zold, h.tab⟩
 ·by_cases hid : i = id
  ·subst hid
   rw [setH_same] at hh
   injection hh with hh
   subst hh
   rcases h.blk i cs hi with ⟨b1, rfl⟩ | ⟨m, b1, c, e, fr, b2, b3, b4, b5⟩
   ·exact .inl ⟨b1, by simp⟩
   ·refine .inr ⟨m, b1, c, e, fr, b2, b3, by simpa using b4, fun q y hy => ?_⟩
    by_cases hq : q = j
    ·subst hq
     have hql : q < cs.length := by
      rcases Nat.lt_or_ge q cs.length with h' | h'
      ·exact h'
      ·rw [List.getElem?_eq_none (by simpa using h')] at hy; cases hy
     rw [List.getElem?_set_self hql] at hy
     injection hy with hy
     subst hy
     exact ⟨c[q]'(by omega), by simp, by simp [RepV]⟩
    ·rw [List.getElem?_set_ne (Ne.symm hq)] at hy
     exact b5 q y hy
  ·rw [setH_ne _ _ hid] at hh
   exact h.blk i ds hh
 ·by_cases hid : i = id
  ·subst hid
   rw [(h.fresh i hh).2] at hi; cases hi
  ·rw [setH_ne _ _ hid]; exact h.fresh i hh
theorem HeapRep.recall {Z : Nat → Prop} {E : Env} {H : Heap} {nx : Nat} (h : HeapRep Z E H nx) {id n : Nat} {cs : List AV} (hi : H id = some cs) (hn : E.ρ id = some n) {j : Nat} {x : AV} {u : Value} (hu : E.w.cell? ⟨n, j, none⟩ = some u) (hr : RepV E x u) :
  HeapRep Z E (setH H id (some (cs.set j x))) nx := by
 have hrw : ∀ i, (setH H id (some (cs.set j x)) i ≠ none) ↔ H i ≠ none := by
  intro i
  by_cases hh : i = id
  ·subst hh; simp [setH_same, hi]
  ·rw [setH_ne _ _ hh]
 have hwr : ∀ b, Wr E.ρ (setH H id (some (cs.set j x))) b ↔ Wr E.ρ H b := by
  intro b
  constructor
  ·rintro ⟨i, ds, h1, h2⟩
   have := (hrw i).1 (by rw [h1]; simp)
   cases hh : H i with
   | none => exact absurd hh this
   | some es => exact ⟨i, es, hh, h2⟩
  ·rintro ⟨i, ds, h1, h2⟩
   have := (hrw i).2 (by rw [h1]; simp)
   cases hh : setH H id (some (cs.set j x)) i with
   | none => exact absurd hh this
   | some es => exact ⟨i, es, hh, h2⟩
 refine ⟨fun i ds hh => ?_, fun i i' m h1 h2 h3 h4 => h.inj i i' m ((hrw i).1 h1) ((hrw i').1 h2) h3 h4, fun b => by rw [hwr]; exact h.V b, fun i m h1 h2 => h.apart i m ((hrw i).1 h1) h2, fun i hh => ?_, h.one, h.old, h.zold, h.tab⟩
 ·by_cases hid : i = id
  ·subst hid
   rw [setH_same] at hh
   injection hh with hh
   subst hh
   rcases h.blk i cs hi with ⟨b1, rfl⟩ | ⟨m, b1, c, e, fr, b2, b3, b4, b5⟩
   ·exact .inl ⟨b1, by simp⟩
   ·obtain rfl : n = m := by rw [hn] at b1; injection b1
    refine .inr ⟨n, b1, c, e, fr, b2, b3, by simpa using b4, fun q y hy => ?_⟩
    by_cases hq : q = j
    ·subst hq
     have hql : q < cs.length := by
      rcases Nat.lt_or_ge q cs.length with h' | h'
      ·exact h'
      ·rw [List.getElem?_eq_none (by simpa using h')] at hy; cases hy
     rw [List.getElem?_set_self hql] at hy
     injection hy with hy
     subst hy
     refine ⟨u, ?_, hr⟩
     simpa [World.cell?, b2] using hu
    ·rw [List.getElem?_set_ne (Ne.symm hq)] at hy
     exact b5 q y hy
  ·rw [setH_ne _ _ hid] at hh
   exact h.blk i ds hh
 ·by_cases hid : i = id
  ·subst hid
   rw [(h.fresh i hh).2] at hi; cases hi
  ·rw [setH_ne _ _ hid]; exact h.fresh i hh
def scalV : AV → Bool
 | .sl _ _ _ _ _ | .nil | .ro _ _ | .int _ _ | .bool _ | .str _ => true
 | _ => false
theorem scalar_of {E : Env} {x : AV} {u : Value} (h : scalV x = true) (hr : RepV E x u) : scalar u = true := by
 cases x <;> simp [scalV] at h
 ·simp only [RepV] at hr; subst hr; rfl
 ·simp only [RepV] at hr; subst hr; rfl
 ·simp only [RepV] at hr; obtain ⟨ba, rfl, _⟩ := hr; rfl
 ·simp only [RepV] at hr; subst hr; rfl
 ·simp only [RepV] at hr; obtain ⟨a, cap, rfl, _⟩ := hr; rfl
 ·simp only [RepV] at hr; obtain ⟨a, cap, rfl, _⟩ := hr; rfl
def callJ (P : Program) (M : List Mode) (j : Nat) (f : FuncId) (H : Heap) (nx : Nat) (xs : List AV) (K : AV → Heap → Nat → Prop) : Prop :=
 match xs with
 | .ptr id 0 :: xr => match H id with
  | some zs => match zs[j]? with
   | some x => scalV x = true ∧ passAll (setH H id (some (zs.set j .top))) M (.ptr id 0 :: xr) fun ys ids bs => match ys with
    | .ref cs :: yr => (bs = [] ∧ nodupB ids = true) ∧ ∃ r os, ACall P f (.ref (cs.set j (.hid 0)) :: yr) r [.ref (os.set j (.hid 0))] ∧
      ((noHidL cs && noHidL yr && noHidL os && noHidV r) = true ∧ cs[j]? = some .top ∧ os[j]? = some .top) ∧
      match takeRefs (remH (setH H id (some (zs.set j .top))) ids, nx) (refIds ys (.ptr id 0 :: xr)) [.ref os] with
      | some s => match matV r s with
       | (x', (H', nx')) => match H' id with
        | some es => K x' (setH H' id (some (es.set j x))) nx'
        | none => False
      | none => False
    | _ => False
   | none => False
  | none => False
 | _ => False
theorem disjB_nil : ∀ l : List Nat, disjB l [] = true
 | [] => rfl
 | a :: l => by simp [disjB, elemB, disjB_nil l]
theorem callJ_sound {P : Program} {Z : Nat → Prop} {E : Env} {H : Heap} {nx : Nat} (hr : HeapRep Z E H nx) {M : List Mode} {j : Nat} {f : FuncId} {xs : List AV} {vals : List Value} {K : AV → Heap → Nat → Prop}
  (hx : RepL E xs vals) (h : callJ P M j f H nx xs K) :
  Calls P f vals.toArray E.w fun e w' => ∃ x H' nx' E' v, e = .returned v ∧ K x H' nx' ∧ E'.w = w' ∧ After Z E H x H' nx' v E' := by
 unfold callJ at h
 split at h
 case h_2 => exact h.elim
 rename_i id xr
 split at h
 case h_2 => exact h.elim
 rename_i zs hzs
 split at h
 case h_2 => exact h.elim
 rename_i x hxj
 obtain ⟨hsc, h⟩ := h
 have hr1 := hr.forget hzs j
 obtain ⟨ys, ids, bs, hk, hp⟩ := passAll_ok M _ _ h
 split at hk
 case h_2 => exact hk.elim
 rename_i cs yr
 obtain ⟨⟨rfl, hnd⟩, r, os, hcall, ⟨hn, hc, ho⟩, hk⟩ := hk
 have hcJ := hcall.hidJ hn hc ho
 have hx' := hx
 simp only [RepL] at hx'
 obtain ⟨v0, us, rfl, hv0, hus⟩ := hx'
 simp only [RepV] at hv0
 obtain ⟨n, hn0, rfl⟩ := hv0
 obtain ⟨u, hu, hru⟩ := blk_cells hr hzs hn0 j x hxj
 have hI : ∃ u, cell0 j (.pointer (some ⟨n, 0, none⟩) :: us) E.w = some u ∧ scalar u = true := ⟨u, hu, scalar_of hsc hru⟩
 refine (callJ_core (K := fun x' H' nx' => match H' id with
   | some es => K x' (setH H' id (some (es.set j x))) nx'
   | none => False) hr1 hx (by rw [hnd, disjB_nil]; rfl) hcJ hI rfl hk hp).mono ?_
 rintro e w' ⟨x', H', nx', E', v, rfl, k2, rfl, k4, k5⟩
 split at k2
 case h_2 => exact k2.elim
 rename_i es hes
 have hcell : E'.w.cell? ⟨n, j, none⟩ = some u := by
  have : cell0 j (.pointer (some ⟨n, 0, none⟩) :: us) E'.w = cell0 j (.pointer (some ⟨n, 0, none⟩) :: us) E.w := k5
  simp only [cell0] at this
  rw [this]; exact hu
 refine ⟨x', _, nx', E', v, rfl, k2, rfl, ⟨k4.later, ?_, k4.rep, k4.heap.recall hes (k4.later.ρ id n hn0) hcell (RepV.later k4.later x u hru)⟩⟩
 refine k4.evo.mono ?_
 rintro b ⟨i, ds, h1, h2⟩
 by_cases hi : i = id
 ·subst hi; exact ⟨i, zs, hzs, h2⟩
 ·rw [setH_ne _ _ hi] at h1; exact ⟨i, ds, h1, h2⟩
def hdPos : Nat → List Mode → Option Nat
 | _, [] => none
 | k, .hd :: _ => some k
 | k, _ :: ms => hdPos (k + 1) ms
def callQ (P : Program) (M : List Mode) (f : FuncId) (H : Heap) (nx : Nat) (xs : List AV) (K : AV → Heap → Nat → Prop) : Prop :=
 match M with
 | .rf ms :: _ => match hdPos 0 ms with
  | some j => callJ P M j f H nx xs K
  | none => callP P M f H nx xs K
 | _ => callP P M f H nx xs K
theorem callQ_sound {P : Program} {Z : Nat → Prop} {E : Env} {H : Heap} {nx : Nat} (hr : HeapRep Z E H nx) {M : List Mode} {f : FuncId} {xs : List AV} {vals : List Value} {K : AV → Heap → Nat → Prop}
  (hx : RepL E xs vals) (h : callQ P M f H nx xs K) :
  Calls P f vals.toArray E.w fun e w' => ∃ x H' nx' E' v, e = .returned v ∧ K x H' nx' ∧ E'.w = w' ∧ After Z E H x H' nx' v E' := by
 unfold callQ at h
 split at h
 ·split at h
  ·exact callJ_sound hr hx h
  ·exact callP_sound hr hx h
 ·exact callP_sound hr hx h
end
section

def bytesP (H : Heap) (X : AV) (K : List Int → Prop) : Prop :=
 match X with
 | .nil => K []
 | .ro len cs => ∃ xs : List Int, (cs = xs.map (AV.int .u8) ∧ xs.length = len ∧ ∀ x ∈ xs, 0 ≤ x ∧ x < 256) ∧ K xs
 | .sl id off len es full => match H id with
  | some cs => ∃ xs : List Int, ((cs.drop off).take len = xs.map (AV.int .u8) ∧ xs.length = len ∧ ∀ x ∈ xs, 0 ≤ x ∧ x < 256) ∧ K xs
  | none => False
 | _ => False
theorem load_bytes {P : Program} {E : Env} {b off : Nat} {xs : List Int} (h : RepM E (xs.map (AV.int .u8)) b off) :
  (Extern.Bytes.loadBytes ⟨b, off, none⟩ xs.length .empty).run P E.w = .ok ⟨(Go.Lib.bytesOf xs).toArray⟩ E.w := by
 have := Go.Lib.run_loadBytesX (P := P) E.w xs ⟨b, off, none⟩ .empty (fun j x hj => by
  have e : (⟨b, off, none⟩ : Addr).add j = ⟨b, off + j, none⟩ := by unfold Addr.add; split <;> simp_all
  obtain ⟨u, h1, h2⟩ := repM_get _ _ _ h j (.int .u8 x) (by simp [hj])
  simp only [RepV] at h2
  rw [e, h1, h2])
 simpa using this
theorem bytesP_sound {P : Program} {Z : Nat → Prop} {E : Env} {H : Heap} {nx : Nat} (hr : HeapRep Z E H nx) {X : AV} {v : Value} {K : List Int → Prop} (hx : RepV E X v) (h : bytesP H X K) :
  ∃ xs, K xs ∧ (∀ x ∈ xs, 0 ≤ x ∧ x < 256) ∧ (Extern.Bytes.bytesOf v).run P E.w = .ok ⟨(Go.Lib.bytesOf xs).toArray⟩ E.w := by
 unfold bytesP at h
 split at h
 ·simp only [RepV] at hx
  subst hx
  exact ⟨[], h, by simp, by simp [Extern.Bytes.bytesOf, Go.Lib.bytesOf]; rfl⟩
 ·obtain ⟨xs, ⟨rfl, rfl, hb⟩, hk⟩ := h
  simp only [RepV] at hx
  obtain ⟨a, cap, rfl, hl, hc⟩ := hx
  refine ⟨xs, hk, hb, ?_⟩
  rcases hc with hc | ⟨b, off, rfl, _, hm⟩
  ·have : xs = [] := by simpa using hc
   subst this
   cases a <;> simp [Extern.Bytes.bytesOf, Extern.Bytes.loadBytes, Go.Lib.bytesOf] <;> rfl
  ·simp only [Extern.Bytes.bytesOf]
   exact load_bytes hm
 ·rename_i id off len es full
  split at h
  case h_2 => exact h.elim
  rename_i cs hcs
  obtain ⟨xs, ⟨he, rfl, hb⟩, hk⟩ := h
  simp only [RepV] at hx
  obtain ⟨a, cap, rfl, hl, _, hc⟩ := hx
  refine ⟨xs, hk, hb, ?_⟩
  rcases hc with rfl | ⟨n, c, e, fr, hn, rfl, hh, hs⟩
  ·have : xs = [] := List.length_eq_zero_iff.1 (by omega)
   subst this
   cases a <;> simp [Extern.Bytes.bytesOf, Extern.Bytes.loadBytes, Go.Lib.bytesOf] <;> rfl
  ·simp only [Extern.Bytes.bytesOf]
   refine load_bytes ?_
   rw [← he]
   refine repM_take (repM_of_get _ _ _ fun j x hx => ?_) _
   rw [List.getElem?_drop] at hx
   exact blk_cells hr hcs hn (off + j) x hx
 ·exact h.elim
def cmpI (a b : List Int) : Int := if bytesLt a b then -1 else if a = b then 0 else 1
theorem u8_of {x : Int} (h : 0 ≤ x ∧ x < 256) : (x.toNat.toUInt8).toNat = x.toNat := by
 have : x.toNat < 256 := by omega
 simp [Nat.toUInt8, UInt8.toNat_ofNat']
 omega
theorem cmpI_eq : ∀ (xs ys : List Int), (∀ x ∈ xs, 0 ≤ x ∧ x < 256) → (∀ x ∈ ys, 0 ≤ x ∧ x < 256) → Go.Lib.compareBytes (Go.Lib.bytesOf xs) (Go.Lib.bytesOf ys) = cmpI xs ys
 | [], [], _, _ => by simp [Go.Lib.bytesOf, Go.Lib.compareBytes, cmpI, bytesLt]
 | [], y :: ys, _, _ => by simp [Go.Lib.bytesOf, Go.Lib.compareBytes, cmpI, bytesLt]
 | x :: xs, [], _, _ => by simp [Go.Lib.bytesOf, Go.Lib.compareBytes, cmpI, bytesLt]
 | x :: xs, y :: ys, hx, hy => by
  have ih := cmpI_eq xs ys (fun z hz => hx z (by simp [hz])) (fun z hz => hy z (by simp [hz]))
  have h1 := hx x (by simp)
  have h2 := hy y (by simp)
  simp only [Go.Lib.bytesOf, List.map_cons, Go.Lib.compareBytes] at ih ⊢
  rw [ih]
  have e1 : (x.toNat.toUInt8 < y.toNat.toUInt8) ↔ x < y := by
   rw [UInt8.lt_iff_toNat_lt, u8_of h1, u8_of h2]; omega
  have e2 : (y.toNat.toUInt8 < x.toNat.toUInt8) ↔ y < x := by
   rw [UInt8.lt_iff_toNat_lt, u8_of h1, u8_of h2]; omega
  simp only [e1, e2]
  rcases Int.lt_trichotomy x y with h | h | h
  ·simp [cmpI, bytesLt, h]
  ·subst h
   simp [cmpI, bytesLt]
  ·have h3 : ¬ x < y := by omega
   have h4 : ¬ x = y := by omega
   simp [cmpI, bytesLt, h, h3, h4]
def ExtCmp (P : Program) (g : FuncId) : Prop :=
 ∃ fn, P.funcs[g]? = some fn ∧ (fn.name == "runtime.NumGoroutine") = false ∧ fn.body.isNone = true ∧ Extern.findNext fn = none ∧ Extern.find fn = some Extern.BytealgCompare.compare
def cmpP (P : Program) (g : FuncId) (H : Heap) (xs : List AV) (K : AV → Prop) : Prop :=
 match xs with
 | [x, y] => ExtCmp P g ∧ bytesP H x fun az => bytesP H y fun bs => K (.int .i64 (cmpI az bs))
 | _ => False
theorem cmpP_sound {P : Program} {Z : Nat → Prop} {E : Env} {H : Heap} {nx : Nat} (hr : HeapRep Z E H nx) {g : FuncId} {xs : List AV} {vals : List Value} {K : AV → Prop} (hx : RepL E xs vals) (h : cmpP P g H xs K) :
  ∃ x v, K x ∧ RepV E x v ∧ (callFunc g vals.toArray).run P E.w = .ok (.value v) E.w := by
 unfold cmpP at h
 split at h
 case h_2 => exact h.elim
 rename_i x y
 obtain ⟨⟨fn, f1, f2, f3, f4, f5⟩, h⟩ := h
 simp only [RepL] at hx
 obtain ⟨u, us, rfl, hu, v, vs, rfl, hv, rfl⟩ := hx
 obtain ⟨az, h, ha, ra⟩ := bytesP_sound (P := P) hr hu h
 obtain ⟨bs, h, hb, rb⟩ := bytesP_sound (P := P) hr hv h
 refine ⟨_, .int .i64 (cmpI az bs), h, by simp [RepV], ?_⟩
 rw [run_callFunc_extern f1 f2 f3 f4 f5]
 have : (Extern.BytealgCompare.compare [u, v].toArray).run P E.w = .ok (.int .i64 (cmpI az bs)) E.w := by
  change Sem.run P (do pure (goInt (Extern.BytealgCompare.cmp (← Extern.Bytes.bytesOf u) (← Extern.Bytes.bytesOf v)))) E.w = _
  simp only [Sem.run_bind, ra, rb, Result.andThen_ok, Sem.run_pure]
  rw [Go.Lib.cmp_eq]
  simp only [List.toList_toArray]
  rw [cmpI_eq az bs ha hb]
  rfl
 rw [this]
 rfl
theorem callP_enters {P : Program} {M : List Mode} {f : FuncId} {H : Heap} {nx : Nat} {xs : List AV} {K : AV → Heap → Nat → Prop} (h : callP P M f H nx xs K) : Enters P f := by
 unfold callP at h
 obtain ⟨ys, ids, bs, ⟨_, r, outs, hc, _⟩, _⟩ := passAll_ok _ _ _ h
 exact hc.1
theorem callQ_enters {P : Program} {M : List Mode} {f : FuncId} {H : Heap} {nx : Nat} {xs : List AV} {K : AV → Heap → Nat → Prop} (h : callQ P M f H nx xs K) : Enters P f := by
 unfold callQ at h
 split at h
 ·split at h
  ·unfold callJ at h
   split at h
   case h_2 => exact h.elim
   split at h
   case h_2 => exact h.elim
   split at h
   case h_2 => exact h.elim
   obtain ⟨_, h⟩ := h
   obtain ⟨ys, ids, bs, hk, _⟩ := passAll_ok _ _ _ h
   split at hk
   case h_2 => exact hk.elim
   obtain ⟨_, r, os, hc, _⟩ := hk
   exact hc.1
  ·exact callP_enters h
 ·exact callP_enters h
def isCmp : List Mode → Bool
 | .cmp :: _ => true
 | _ => false
end
section

def isSlV : AV → Bool
 | .sl _ _ _ _ _ => true
 | _ => false
def strishP (T : Types) (H : Heap) (nx : Nat) (t : TypeId) (X : AV) (K : AV → Heap → Nat → Prop) : Prop :=
 match X with
 | .sl id off len esz full => match T t, H id with
  | some ⟨.slice e, _, _, _, _⟩, some cs => match T e with
   | some ⟨.int k, _, _, _, _⟩ => cond (kEq k .u8) (0 < len ∧ K (.ro len ((cs.drop off).take len)) (setH H id none) nx) False
   | _ => False
  | _, _ => False
 | _ => False
theorem cell_frozen (w : World) (a : Addr) (k : Nat) (b : Addr) : (w.freeze a k).cell? b = w.cell? b := by
 unfold World.freeze
 split
 ·rfl
 ·simp only [World.cell?, Array.getElem?_modify]
  by_cases h : a.block = b.block
  ·rw [if_pos h]
   cases hh : w.heap[b.block]? with
   | none => rfl
   | some o => cases o <;> rfl
  ·rw [if_neg h]
theorem strishP_sound {P : Program} {T : Types} (hT : TOK P T) {Z : Nat → Prop} {E : Env} {H : Heap} {nx : Nat} (h0 : HeapRep Z E H nx) {t : TypeId} {X : AV} {v : Value} {K : AV → Heap → Nat → Prop}
  (hx : RepV E X v) (h : strishP T H nx t X K) :
  ∃ x H' nx' E' r, K x H' nx' ∧ (convert t t v).run P E.w = .ok r E'.w ∧ After Z E H x H' nx' r E' := by
 unfold strishP at h
 split at h
 case h_2 => exact h.elim
 rename_i id off len esz full
 split at h
 case h_2 => exact h.elim
 rename_i e _ _ _ _ cs ht hcs
 split at h
 case h_2 => exact h.elim
 rename_i k _ _ _ _ he
 cases hkk : kEq k .u8 with
 | false => rw [hkk] at h; exact h.elim
 | true =>
 rw [hkk] at h
 obtain ⟨hlen, hK⟩ := h
 obtain rfl := kEq_eq hkk
 obtain ⟨d, hd, ho, _⟩ := (hT t _ ht).und
 have ho' : d = .slice e := ho
 subst ho'
 obtain ⟨de, hde, heo, _⟩ := (hT e _ he).und
 have he' : de = .int .u8 := heo
 subst he'
 simp only [RepV] at hx
 obtain ⟨a, cap, rfl, hl, _, hc⟩ := hx
 rcases hc with rfl | ⟨n, c, et, fr, hn, rfl, hh, hs⟩
 ·omega
 let w' : World := E.w.freeze ⟨n, c.size, none⟩ 1
 have hother : ∀ b, b ≠ n → w'.heap[b]? = E.w.heap[b]? := by
  intro b hb
  simp only [w', World.freeze]
  rw [if_neg (by decide)]
  simp only [Array.getElem?_modify]
  rw [if_neg (Ne.symm hb)]
 have hsize : w'.heap.size = E.w.heap.size := by
  simp only [w', World.freeze]
  rw [if_neg (by decide)]
  simp
 have hmine : ∃ fr', w'.heap[n]? = some (.cells c et fr') := by
  simp only [w', World.freeze]
  rw [if_neg (by decide)]
  simp only [Array.getElem?_modify, if_pos, hh, Option.map_some]
  exact ⟨_, rfl⟩
 have hkept : ∀ (b : Nat) (c0 : Array Value) (e0 : TypeId) (fr0 : Nat × Nat), E.w.heap[b]? = some (.cells c0 e0 fr0) → ∃ (c' : Array Value) (fr' : Nat × Nat), w'.heap[b]? = some (.cells c' e0 fr') ∧ c'.size = c0.size := by
  intro b c0 e0 fr0 hb
  by_cases hbn : b = n
  ·subst hbn
   rw [hh] at hb
   injection hb with hb
   injection hb with hb1 hb2 hb3
   subst hb1; subst hb2
   obtain ⟨fr', h'⟩ := hmine
   exact ⟨c, fr', h', rfl⟩
  ·exact ⟨c0, fr0, by rw [hother b hbn]; exact hb, rfl⟩
 have hwn : Wr E.ρ H n := ⟨id, cs, hcs, hn⟩
 have hne : ∀ i, setH H id none i ≠ none → H i ≠ none ∧ i ≠ id := fun i hi => by
  by_cases he : i = id
  ·subst he; rw [setH_same] at hi; exact absurd rfl hi
  ·rw [setH_ne _ _ he] at hi; exact ⟨hi, he⟩
 have hwr : ∀ b, Wr E.ρ (setH H id none) b → Wr E.ρ H b ∧ b ≠ n := by
  rintro b ⟨i, es, h1, h2⟩
  obtain ⟨k1, k2⟩ := hne i (by rw [h1]; simp)
  rw [setH_ne _ _ k2] at h1
  refine ⟨⟨i, es, h1, h2⟩, fun hb => k2 (h0.inj i id n k1 (by rw [hcs]; simp) (by rw [← hb]; exact h2) hn)⟩
 let E' : Env := { E with w := w', V := fun b => Z b ∨ Wr E.ρ (setH H id none) b }
 have hev : Evo (Wr E.ρ H) E.w E'.w := by
  refine ⟨?_, ?_, ?_, by show E.w.heap.size ≤ w'.heap.size; omega, fun b hb hnb => hother b (fun e => hnb (e ▸ hwn)), hkept⟩
  ·show w'.os = _; simp only [w', World.freeze]; rw [if_neg (by decide)]
  ·show w'.tape = _; simp only [w', World.freeze]; rw [if_neg (by decide)]
  ·show w'.output = _; simp only [w', World.freeze]; rw [if_neg (by decide)]
 have L : Later E E' := Later.of_evo hev rfl (fun _ _ h => h) (wr_V h0) (fun b hb hv => (h0.V b).2 (hv.imp (fun x => x) (fun x => (hwr b x).1)))
 have hnV : ¬ E'.V n := by
  rintro (hz | hw)
  ·exact h0.apart id n (by rw [hcs]; simp) hn hz
  ·exact (hwr n hw).2 rfl
 have hr' : HeapRep Z E' (setH H id none) nx := by
  refine ⟨fun i ds hi => ?_, fun i i' m h1 h2 h3 h4 => h0.inj i i' m (hne i h1).1 (hne i' h2).1 h3 h4, fun b => Iff.rfl, fun i m h1 h2 => h0.apart i m (hne i h1).1 h2, fun i hi => ?_, h0.one,
   fun i m hm => by show m < w'.heap.size; rw [hsize]; exact h0.old i m hm, fun b hb => by show b < w'.heap.size; rw [hsize]; exact h0.zold b hb, h0.tab.later L⟩
  ·obtain ⟨k1, k2⟩ := hne i (by rw [hi]; simp)
   rw [setH_ne _ _ k2] at hi
   rcases h0.blk i ds hi with q | ⟨m, hm, hb⟩
   ·exact .inl q
   ·refine .inr ⟨m, hm, h0.blk_later L hm hb (hother m fun e => k2 (h0.inj i id n k1 (by rw [hcs]; simp) (by rw [← e]; exact hm) hn))⟩
  ·refine ⟨(h0.fresh i hi).1, ?_⟩
   by_cases he : i = id
   ·subst he; exact setH_same _ _ _
   ·rw [setH_ne _ _ he]; exact (h0.fresh i hi).2
 refine ⟨_, _, _, E', .slice (some ⟨n, off, none⟩) len cap, hK, ?_, ⟨L, hev, ?_, hr'⟩⟩
 ·have hsh : (shape n).run P E.w = .ok (some (et, c.size)) E.w := by
   simp [shape, Sem.run, World.shape?, hh]
  simp only [convert, Sem.run_bind, run_underlying hd, run_underlying hde, Result.andThen_ok, beq_self_eq_true, markStringish, hsh]
  rfl
 ·simp only [RepV]
  refine ⟨_, cap, rfl, hl, .inr ⟨n, off, rfl, hnV, ?_⟩⟩
  refine repM_of_get _ _ _ fun j x hj => ?_
  have hjl : j < len := by
   rcases Nat.lt_or_ge j len with h' | h'
   ·exact h'
   ·rw [List.getElem?_eq_none (by simp; omega)] at hj; cases hj
  rw [List.getElem?_take_of_lt hjl, List.getElem?_drop] at hj
  obtain ⟨u, h1, h2⟩ := blk_cells h0 hcs hn (off + j) x hj
  exact ⟨u, by rw [← h1]; exact cell_frozen _ _ _ _, RepV.later L x u h2⟩
end
section

def evalPs (env : Nat → AV) : List (Nat × Operand) → List (Nat × AV)
 | [] => []
 | (i, x) :: r => (i, evalO env x) :: evalPs env r
def evalL (env : Nat → AV) : List Operand → List AV
 | [] => []
 | x :: r => evalO env x :: evalL env r
def evalOpt (env : Nat → AV) : Option Operand → Option AV
 | none => none
 | some x => some (evalO env x)
def minP (xs : List AV) (K : AV → Prop) : Prop :=
 match xs with
 | [.int k a, .int _ b] => K (.int k (if b < a then b else a))
 | _ => False
def apB (T : Types) (H : Heap) (nx : Nat) (t tx : TypeId) (x y : AV) (K : AV → Heap → Nat → Prop) : Prop :=
 match x, y with
 | .nil, .int .i64 n => appendZ T H nx t tx n K
 | _, _ => appendP T H nx t tx x y K
def capP (T : Types) (t : TypeId) (x : AV) (K : AV → Prop) : Prop :=
 match T t, x with
 | some ⟨.slice _, _, _, _, _⟩, .nil => K (.int .i64 0)
 | _, _ => False
theorem apB_sound {P : Program} {T : Types} (hT : TOK P T) {Z : Nat → Prop} {E : Env} {H : Heap} {nx : Nat} (hr : HeapRep Z E H nx) {t tx ty : TypeId} {B X : AV} {vb vx : Value} {K : AV → Heap → Nat → Prop}
  (hb : RepV E B vb) (hx : RepV E X vx) (h : apB T H nx t tx B X K) :
  ∃ x H' nx' E' r, K x H' nx' ∧ (Builtin.append_ #[t, tx] ty #[vb, vx]).run P E.w = .ok r E'.w ∧ After Z E H x H' nx' r E' := by
 unfold apB at h
 split at h
 ·simp only [RepV] at hb hx
  subst hb; subst hx
  exact appendZ_sound hT hr h
 ·exact appendP_sound hT hr hb hx h
theorem capP_sound {P : Program} {T : Types} (hT : TOK P T) {E : Env} {t ty : TypeId} {X : AV} {v : Value} {K : AV → Prop} (hx : RepV E X v) (h : capP T t X K) :
  ∃ y r, K y ∧ (∀ w, (Builtin.cap_ #[t] ty #[v]).run P w = .ok r w) ∧ RepV E y r := by
 unfold capP at h
 split at h
 ·rename_i e a b z sg ht
  obtain ⟨d, hd, hdo, _⟩ := (hT t _ ht).und
  have ho' : d = .slice e := hdo
  subst ho'
  simp only [RepV] at hx
  subst hx
  exact ⟨_, _, h, fun w => cap_nil (ts := #[]) w hd, rep_int E _ _⟩
 ·exact h.elim
def builtinP (T : Types) (H : Heap) (nx : Nat) (b : Builtin) (ts : List TypeId) (xs : List AV) (K : AV → Heap → Nat → Prop) : Prop :=
 match b, ts, xs with
 | .len, [t], [x] => lenP T t x fun v => K v H nx
 | .append, [t, tx], [x, y] => apB T H nx t tx x y K
 | .cap, [t], [x] => capP T t x fun v => K v H nx
 | .copy, [t, tx], [x, y] => copyP T H t x y fun v H' => K v H' nx
 | .min, _, xs => minP xs fun v => K v H nx
 | _, _, _ => False
def eqKind (op : BinOp) (x : AV) : Bool :=
 match op with
 | .eql | .neq => match x with
  | .bool _ | .agg _ | .ptr _ _ | .rop _ | .nil | .ro _ _ | .sl _ _ _ _ _ => true
  | _ => false
 | _ => false
def opP (P : Program) (T : Types) (M : FuncId → List Mode) (env : Nat → AV) (H : Heap) (nx : Nat) (o : Op) (K : AV → Heap → Nat → Prop) : Prop :=
 match o with
 | .move x => force (evalO env x) fun v => K v H nx
 | .assign x => force (evalO env x) fun v => K v H nx
 | .pick c a b => match evalO env c with
  | .bool t => ifB t (force (evalO env a) fun v => K v H nx) (force (evalO env b) fun v => K v H nx)
  | _ => False
 | .alloc e => allocP T H nx e K
 | .box e x => boxP H nx (evalO env x) K
 | .build t ps => buildP T t (evalPs env ps.toList) fun v => K v H nx
 | .buildSlice t n ps => buildSliceP T H nx t n (evalPs env ps.toList) K
 | .load t a => loadP T H t (evalO env a) fun v => force v fun v => K v H nx
 | .store t a x => force (evalO env x) fun X => storeP T H t (evalO env a) X fun H' => K .top H' nx
 | .nilCheck x => match evalO env x with
  | .ptr id off => K (.ptr id off) H nx
  | .rop cs => K (.rop cs) H nx
  | _ => False
 | .binOp op t x y _ => match eqKind op (evalO env x) with
  | false => binQ op (evalO env x) (evalO env y) fun v => K v H nx
  | true => match op with
   | .eql => eqP T t (evalO env x) (evalO env y) (fun v => K v H nx) .bool
   | .neq => eqP T t (evalO env x) (evalO env y) (fun v => K v H nx) fun b => .bool (!b)
   | _ => False
 | .unOp op _ x => unP op (evalO env x) fun v => K v H nx
 | .convert src dst x => cond (Nat.beq src dst && isSlV (evalO env x)) (strishP T H nx src (evalO env x) K) (convP T H nx src dst (evalO env x) K)
 | .sliceToArrayPointer t x => arrayAtP T t (evalO env x) fun v => K v H nx
 | .makeSlice t l c => makeSliceP T H nx t (evalO env l) (evalO env c) K
 | .slice t x lo hi mx => match mx with
  | none => sliceP T H t (evalO env x) (evalOpt env lo) (evalOpt env hi) fun v => K v H nx
  | some m => slice3P T t (evalO env x) (evalOpt env lo) (evalOpt env hi) (evalO env m) fun v => K v H nx
 | .fieldAddr t x f => fieldAddrP T t (evalO env x) f fun v => K v H nx
 | .field t x f => fieldP T t (evalO env x) f fun v => K v H nx
 | .indexAddr t x i => indexAddrP T t (evalO env x) (evalO env i) fun v => K v H nx
 | .index t x i => indexP T t (evalO env x) (evalO env i) fun v => K v H nx
 | .extract x i => extractP (evalO env x) i fun v => force v fun v => K v H nx
 | .makeFunc f first caps => match first.toList with
  | [] => K (.fn f (evalL env caps.toList)) H nx
  | _ => False
 | .call c => match c.callee with
  | .builtin b => builtinP T H nx b c.argTypes.toList (evalL env c.args.toList) K
  | .value f => match evalO env f with
   | .fn (.func g) caps => cond (isCmp (M g)) (cmpP P g H (evalL env c.args.toList ++ caps) fun v => K v H nx) (callQ P (M g) g H nx (evalL env c.args.toList ++ caps) K)
   | _ => False
  | _ => False
 | _ => False
theorem rep_evalL {Z : Nat → Prop} {E : Env} {st : St} {a : Act} (S : Sim Z E st a) : ∀ xs : List Operand, RepL E (evalL st.env xs) (xs.map a.eval)
 | [] => by simp [evalL, RepL]
 | x :: xs => by simp only [evalL, List.map_cons, RepL]; exact ⟨_, _, rfl, rep_evalO S x, rep_evalL S xs⟩
theorem rep_evalPs {Z : Nat → Prop} {E : Env} {st : St} {a : Act} (S : Sim Z E st a) : ∀ ps : List (Nat × Operand), RepPs E (evalPs st.env ps) (ps.map fun p => (p.1, a.eval p.2))
 | [] => by simp [evalPs, RepPs]
 | (i, x) :: ps => by simp only [evalPs, List.map_cons, RepPs]; exact ⟨_, _, rfl, rep_evalO S x, rep_evalPs S ps⟩
theorem rep_evalOpt {Z : Nat → Prop} {E : Env} {st : St} {a : Act} (S : Sim Z E st a) (x : Option Operand) : RepO E (evalOpt st.env x) (x.map a.eval) := by
 cases x with
 | none => simp [evalOpt, RepO]
 | some x => simp only [evalOpt, Option.map_some, RepO]; exact ⟨_, rfl, rep_evalO S x⟩
def OpOk (P : Program) (Z : Nat → Prop) (E : Env) (st : St) (a : Act) (o : Oper) (K : AV → Heap → Nat → Prop) : Prop :=
 ∀ (next : Act → World → Prop) (Q : Exit → Act → World → Prop),
  (∀ x H' nx' E' v, K x H' nx' → After Z E st.heap x H' nx' v E' → next (a.put o.dst v) E'.w) → o.wp P a E.w next Q
theorem ok_value {P : Program} {Z : Nat → Prop} {E : Env} {st : St} {a : Act} {o : Oper} {K : AV → Heap → Nat → Prop} {x : AV} {H' : Heap} {nx' : Nat} {E' : Env} {v : Value}
  (hrun : (execOp a.eval o).run P E.w = .ok (.value v) E'.w) (hk : K x H' nx') (ha : After Z E st.heap x H' nx' v E') : OpOk P Z E st a o K := by
 intro next Q h
 unfold Oper.wp
 rw [hrun]
 exact h x H' nx' E' v hk ha
theorem ok_pure {P : Program} {Z : Nat → Prop} {E : Env} {st : St} {a : Act} {o : Oper} {K : AV → Heap → Nat → Prop} {x : AV} {v : Value} (S : Sim Z E st a)
  (hrun : (execOp a.eval o).run P E.w = .ok (.value v) E.w) (hk : K x st.heap st.nx) (hr : RepV E x v) : OpOk P Z E st a o K :=
 ok_value hrun hk (After.pure S.heap hr)
theorem vrun {P : Program} {s : Sem Value} {w w' : World} {v : Value} (h : s.run P w = .ok v w') : (do Pure.pure (Next.value (← s)) : Sem Next).run P w = .ok (.value v) w' := by
 simp [h]
theorem repL2 {E : Env} {xs : List AV} {vs : List Value} (h : RepL E xs vs) {x y : AV} (hx : xs = [x, y]) : ∃ u v, vs = [u, v] ∧ RepV E x u ∧ RepV E y v := by
 subst hx
 simp only [RepL] at h
 obtain ⟨u, us, rfl, hu, v, vs, rfl, hv, rfl⟩ := h
 exact ⟨u, v, rfl, hu, hv⟩
theorem repL1 {E : Env} {xs : List AV} {vs : List Value} (h : RepL E xs vs) {x : AV} (hx : xs = [x]) : ∃ u, vs = [u] ∧ RepV E x u := by
 subst hx
 simp only [RepL] at h
 obtain ⟨u, us, rfl, hu, rfl⟩ := h
 exact ⟨u, rfl, hu⟩
theorem builtinP_sound {P : Program} {T : Types} (hT : TOK P T) {Z : Nat → Prop} {E : Env} {H : Heap} {nx : Nat} (hr : HeapRep Z E H nx) {b : Builtin} {ts : List TypeId} {xs : List AV} {vs : List Value} {ty : TypeId} {cn : Array Bool}
  {K : AV → Heap → Nat → Prop} (hx : RepL E xs vs) (h : builtinP T H nx b ts xs K) :
  ∃ x H' nx' E' v, K x H' nx' ∧ (builtin b ts.toArray ty cn vs.toArray).run P E.w = .ok (.value v) E'.w ∧ After Z E H x H' nx' v E' := by
 unfold builtinP at h
 split at h
 ·rename_i t x
  obtain ⟨u, rfl, hu⟩ := repL1 hx rfl
  obtain ⟨y, r, h1, h2, h3⟩ := lenP_sound (ty := ty) hT hu h
  exact ⟨y, H, nx, E, r, h1, vrun (h2 E.w), After.pure hr h3⟩
 ·rename_i t tx x y
  obtain ⟨u, v, rfl, hu, hv⟩ := repL2 hx rfl
  obtain ⟨z, H', nx', E', r, h1, h2, h3⟩ := apB_sound (ty := ty) hT hr hu hv h
  exact ⟨z, H', nx', E', r, h1, vrun h2, h3⟩
 ·rename_i t x
  obtain ⟨u, rfl, hu⟩ := repL1 hx rfl
  obtain ⟨y, r, h1, h2, h3⟩ := capP_sound (ty := ty) hT hu h
  exact ⟨y, H, nx, E, r, h1, vrun (h2 E.w), After.pure hr h3⟩
 ·rename_i t tx x y
  obtain ⟨u, v, rfl, hu, hv⟩ := repL2 hx rfl
  obtain ⟨z, H', E', r, h1, h2, h3⟩ := copyP_sound (tx := tx) (ty := ty) hT hr hu hv h
  exact ⟨z, H', nx, E', r, h1, vrun h2, h3⟩
 ·unfold minP at h
  split at h
  ·rename_i k a k' b
   obtain ⟨u, v, rfl, hu, hv⟩ := repL2 hx rfl
   simp only [RepV] at hu hv
   subst hu; subst hv
   exact ⟨_, H, nx, E, _, h, vrun (run_min_int2 E.w ts.toArray ty k k' a b), After.pure hr (rep_int E _ _)⟩
  ·exact h.elim
 ·exact h.elim
theorem toArray_map {α β : Type} (f : α → β) (xs : Array α) : (xs.toList.map f).toArray = xs.map f := by
 cases xs; simp
theorem eq_binOp {T : Types} {E : Env} {t : TypeId} {X Y : AV} {u v : Value} {K : AV → Prop} {f : Bool → AV} (hu : RepV E X u) (h : eqP T t X Y K f) :
  binOp .eql t u v = (do Pure.pure (.bool (← Op.equal t u v))) ∧ binOp .neq t u v = (do Pure.pure (.bool (!(← Op.equal t u v)))) := by
 unfold eqP at h
 split at h
 ·simp only [RepV] at hu; obtain ⟨vs, rfl, _⟩ := hu; exact ⟨rfl, rfl⟩
 ·simp only [RepV] at hu; subst hu; exact ⟨rfl, rfl⟩
 ·simp only [RepV] at hu; obtain ⟨n, _, rfl⟩ := hu; exact ⟨rfl, rfl⟩
 ·simp only [RepV] at hu; obtain ⟨b, off, rfl, _⟩ := hu; exact ⟨rfl, rfl⟩
 ·simp only [RepV] at hu; subst hu; exact ⟨rfl, rfl⟩
 ·simp only [RepV] at hu; obtain ⟨b, off, rfl, _⟩ := hu; exact ⟨rfl, rfl⟩
 ·simp only [RepV] at hu; obtain ⟨b, off, rfl, _⟩ := hu; exact ⟨rfl, rfl⟩
 ·exact h.elim
set_option maxHeartbeats 2000000 in
theorem opP_sound {P : Program} {T : Types} (hT : TOK P T) {M : FuncId → List Mode} {Z : Nat → Prop} {E : Env} {st : St} {a : Act} (S : Sim Z E st a) {o : Oper} {K : AV → Heap → Nat → Prop}
  (h : opP P T M st.env st.heap st.nx o.op K) : OpOk P Z E st a o K := by
 have hE := fun x => rep_evalO S x
 unfold opP at h
 split at h
 ·rename_i x ho; rw [force_eq] at h; exact ok_pure S (by simp [execOp, ho]) h (hE x)
 ·rename_i x ho; rw [force_eq] at h; exact ok_pure S (by simp [execOp, ho]) h (hE x)
 ·rename_i c x y ho
  split at h
  ·rename_i t hc
   have hcv := hE c
   rw [hc] at hcv
   simp only [RepV] at hcv
   simp only [force_eq] at h
   cases t with
   | true => exact ok_pure S (by simp [execOp, ho, hcv, asBool]) (h.1 rfl) (hE x)
   | false => exact ok_pure S (by simp [execOp, ho, hcv, asBool]) (h.2 rfl) (hE y)
  ·exact h.elim
 ·rename_i e ho
  obtain ⟨x, H', nx', E', r, h1, h2, h3⟩ := allocP_sound hT S.heap h
  exact ok_value (by simp only [execOp, ho]; exact vrun h2) h1 h3
 ·rename_i e x ho
  obtain ⟨x', H', nx', E', r, h1, h2, h3⟩ := boxP_sound (P := P) (e := e) S.heap (hE x) h
  exact ok_value (by simp only [execOp, ho]; exact vrun h2) h1 h3
 ·rename_i t ps ho
  obtain ⟨x', r, h1, h2, h3⟩ := buildP_sound hT S.heap.one (rep_evalPs S ps.toList) h
  refine ok_pure S ?_ h1 h3
  simp only [execOp, ho]
  have := h2 E.w
  rw [toArray_map] at this
  exact vrun this
 ·rename_i t n ps ho
  obtain ⟨x', H', nx', E', r, h1, h2, h3⟩ := buildSliceP_sound hT S.heap (rep_evalPs S ps.toList) h
  refine ok_value ?_ h1 h3
  simp only [execOp, ho]
  rw [toArray_map] at h2
  exact vrun h2
 ·rename_i t x ho
  simp only [force_eq] at h
  obtain ⟨x', r, h1, h2, h3⟩ := loadP_sound hT S.heap (hE x) h
  exact ok_pure S (by simp only [execOp, ho]; exact vrun h2) h1 h3
 ·rename_i t x y ho
  rw [force_eq] at h
  obtain ⟨H', E', h1, h2, h3, h4, h5⟩ := storeP_sound hT S.heap (hE x) (hE y) h
  intro next Q hn
  have hrun : (execOp a.eval o).run P E.w = .ok .skip E'.w := by simp [execOp, ho, h2]
  unfold Oper.wp
  rw [hrun]
  exact hn .top H' st.nx E' undef h1 ⟨h3, h4, by simp [RepV], h5⟩
 ·rename_i x ho
  split at h
  ·rename_i id off hc
   have hv := hE x
   rw [hc] at hv
   have hv' := hv
   simp only [RepV] at hv'
   obtain ⟨n, hn, hv'⟩ := hv'
   refine ok_pure S ?_ h hv
   simp [execOp, ho, hv']
  ·rename_i cs hc
   have hv := hE x
   rw [hc] at hv
   have hv' := hv
   simp only [RepV] at hv'
   obtain ⟨b, off, hv', _⟩ := hv'
   refine ok_pure S ?_ h hv
   simp [execOp, ho, hv']
  ·exact h.elim
 ·rename_i op t x y ty ho
  split at h
  ·obtain ⟨x', r, h1, h2, h3⟩ := binP_sound (P := P) (hE x) (hE y) h
   refine ok_pure S ?_ h1 h2
   simp only [execOp, ho]
   exact vrun (h3 t x y E.w)
  ·split at h
   ·obtain ⟨x', b, h1, h2, h3, h4⟩ := eqP_sound (g := fun b => b) hT (fun _ => rfl) (hE x) (hE y) h
    refine ok_pure S (v := .bool b) ?_ h1 h2
    simp only [execOp, ho]
    refine vrun ?_
    simp only [Sem.run_bind, h4, Result.andThen_ok]
    rw [(eq_binOp (hE x) h).1, Sem.run_bind, h3]
    rfl
   ·obtain ⟨x', b, h1, h2, h3, h4⟩ := eqP_sound (g := fun b => !b) hT (fun _ => rfl) (hE x) (hE y) h
    refine ok_pure S (v := .bool (!b)) ?_ h1 h2
    simp only [execOp, ho]
    refine vrun ?_
    simp only [Sem.run_bind, h4, Result.andThen_ok]
    rw [(eq_binOp (hE x) h).2, Sem.run_bind, h3]
    rfl
   ·exact h.elim
 ·rename_i op t x ho
  obtain ⟨x', r, h1, h2, h3⟩ := unP_sound (P := P) (hE x) h
  exact ok_pure S (by simp only [execOp, ho]; exact vrun (h3 E.w)) h1 h2
 ·rename_i src dst x ho
  cases hc : (Nat.beq src dst && isSlV (evalO st.env x)) with
  | true =>
   rw [hc, cond_true] at h
   simp only [Bool.and_eq_true] at hc
   obtain rfl := Nat.eq_of_beq_eq_true hc.1
   obtain ⟨x', H', nx', E', r, h1, h2, h3⟩ := strishP_sound hT S.heap (hE x) h
   exact ok_value (by simp only [execOp, ho]; exact vrun h2) h1 h3
  | false =>
  rw [hc, cond_false] at h
  obtain ⟨x', H', nx', E', r, h1, h2, h3⟩ := convP_sound hT S.heap (hE x) h
  exact ok_value (by simp only [execOp, ho]; exact vrun h2) h1 h3
 ·rename_i t x ho
  obtain ⟨x', r, h1, h2, h3⟩ := arrayAtP_sound hT (hE x) h
  exact ok_pure S (by simp only [execOp, ho]; exact vrun (h2 E.w)) h1 h3
 ·rename_i t l c ho
  obtain ⟨x', H', nx', E', r, h1, h2, h3⟩ := makeSliceP_sound hT S.heap (hE l) (hE c) h
  exact ok_value (by simp only [execOp, ho]; exact vrun h2) h1 h3
 ·rename_i t x lo hi mx ho
  split at h
  ·obtain ⟨x', r, h1, h2, h3⟩ := sliceP_sound hT S.heap (hE x) (rep_evalOpt S lo) (rep_evalOpt S hi) h
   exact ok_pure S (by simp only [execOp, ho, Option.map_none]; exact vrun (h2 E.w)) h1 h3
  ·rename_i m
   obtain ⟨x', r, h1, h2, h3⟩ := slice3P_sound hT (hE x) (rep_evalOpt S lo) (rep_evalOpt S hi) (hE m) h
   exact ok_pure S (by simp only [execOp, ho, Option.map_some]; exact vrun (h2 E.w)) h1 h3
 ·rename_i t x f ho
  obtain ⟨x', r, h1, h2, h3⟩ := fieldAddrP_sound hT (hE x) h
  exact ok_pure S (by simp only [execOp, ho]; exact vrun (h2 E.w)) h1 h3
 ·rename_i t x f ho
  obtain ⟨x', r, h1, h2, h3⟩ := fieldP_sound hT (hE x) h
  exact ok_pure S (by simp only [execOp, ho]; exact vrun (h2 E.w)) h1 h3
 ·rename_i t x i ho
  obtain ⟨x', r, h1, h2, h3⟩ := indexAddrP_sound hT (hE x) (hE i) h
  exact ok_pure S (by simp only [execOp, ho]; exact vrun (h2 E.w)) h1 h3
 ·rename_i t x i ho
  obtain ⟨x', r, h1, h2, h3⟩ := indexP_sound hT (hE x) (hE i) h
  exact ok_pure S (by simp only [execOp, ho]; exact vrun (h2 E.w)) h1 h3
 ·rename_i x i ho
  simp only [force_eq] at h
  obtain ⟨x', r, h1, h2, h3⟩ := extractP_sound (P := P) (hE x) h
  exact ok_pure S (by simp only [execOp, ho]; exact vrun (h2 E.w)) h1 h3
 ·rename_i f first caps ho
  split at h
  ·rename_i hf
   have hfe : first = #[] := by simpa using hf
   refine ok_pure S (v := .func f #[] (caps.map a.eval)) ?_ h ?_
   ·simp only [execOp, ho, hfe]
    simp [Instr.makeFunc]
   ·simp only [RepV]
    refine ⟨_, rfl, ?_⟩
    have := rep_evalL S caps.toList
    simpa using this
  ·exact h.elim
 ·rename_i c ho
  split at h
  ·rename_i b hcal
   obtain ⟨x', H', nx', E', r, h1, h2, h3⟩ := builtinP_sound (ty := o.type) (cn := c.args.map fun | .const _ => true | _ => false) hT S.heap (rep_evalL S c.args.toList) h
   refine ok_value ?_ h1 h3
   simp only [execOp, ho, resolve, hcal, Sem.run_bind, Sem.run_pure, Result.andThen_ok, invoke]
   have e1 : (c.args.toList.map a.eval).toArray = c.args.map a.eval := toArray_map _ _
   rw [e1, Array.toArray_toList] at h2
   exact h2
  ·rename_i f hcal
   split at h
   ·rename_i g caps hf
    have hv := hE f
    rw [hf] at hv
    simp only [RepV] at hv
    obtain ⟨vs, hv, hcaps⟩ := hv
    have hargs : RepL E (evalL st.env c.args.toList ++ caps) (c.args.toList.map a.eval ++ vs.toList) := by
     have : ∀ (xs ys : List AV) (us ws : List Value), RepL E xs us → RepL E ys ws → RepL E (xs ++ ys) (us ++ ws) := by
      intro xs
      induction xs with
      | nil => intro ys us ws h1 h2; simp only [RepL] at h1; subst h1; exact h2
      | cons x xs ih =>
       intro ys us ws h1 h2
       simp only [RepL] at h1
       obtain ⟨u, us', rfl, hu, h1⟩ := h1
       simp only [List.cons_append, RepL]
       exact ⟨u, us' ++ ws, rfl, hu, ih ys us' ws h1 h2⟩
     exact this _ _ _ _ (rep_evalL S c.args.toList) hcaps
    cases hcmp : isCmp (M g) with
    | true =>
     rw [hcmp, cond_true] at h
     obtain ⟨x', v, h1, h2, h3⟩ := cmpP_sound S.heap hargs h
     refine ok_pure S ?_ h1 h2
     simp only [execOp, ho, resolve, hcal, Sem.run_bind, hv, Deferred.ofValue, Sem.run_pure, Result.andThen_ok, invoke]
     rw [Array.empty_append]
     have he : (c.args.toList.map a.eval ++ vs.toList).toArray = c.args.map a.eval ++ vs := by simp
     rw [he] at h3
     exact h3
    | false =>
    rw [hcmp, cond_false] at h
    have hex : Enters P g := callQ_enters h
    have hc := callQ_sound S.heap hargs h
    intro next Q hn
    have hrun : (execOp a.eval o).run P E.w = .ok (.enter g (c.args.map a.eval ++ vs)) E.w := by
     simp only [execOp, ho, resolve, hcal, Sem.run_bind, hv, Deferred.ofValue, Sem.run_pure, Result.andThen_ok, invoke]
     rw [Array.empty_append]
     exact hex _ _
    unfold Oper.wp
    rw [hrun, Oper.upon_enter]
    have he : (c.args.toList.map a.eval ++ vs.toList).toArray = c.args.map a.eval ++ vs := by simp
    rw [he] at hc
    refine hc.mono ?_
    rintro e w' ⟨x', H', nx', E', v, rfl, hk, rfl, ha⟩
    exact hn x' H' nx' E' v hk ha
   ·exact h.elim
  ·exact h.elim
 ·exact h.elim
end
section

def intT (T : Types) (t : TypeId) : Bool :=
 match T t with
 | some i => match i.d with
  | .int _ => true
  | _ => false
 | none => false
def pureOp (T : Types) : Op → Bool
 | .move _ | .assign _ | .pick .. | .build .. | .nilCheck _ | .binOp .. | .unOp .. | .sliceToArrayPointer .. | .slice .. | .fieldAddr .. | .field .. | .indexAddr .. | .index .. | .extract .. => true
 | .convert src dst _ => intT T dst
 | .call c => match c.callee with
  | .builtin .len => true
  | .builtin .min => true
  | _ => false
 | _ => false
theorem run_of_value {P : Program} {s : Sem Value} {v : Value} (h : ∀ w, s.run P w = .ok v w) : ∀ w, (do Pure.pure (Next.value (← s)) : Sem Next).run P w = .ok (.value v) w := by
 intro w
 simp [h]
set_option maxHeartbeats 1000000 in
theorem opP_yields {P : Program} {T : Types} (hT : TOK P T) {M : FuncId → List Mode} {Z : Nat → Prop} {E : Env} {st : St} {a : Act} (S : Sim Z E st a) {o : Oper} {K : AV → Heap → Nat → Prop}
  (hp : pureOp T o.op = true) (h : opP P T M st.env st.heap st.nx o.op K) :
  ∃ x v, K x st.heap st.nx ∧ RepV E x v ∧ ∀ w, (execOp a.eval o).run P w = .ok (.value v) w := by
 have hE := fun x => rep_evalO S x
 unfold opP at h
 split at h
 ·rename_i x ho; rw [force_eq] at h; exact ⟨_, _, h, hE x, fun w => by simp [execOp, ho]⟩
 ·rename_i x ho; rw [force_eq] at h; exact ⟨_, _, h, hE x, fun w => by simp [execOp, ho]⟩
 ·rename_i c x y ho
  split at h
  ·rename_i t hc
   have hcv := hE c
   rw [hc] at hcv
   simp only [RepV] at hcv
   simp only [force_eq] at h
   cases t with
   | true => exact ⟨_, _, h.1 rfl, hE x, fun w => by simp [execOp, ho, hcv, asBool]⟩
   | false => exact ⟨_, _, h.2 rfl, hE y, fun w => by simp [execOp, ho, hcv, asBool]⟩
  ·exact h.elim
 ·rename_i ho; rw [ho] at hp; simp [pureOp] at hp
 ·rename_i ho; rw [ho] at hp; simp [pureOp] at hp
 ·rename_i t ps ho
  obtain ⟨x', r, h1, h2, h3⟩ := buildP_sound hT S.heap.one (rep_evalPs S ps.toList) h
  rw [toArray_map] at h2
  exact ⟨x', r, h1, h3, by simp only [execOp, ho]; exact run_of_value h2⟩
 ·rename_i ho; rw [ho] at hp; simp [pureOp] at hp
 ·rename_i ho; rw [ho] at hp; simp [pureOp] at hp
 ·rename_i ho; rw [ho] at hp; simp [pureOp] at hp
 ·rename_i x ho
  split at h
  ·rename_i id off hc
   have hv := hE x
   rw [hc] at hv
   have hv' := hv
   simp only [RepV] at hv'
   obtain ⟨n, hn, hv'⟩ := hv'
   exact ⟨_, _, h, hv, fun w => by simp [execOp, ho, hv']⟩
  ·rename_i cs hc
   have hv := hE x
   rw [hc] at hv
   have hv' := hv
   simp only [RepV] at hv'
   obtain ⟨b, off, hv', _⟩ := hv'
   exact ⟨_, _, h, hv, fun w => by simp [execOp, ho, hv']⟩
  ·exact h.elim
 ·rename_i op t x y ty ho
  split at h
  ·obtain ⟨x', r, h1, h2, h3⟩ := binP_sound (P := P) (hE x) (hE y) h
   exact ⟨x', r, h1, h2, by simp only [execOp, ho]; exact run_of_value (h3 t x y)⟩
  ·split at h
   ·obtain ⟨x', b, h1, h2, h3, h4⟩ := eqP_sound (g := fun b => b) hT (fun _ => rfl) (hE x) (hE y) h
    refine ⟨x', .bool b, h1, h2, ?_⟩
    simp only [execOp, ho]
    refine run_of_value fun w => ?_
    simp only [Sem.run_bind, h4, Result.andThen_ok]
    rw [(eq_binOp (hE x) h).1, Sem.run_bind, h3]
    rfl
   ·obtain ⟨x', b, h1, h2, h3, h4⟩ := eqP_sound (g := fun b => !b) hT (fun _ => rfl) (hE x) (hE y) h
    refine ⟨x', .bool (!b), h1, h2, ?_⟩
    simp only [execOp, ho]
    refine run_of_value fun w => ?_
    simp only [Sem.run_bind, h4, Result.andThen_ok]
    rw [(eq_binOp (hE x) h).2, Sem.run_bind, h3]
    rfl
   ·exact h.elim
 ·rename_i op t x ho
  obtain ⟨x', r, h1, h2, h3⟩ := unP_sound (P := P) (hE x) h
  exact ⟨x', r, h1, h2, by simp only [execOp, ho]; exact run_of_value h3⟩
 ·rename_i src dst x ho
  rw [ho] at hp
  simp only [pureOp, intT] at hp
  have h : convP T st.heap st.nx src dst (evalO st.env x) K := by
   cases hc : (Nat.beq src dst && isSlV (evalO st.env x)) with
   | false => rw [hc, cond_false] at h; exact h
   | true =>
    exfalso
    rw [hc, cond_true] at h
    simp only [Bool.and_eq_true] at hc
    obtain rfl := Nat.eq_of_beq_eq_true hc.1
    unfold strishP at h
    split at h
    case h_2 => exact h
    split at h
    case h_2 => exact h
    rename_i e a b c d _ ht _
    rw [ht] at hp
    cases hp
  unfold convP at h
  split at h
  case h_2 => exact h.elim
  rename_i si di hs hd
  obtain ⟨ds, hds, hso, _⟩ := (hT src _ hs).und
  obtain ⟨dd, hdd, hdo, _⟩ := (hT dst _ hd).und
  rw [hd] at hp
  simp only at hp
  split at hp
  case h_2 => cases hp
  rename_i k hdk
  rw [hdk] at hdo
  have ho' : dd = .int k := hdo
  subst ho'
  simp only [hdk] at h
  split at h
  ·rename_i k1 k2 n hk hxv
   injection hk with hk
   subst hk
   have hv := hE x
   rw [hxv] at hv
   simp only [RepV] at hv
   refine ⟨_, _, h.elim, rep_int E _ _, ?_⟩
   simp only [execOp, ho]
   exact run_of_value fun w => by simp [hv, convert, run_underlying hds, run_underlying hdd, Conv.intToInt]
  all_goals first | exact h.elim | (rename_i hk _; cases hk) | (rename_i hk _ _; cases hk) | (rename_i hk; cases hk)
 ·rename_i t x ho
  obtain ⟨x', r, h1, h2, h3⟩ := arrayAtP_sound hT (hE x) h
  exact ⟨x', r, h1, h3, by simp only [execOp, ho]; exact run_of_value h2⟩
 ·rename_i ho; rw [ho] at hp; simp [pureOp] at hp
 ·rename_i t x lo hi mx ho
  split at h
  ·obtain ⟨x', r, h1, h2, h3⟩ := sliceP_sound hT S.heap (hE x) (rep_evalOpt S lo) (rep_evalOpt S hi) h
   exact ⟨x', r, h1, h3, by simp only [execOp, ho, Option.map_none]; exact run_of_value h2⟩
  ·rename_i m
   obtain ⟨x', r, h1, h2, h3⟩ := slice3P_sound hT (hE x) (rep_evalOpt S lo) (rep_evalOpt S hi) (hE m) h
   exact ⟨x', r, h1, h3, by simp only [execOp, ho, Option.map_some]; exact run_of_value h2⟩
 ·rename_i t x f ho
  obtain ⟨x', r, h1, h2, h3⟩ := fieldAddrP_sound hT (hE x) h
  exact ⟨x', r, h1, h3, by simp only [execOp, ho]; exact run_of_value h2⟩
 ·rename_i t x f ho
  obtain ⟨x', r, h1, h2, h3⟩ := fieldP_sound hT (hE x) h
  exact ⟨x', r, h1, h3, by simp only [execOp, ho]; exact run_of_value h2⟩
 ·rename_i t x i ho
  obtain ⟨x', r, h1, h2, h3⟩ := indexAddrP_sound hT (hE x) (hE i) h
  exact ⟨x', r, h1, h3, by simp only [execOp, ho]; exact run_of_value h2⟩
 ·rename_i t x i ho
  obtain ⟨x', r, h1, h2, h3⟩ := indexP_sound hT (hE x) (hE i) h
  exact ⟨x', r, h1, h3, by simp only [execOp, ho]; exact run_of_value h2⟩
 ·rename_i x i ho
  simp only [force_eq] at h
  obtain ⟨x', r, h1, h2, h3⟩ := extractP_sound (P := P) (hE x) h
  exact ⟨x', r, h1, h3, by simp only [execOp, ho]; exact run_of_value h2⟩
 ·rename_i ho; rw [ho] at hp; simp [pureOp] at hp
 ·rename_i c ho
  rw [ho] at hp
  split at h
  ·rename_i b hcal
   simp only [pureOp, hcal] at hp
   have hargs := rep_evalL S c.args.toList
   simp only [execOp, ho, resolve, hcal, Sem.run_bind, Sem.run_pure, Result.andThen_ok, invoke]
   have e1 : (c.args.toList.map a.eval).toArray = c.args.map a.eval := toArray_map _ _
   have e2 : c.argTypes.toList.toArray = c.argTypes := Array.toArray_toList
   rw [← e1, ← e2]
   revert h hargs
   generalize c.args.toList.map a.eval = vs
   generalize evalL st.env c.args.toList = xs
   generalize c.argTypes.toList = ts
   intro h hargs
   unfold builtinP at h
   split at h
   ·rename_i t x
    obtain ⟨u, rfl, hu⟩ := repL1 hargs rfl
    obtain ⟨y, r, h1, h2, h3⟩ := lenP_sound (ty := o.type) hT hu h
    exact ⟨y, r, h1, h3, run_of_value h2⟩
   ·simp at hp
   ·simp at hp
   ·simp at hp
   ·unfold minP at h
    split at h
    ·rename_i k a' k' b'
     obtain ⟨u, v, rfl, hu, hv⟩ := repL2 hargs rfl
     simp only [RepV] at hu hv
     subst hu; subst hv
     exact ⟨_, _, h, rep_int E _ _, run_of_value fun w => run_min_int2 w _ _ k k' a' b'⟩
    ·exact h.elim
   ·exact h.elim
  ·rename_i f hcal
   simp [pureOp, hcal] at hp
  ·exact h.elim
 ·exact h.elim
theorem hids_det {E : Env} : ∀ (ns : List Nat) (vs : List Value), RepL E (ns.map AV.hid) vs → vs = ns.map E.η
 | [], vs, h => by simpa [RepL] using h
 | n :: ns, vs, h => by
  simp only [List.map_cons, RepL, RepV] at h
  obtain ⟨u, us, rfl, rfl, h⟩ := h
  rw [hids_det ns us h, List.map_cons]
theorem load_cong {P : Program} {T : Types} (hT : TOK P T) {E : Env} {t : TypeId} {b off : Nat} {cs : List AV} {K : AV → Prop} {v : Value}
  (hm : ∀ (j : Nat) x, cs[j]? = some x → ∃ u, E.w.cell? ⟨b, off + j, none⟩ = some u ∧ RepV E x u) (h : getP T t cs K) (hv : (loadVar t ⟨b, off, none⟩).run P E.w = .ok v E.w)
  {w' : World} (hs : w'.heap[b]? = E.w.heap[b]?) : (loadVar t ⟨b, off, none⟩).run P w' = .ok v w' := by
 let η : Nat → Value := fun j => (E.w.cell? ⟨b, off + j, none⟩).getD undef
 let ds : List AV := (List.range cs.length).map AV.hid
 have hlen : ds.length = cs.length := by simp [ds]
 have hds : ∀ (w : World) (hw : ∀ j, w.cell? ⟨b, off + j, none⟩ = E.w.cell? ⟨b, off + j, none⟩) (j : Nat) x, ds[j]? = some x →
   ∃ u, w.cell? ⟨b, off + j, none⟩ = some u ∧ RepV { E with η := η, w := w } x u := by
  intro w hw j x hx
  have hj : j < cs.length := by
   rcases Nat.lt_or_ge j ds.length with h' | h'
   ·omega
   ·rw [List.getElem?_eq_none h'] at hx; cases hx
  obtain ⟨u, hu, _⟩ := hm j cs[j] (by simp)
  refine ⟨u, by rw [hw]; exact hu, ?_⟩
  simp only [ds, List.getElem?_map, List.getElem?_range hj, Option.map_some] at hx
  injection hx with hx
  subst hx
  simp only [RepV, η, hu, Option.getD_some]
 have hg : ∃ y : AV, getP T t ds (fun x => x = y) ∧ ∀ (w1 w2 : World) v1 v2, RepV { E with η := η, w := w1 } y v1 → RepV { E with η := η, w := w2 } y v2 → v1 = v2 := by
  unfold getP at h ⊢
  split at h
  ·rename_i i hi
   cases ha : i.d.agg
   case true =>
    simp only [ha] at h
    obtain ⟨r, hr, h⟩ := h
    obtain ⟨hl, rfl⟩ := takeN_spec _ _ _ hr
    refine ⟨_, ⟨_, takeN_eq i.size ds (by omega), rfl⟩, fun w1 w2 v1 v2 h1 h2 => ?_⟩
    simp only [RepV] at h1 h2
    obtain ⟨a1, rfl, h1⟩ := h1
    obtain ⟨a2, rfl, h2⟩ := h2
    have hd : ds.take i.size = (List.range (min i.size cs.length)).map AV.hid := by
     simp only [ds, ← List.map_take, List.take_range]
    rw [hd] at h1 h2
    have e1 := hids_det _ _ h1
    have e2 := hids_det _ _ h2
    congr 1
    exact Array.toList_inj.1 (e1.trans e2.symm)
   case false =>
    simp only [ha] at h
    obtain ⟨x, hx, h⟩ := h
    have hc : 0 < cs.length := by
     rcases Nat.lt_or_ge 0 cs.length with h' | h'
     ·exact h'
     ·rw [List.getElem?_eq_none h'] at hx; cases hx
    have : ds[0]? = some (.hid 0) := by simp [ds, List.getElem?_range hc]
    refine ⟨_, ⟨_, this, rfl⟩, fun w1 w2 v1 v2 h1 h2 => ?_⟩
    simp only [RepV] at h1 h2
    rw [h1, h2]
  ·exact h.elim
 obtain ⟨y, hg, hdet⟩ := hg
 obtain ⟨x1, v1, rfl, r1, p1⟩ := getP_sound (P := P) hT (E := { E with η := η }) (b := b) (off := off) (hds E.w fun _ => rfl) hg
 obtain ⟨x2, v2, rfl, r2, p2⟩ := getP_sound (P := P) hT (E := { E with η := η, w := w' }) (b := b) (off := off) (hds w' fun j => cell_of_same (a := ⟨b, off + j, none⟩) hs) hg
 have hv1 : v1 = v := by
  have := r1.symm.trans hv
  injection this
 have := hdet _ _ _ _ p1 p2
 rw [← hv1, this]
 exact r2
theorem loadP_at {P : Program} {T : Types} (hT : TOK P T) {Z : Nat → Prop} {E : Env} {H : Heap} {nx : Nat} (hr : HeapRep Z E H nx) {t : TypeId} {A : AV} {va : Value} {K : AV → Prop}
  (ha : RepV E A va) (h : loadP T H t A K) : ∃ x v b, K x ∧ RepV E x v ∧ (∀ w', w'.heap[b]? = E.w.heap[b]? → (Instr.loadAt t va).run P w' = .ok v w') ∧
   (∀ c cs, A = .rop (c :: cs) → ¬ E.V b ∧ b < E.w.heap.size) := by
 unfold loadP at h
 split at h
 ·rename_i id off
  simp only [RepV] at ha
  obtain ⟨n, hn, rfl⟩ := ha
  split at h
  ·rename_i cs hcs
   have hm : ∀ (j : Nat) x, (cs.drop off)[j]? = some x → ∃ u, E.w.cell? ⟨n, off + j, none⟩ = some u ∧ RepV E x u := fun j x hx => blk_cells hr hcs hn (off + j) x (by simpa using hx)
   obtain ⟨x, v, h1, h2, h3⟩ := getP_sound (P := P) hT (b := n) (off := off) (E := E) hm h
   exact ⟨x, v, n, h1, h3, fun w' hs => by simp [Instr.loadAt, Instr.sureAddr, load_cong hT hm h h2 hs], nofun⟩
  ·exact h.elim
 ·rename_i cs
  simp only [RepV] at ha
  obtain ⟨b, off, rfl, hc⟩ := ha
  rcases hc with rfl | ⟨hV, hm⟩
  ·have hm : ∀ (j : Nat) x, ([] : List AV)[j]? = some x → ∃ u, E.w.cell? ⟨b, off + j, none⟩ = some u ∧ RepV E x u := fun j x hx => by simp at hx
   obtain ⟨x, v, h1, h2, h3⟩ := getP_sound (P := P) hT (b := b) (off := off) (E := E) hm h
   exact ⟨x, v, b, h1, h3, fun w' hs => by simp [Instr.loadAt, Instr.sureAddr, load_cong hT hm h h2 hs], nofun⟩
  ·have hm' := repM_get cs b off hm
   obtain ⟨x, v, h1, h2, h3⟩ := getP_sound (P := P) hT (b := b) (off := off) (E := E) hm' h
   refine ⟨x, v, b, h1, h3, fun w' hs => by simp [Instr.loadAt, Instr.sureAddr, load_cong hT hm' h h2 hs], fun c ds he => ⟨hV, ?_⟩⟩
   injection he with he
   subst he
   obtain ⟨u, hu, _⟩ := hm' 0 c rfl
   exact World.block_lt_of_cell? _ _ hu
 ·exact h.elim
end
section

def St.after (st : St) (dst : Option Tmp) (x : AV) (H : Heap) (nx : Nat) (K : St → Prop) : Prop :=
 match st with
 | ⟨env, _, _, n⟩ => match dst with
  | none => K ⟨env, H, nx, n⟩
  | some d => cond (Nat.blt d n) (K ⟨setE env d x, H, nx, n⟩) False
def runP (P : Program) (T : Types) (M : FuncId → List Mode) (o : Oper) (st : St) (K : St → Prop) : Prop :=
 match st with
 | ⟨env, H, nx, n⟩ => opP P T M env H nx o.op fun x H' nx' => St.after ⟨env, H, nx, n⟩ o.dst x H' nx' K
theorem runP_eq (P : Program) (T : Types) (M : FuncId → List Mode) (o : Oper) (st : St) (K : St → Prop) :
  runP P T M o st K = opP P T M st.env st.heap st.nx o.op fun x H' nx' => st.after o.dst x H' nx' K := by cases st; rfl
def skipP (o : Oper) (st : St) (K : St → Prop) : Prop :=
 match st with
 | ⟨env, H, nx, n⟩ => St.after ⟨env, H, nx, n⟩ o.dst (.tuple []) H nx K
def guardTmp (ops : Array Oper) (j : Nat) : Option Tmp :=
 match ops[j]? with
 | some o => o.dst
 | none => none
def St.lit (st : St) (d : Tmp) (b : Bool) : St :=
 match st with
 | ⟨env, H, nx, n⟩ => ⟨setE env d (.bool b), H, nx, n⟩
def stepP (P : Program) (T : Types) (M : FuncId → List Mode) (ops : Array Oper) (o : Oper) (st : St) (K : St → Prop) : Prop :=
 match o.guard with
 | none => runP P T M o st K
 | some (j, want) => match guardTmp ops j with
  | none => False
  | some d => cond (Nat.blt d st.n) (match st.env d with
   | .bool b => ifB b (cond want (runP P T M o (st.lit d true) K) (skipP o (st.lit d true) K)) (cond want (skipP o (st.lit d false) K) (runP P T M o (st.lit d false) K))
   | .anyb => cond want (runP P T M o (st.lit d true) K) (skipP o (st.lit d true) K) ∧ cond want (skipP o (st.lit d false) K) (runP P T M o (st.lit d false) K)
   | .tuple _ => skipP o st K
   | _ => False) False
def opsP (P : Program) (T : Types) (M : FuncId → List Mode) (ops : Array Oper) : List Oper → St → (St → Prop) → Prop
 | [], st, K => K st
 | o :: r, st, K => stepP P T M ops o st fun st' => opsP P T M ops r st' K
theorem Sim.lit {Z : Nat → Prop} {E : Env} {st : St} {a : Act} (S : Sim Z E st a) {d : Tmp} {b : Bool} (h : a.tmps.getD d undef = .bool b) : Sim Z E (st.lit d b) a :=
 ⟨fun t => by
  by_cases ht : t = d
  ·subst ht; simp only [St.lit, setE_same, RepV]; exact h
  ·simp only [St.lit, setE_ne _ _ ht]; exact S.env t, S.sz, S.dfr, S.heap⟩
theorem after_sim {Z : Nat → Prop} {E E' : Env} {st : St} {a : Act} (S : Sim Z E st a) {dst : Option Tmp} {x : AV} {H' : Heap} {nx' : Nat} {v : Value} {K : St → Prop}
  (A : After Z E st.heap x H' nx' v E') (h : st.after dst x H' nx' K) : ∃ st', K st' ∧ Sim Z E' st' (a.put dst v) := by
 unfold St.after at h
 obtain ⟨env, H, nx, n⟩ := st
 cases dst with
 | none => exact ⟨_, h, S.next' A⟩
 | some d =>
  simp only at h
  cases hd : Nat.blt d n with
  | false => rw [hd] at h; exact h.elim
  | true => rw [hd] at h; exact ⟨_, h, S.next (Nat.le_of_ble_eq_true hd) A⟩
theorem skip_sim {Z : Nat → Prop} {E : Env} {st : St} {a : Act} (S : Sim Z E st a) {o : Oper} {K : St → Prop} (h : skipP o st K) : ∃ st', K st' ∧ Sim Z E st' (a.put o.dst undef) := by
 obtain ⟨env, H, nx, n⟩ := st
 exact after_sim S (After.pure S.heap (x := .tuple []) (by simp [RepV, RepL, undef])) h
theorem yielded_of {ops : Array Oper} {a : Act} {j : Nat} {d : Tmp} {b : Bool} {n : Nat} (hg : guardTmp ops j = some d) (hs : a.tmps.size = n) (hd : d < n) (h : a.tmps.getD d undef = .bool b) :
  yielded ops a.tmps j = some b := by
 unfold guardTmp at hg
 split at hg
 ·rename_i o ho
  have hlt : d < a.tmps.size := by rw [hs]; exact hd
  have : a.tmps[d] = .bool b := by simpa [hlt] using h
  simp [yielded, ho, hg, this, hlt]
 ·cases hg
def roLoad (st : St) : Op → Bool
 | .load _ a => match evalO st.env a with
  | .rop (_ :: _) => true
  | _ => false
 | _ => false
def isLoad : Op → Bool
 | .load _ _ => true
 | _ => false
def takeOk (ops : Array Oper) (o : Oper) (st : St) : Bool :=
 match o.guard with
 | none => roLoad st o.op
 | some (j, want) => match guardTmp ops j with
  | none => false
  | some d => cond (roLoad st o.op) true (match st.env d with
   | .bool b => cond want (!b) b
   | .tuple _ => true
   | _ => false)
theorem roLoad_lit {st : St} {d : Tmp} {b : Bool} {op : Op} (h : (∃ c, st.env d = .bool c) ∨ st.env d = .anyb) (hr : roLoad st op = true) : roLoad (st.lit d b) op = true := by
 unfold roLoad at hr ⊢
 split at hr
 ·rename_i t x
  have e : evalO (st.lit d b).env x = evalO st.env x := by
   cases x with
   | tmp t =>
    simp only [evalO, St.lit]
    by_cases ht : t = d
    ·subst ht
     simp only [evalO] at hr
     rcases h with ⟨c, h⟩ | h <;> rw [h] at hr <;> cases hr
    ·exact setE_ne _ _ ht
   | const v => rfl
   | global g => rfl
   | func f => rfl
  simp only [e]
  exact hr
 ·cases hr
theorem step_cases {P : Program} {T : Types} {M : FuncId → List Mode} {ops : Array Oper} {o : Oper} {Z : Nat → Prop} {E : Env} {st : St} {a : Act} {K : St → Prop} (S : Sim Z E st a)
  (h : stepP P T M ops o st K) : ∃ st1, Sim Z E st1 a ∧ st1.heap = st.heap ∧ (Region.wanted o (yielded ops a.tmps) = true → takeOk ops o st = true → roLoad st1 o.op = true) ∧
   ((Region.wanted o (yielded ops a.tmps) = true ∧ runP P T M o st1 K) ∨ (Region.wanted o (yielded ops a.tmps) = false ∧ skipP o st1 K)) := by
 unfold stepP at h
 cases hg : o.guard with
 | none =>
  simp only [hg] at h
  exact ⟨st, S, rfl, fun _ ht => by unfold takeOk at ht; rw [hg] at ht; exact ht, .inl ⟨by simp [Region.wanted, hg], h⟩⟩
 | some jw =>
  obtain ⟨j, want⟩ := jw
  simp only [hg] at h
  cases hd : guardTmp ops j with
  | none => rw [hd] at h; exact h.elim
  | some d =>
   rw [hd] at h
   simp only at h
   cases hb : Nat.blt d st.n with
   | false => rw [hb] at h; exact h.elim
   | true =>
    rw [hb] at h
    have hlt : d < st.n := Nat.le_of_ble_eq_true hb
    simp only [cond_true] at h
    have key : ∀ b, a.tmps.getD d undef = .bool b → (st.env d = .bool b ∨ st.env d = .anyb) →
      (b = true → cond want (runP P T M o (st.lit d true) K) (skipP o (st.lit d true) K)) → (b = false → cond want (skipP o (st.lit d false) K) (runP P T M o (st.lit d false) K)) →
      ∃ st1, Sim Z E st1 a ∧ st1.heap = st.heap ∧ (Region.wanted o (yielded ops a.tmps) = true → takeOk ops o st = true → roLoad st1 o.op = true) ∧
       ((Region.wanted o (yielded ops a.tmps) = true ∧ runP P T M o st1 K) ∨ (Region.wanted o (yielded ops a.tmps) = false ∧ skipP o st1 K)) := by
     intro b hv hx h1 h2
     have hy := yielded_of hd S.sz hlt hv
     refine ⟨st.lit d b, S.lit hv, rfl, fun hw ht => ?_, ?_⟩
     ·unfold takeOk at ht
      rw [hg] at ht
      simp only [hd] at ht
      cases hr : roLoad st o.op with
      | true => exact roLoad_lit (hx.imp (fun h => ⟨_, h⟩) fun h => h) hr
      | false =>
       exfalso
       rw [hr] at ht
       rcases hx with hx | hx
       ·rw [hx] at ht
        cases b <;> cases want <;> simp [Region.wanted, hg, hy] at ht hw
       ·rw [hx] at ht
        cases ht
     cases b <;> cases want <;> simp [Region.wanted, hg, hy] at h1 h2 ⊢ <;> first | exact h1 | exact h2
    split at h
    ·rename_i b he
     have hv := S.env d
     rw [he] at hv
     simp only [RepV] at hv
     exact key b hv (.inl he) h.1 h.2
    ·rename_i he
     have hv := S.env d
     rw [he] at hv
     simp only [RepV] at hv
     obtain ⟨b, hv⟩ := hv
     exact key b hv (.inr he) (fun _ => h.1) (fun _ => h.2)
    ·rename_i cs he
     have hv := S.env d
     rw [he] at hv
     simp only [RepV] at hv
     obtain ⟨vs, hv, _⟩ := hv
     have hy : yielded ops a.tmps j = none := by
      unfold guardTmp at hd
      split at hd
      ·rename_i o' ho'
       have hsz : d < a.tmps.size := by rw [S.sz]; exact hlt
       have ht : a.tmps[d] = .tuple vs := by simpa [hsz] using hv
       simp [yielded, ho', hd, ht, hsz]
      ·cases hd
     have hwf : Region.wanted o (yielded ops a.tmps) = false := by simp [Region.wanted, hg, hy]
     exact ⟨st, S, rfl, (fun hw _ => absurd (hwf.symm.trans hw) (by decide)), .inr ⟨hwf, h⟩⟩
    ·exact h.elim
structure Chain (E : Env) (W : Nat → Prop) (E' : Env) : Prop where
 later : Later E E'
 evo : Evo W E.w E'.w
theorem Chain.refl (E : Env) (W : Nat → Prop) : Chain E W E := ⟨Later.refl E, Evo.refl _ _⟩
theorem wr_back {Z : Nat → Prop} {E E' : Env} {H H' : Heap} {nx nx' : Nat} (h : HeapRep Z E H nx) (L : Later E E') (h' : HeapRep Z E' H' nx') : ∀ b, b < E.w.heap.size → Wr E'.ρ H' b → Wr E.ρ H b := by
 rintro b hb ⟨id, cs, h1, h2⟩
 have hv : E.V b := L.V b hb ((h'.V b).2 (.inr ⟨id, cs, h1, h2⟩))
 rcases (h.V b).1 hv with hz | hw
 ·exact absurd hz (h'.apart id b (by rw [h1]; simp) h2)
 ·exact hw
theorem Chain.next {Z : Nat → Prop} {E E' E'' : Env} {H H' : Heap} {nx nx' : Nat} (h : HeapRep Z E H nx) (c : Chain E (Wr E.ρ H) E') (h' : HeapRep Z E' H' nx') (L : Later E' E'') (ev : Evo (Wr E'.ρ H') E'.w E''.w) :
  Chain E (Wr E.ρ H) E'' :=
 ⟨c.later.trans L, c.evo.trans ev fun b hb hw => wr_back h c.later h' b hb hw⟩
def RegPost (Z : Nat → Prop) (E : Env) (H : Heap) (K : St → Prop) (e : Exit) (a : Act) (w : World) : Prop :=
 ∃ st' E', e = .normal ∧ K st' ∧ Sim Z E' st' a ∧ E'.w = w ∧ Chain E (Wr E.ρ H) E'
theorem opsP_sound {P : Program} {T : Types} (hT : TOK P T) {M : FuncId → List Mode} {ops : Array Oper} {Z : Nat → Prop} {E : Env} {H : Heap} {nx : Nat} (h0 : HeapRep Z E H nx) {K : St → Prop} :
  ∀ (l : List Oper) (st : St) (E1 : Env) (a : Act), Sim Z E1 st a → Chain E (Wr E.ρ H) E1 → opsP P T M ops l st K → wpList P ops (RegPost Z E H K) l a E1.w
 | [], st, E1, a, S, c, h => by
  unfold wpList
  exact ⟨st, E1, rfl, h, S, rfl, c⟩
 | o :: r, st, E1, a, S, c, h => by
  unfold opsP at h
  obtain ⟨st1, S1, e1, e2, hh⟩ := step_cases S h
  unfold wpList
  rcases hh with ⟨hw, hr⟩ | ⟨hw, hs⟩
  ·rw [if_pos hw]
   left
   rw [runP_eq] at hr
   refine opP_sound hT S1 hr _ _ fun x H' nx' E' v hk A => ?_
   obtain ⟨st', hk', S'⟩ := after_sim S1 A hk
   exact opsP_sound hT h0 r st' E' _ S' (c.next h0 S1.heap A.later A.evo) hk'
  ·rw [if_neg (by simp [hw])]
   obtain ⟨st', hk', S'⟩ := skip_sim S1 hs
   exact opsP_sound hT h0 r st' E1 _ S' c hk'
inductive Plan where
 | done
 | take (i : Nat) (p : Plan)
 | all (ps : List (Nat × Plan))
mutual
def planOk (T : Types) (x : Bool) (ops : Array Oper) : Nat → Array Bool → Plan → Bool
 | fuel, listed, .done => (Region.ready .any ops listed).isEmpty
 | 0, _, .take _ _ => false
 | fuel + 1, listed, .take i p => match ops[i]? with
  | some o => (Region.ready .any ops listed).contains i && Region.free .any ops listed i && (pureOp T o.op || isLoad o.op) && planOk T x ops fuel (listed.setIfInBounds i true) p
  | none => false
 | 0, _, .all _ => false
 | fuel + 1, listed, .all ps => !x && !ps.isEmpty && (Region.ready .any ops listed == ps.map (·.1)) && planOks T x ops fuel listed ps
def planOks (T : Types) (x : Bool) (ops : Array Oper) : Nat → Array Bool → List (Nat × Plan) → Bool
 | _, _, [] => true
 | fuel, listed, (i, p) :: r => planOk T x ops fuel (listed.setIfInBounds i true) p && planOks T x ops fuel listed r
end
mutual
def planP (P : Program) (T : Types) (M : FuncId → List Mode) (x : Bool) (ops : Array Oper) : Plan → St → (St → Prop) → Prop
 | .done, st, K => K st
 | .take i p, st, K => match ops[i]? with
  | some o => cond (isLoad o.op && !x) (takeOk ops o st = true ∧ stepP P T M ops o st fun st' => planP P T M x ops p st' K) (stepP P T M ops o st fun st' => planP P T M x ops p st' K)
  | none => False
 | .all ps, st, K => plansP P T M x ops ps st K
def plansP (P : Program) (T : Types) (M : FuncId → List Mode) (x : Bool) (ops : Array Oper) : List (Nat × Plan) → St → (St → Prop) → Prop
 | [], _, _ => True
 | (i, p) :: r, st, K => match ops[i]? with
  | some o => match r with
   | [] => stepP P T M ops o st fun st' => planP P T M x ops p st' K
   | _ :: _ => (stepP P T M ops o st fun st' => planP P T M x ops p st' K) ∧ plansP P T M x ops r st K
  | none => False
end
end
section

theorem wpAnyH_mono {P : Program} {md : Region.Mode} {ops : Array Oper} {Q : Exit → Act → World → Prop} {S S' : World → Prop} (hS : ∀ w, S w → S' w) :
  ∀ (fuel : Nat) (listed : Array Bool) (a : Act) (w : World), wpAnyH P md ops Q S fuel listed a w → wpAnyH P md ops Q S' fuel listed a w
 | 0, _, _, _, h => h
 | fuel + 1, _, _, _, h => ⟨h.1, fun i hi => wpOp_mono (fun a' w' h' => ⟨hS _ h'.1, wpAnyH_mono hS fuel _ a' w' h'.2⟩) (h.2 i hi)⟩
def Sw (x : Bool) (E : Env) (w : World) : Prop := ∃ E', E'.w = w ∧ Later E E' ∧ (x = true → w.heap = E.w.heap)
theorem Sw.refl (x : Bool) (E : Env) : Sw x E E.w := ⟨E, rfl, Later.refl E, fun _ => rfl⟩
theorem yields_of {P : Program} {T : Types} (hT : TOK P T) {M : FuncId → List Mode} {x : Bool} {ops : Array Oper} {Z : Nat → Prop} {E : Env} {st : St} {a : Act} (S : Sim Z E st a) {o : Oper} {K : St → Prop}
  (hw : Region.wanted o (yielded ops a.tmps) = true) (hk : pureOp T o.op = true ∨ (isLoad o.op = true ∧ (x = false → roLoad st o.op = true))) (h : runP P T M o st K) :
  ∃ v st', YieldsIf P ops (Sw x E) o v a ∧ K st' ∧ Sim Z E st' (a.put o.dst v) := by
 rw [runP_eq] at h
 rcases hk with hp | ⟨hl, hro⟩
 ·obtain ⟨y, v, h1, h2, h3⟩ := opP_yields hT S hp h
  obtain ⟨st', k1, k2⟩ := after_sim S (After.pure S.heap h2) h1
  exact ⟨v, st', .inl ⟨hw, fun w _ => h3 w⟩, k1, k2⟩
 ·unfold isLoad at hl
  split at hl
  ·rename_i t A ho
   rw [ho] at h
   simp only [opP, force_eq] at h
   obtain ⟨y, v, b, h1, h2, h3, h4⟩ := loadP_at (P := P) hT S.heap (rep_evalO S A) h
   obtain ⟨st', k1, k2⟩ := after_sim S (After.pure S.heap h2) h1
   refine ⟨v, st', .inl ⟨hw, fun w hs => ?_⟩, k1, k2⟩
   obtain ⟨E', rfl, L, hx⟩ := hs
   simp only [execOp, ho]
   refine vrun (h3 _ ?_)
   cases x with
   | true => rw [hx rfl]
   | false =>
    have hr := hro rfl
    unfold roLoad at hr
    rw [ho] at hr
    simp only at hr
    split at hr
    ·rename_i c cs hA
     obtain ⟨k3, k4⟩ := h4 c cs hA
     exact L.same b k4 k3
    ·cases hr
  ·cases hl
mutual
theorem planP_sound {P : Program} {T : Types} (hT : TOK P T) {M : FuncId → List Mode} {x : Bool} {ops : Array Oper} (hns : Region.noSelect ops = true) {Z : Nat → Prop} {E : Env} {H : Heap} {nx : Nat} (h0 : HeapRep Z E H nx) {K : St → Prop} :
  ∀ (p : Plan) (fuel : Nat) (listed : Array Bool) (st : St) (E1 : Env) (a : Act), Sim Z E1 st a → Chain E (Wr E.ρ H) E1 → planOk T x ops fuel listed p = true → planP P T M x ops p st K →
   wpAnyH P .any ops (RegPost Z E H K) (Sw x E1) fuel listed a E1.w
 | .done, fuel, listed, st, E1, a, S, c, hok, h => by
  unfold planOk at hok
  unfold planP at h
  exact wpAnyH_done (List.isEmpty_iff.1 hok) ⟨st, E1, rfl, h, S, rfl, c⟩ fuel
 | .take i p, 0, listed, st, E1, a, S, c, hok, h => by simp [planOk] at hok
 | .take i p, fuel + 1, listed, st, E1, a, S, c, hok, h => by
  unfold planOk at hok
  unfold planP at h
  split at hok
  case h_2 => cases hok
  rename_i o ho
  rw [ho] at h
  dsimp only at h
  simp only [Bool.and_eq_true, Bool.or_eq_true] at hok
  obtain ⟨⟨⟨hr, hf⟩, hk⟩, hok⟩ := hok
  have hro : isLoad o.op = true → x = false → takeOk ops o st = true := by
   intro h1 h2
   rw [h1, h2] at h
   exact h.1
  have h : stepP P T M ops o st fun st' => planP P T M x ops p st' K := by
   cases hc : isLoad o.op && !x with
   | true => rw [hc] at h; exact h.2
   | false => rw [hc] at h; exact h
  obtain ⟨st1, S1, e1, e2, hh⟩ := step_cases S h
  have hQ : ∀ (v : Value) c a w, RegPost Z E H K (.panic c) (Act.put a o.dst v) w → RegPost Z E H K (.panic c) a w := by
   rintro v c a w ⟨_, _, he, _⟩
   cases he
  rcases hh with ⟨hw, hrun⟩ | ⟨hw, hs⟩
  ·have hk' : pureOp T o.op = true ∨ (isLoad o.op = true ∧ (x = false → roLoad st1 o.op = true)) := by
    rcases hk with hk | hl
    ·exact .inl hk
    ·exact .inr ⟨hl, fun hx => e2 hw (hro hl hx)⟩
   obtain ⟨v, st', hy, k1, k2⟩ := yields_of hT S1 hw hk' hrun
   exact wpAnyH_take ho hns hf hr (hQ v) hy (Sw.refl _ _) (planP_sound hT hns h0 p fuel _ st' E1 _ k2 c hok k1)
  ·obtain ⟨st', k1, k2⟩ := skip_sim S1 hs
   exact wpAnyH_take ho hns hf hr (hQ undef) (.inr ⟨hw, rfl⟩) (Sw.refl _ _) (planP_sound hT hns h0 p fuel _ st' E1 _ k2 c hok k1)
 | .all ps, 0, listed, st, E1, a, S, c, hok, h => by simp [planOk] at hok
 | .all ps, fuel + 1, listed, st, E1, a, S, c, hok, h => by
  unfold planOk at hok
  unfold planP at h
  simp only [Bool.and_eq_true, Bool.not_eq_true'] at hok
  obtain ⟨⟨⟨hx, hne⟩, hr⟩, hok⟩ := hok
  have hr' : Region.ready .any ops listed = ps.map (·.1) := by simpa using hr
  refine wpAnyH_all hr' (by intro he; simp at he; simp [he] at hne) fun i hi => ?_
  exact plansP_sound hT hns h0 ps fuel listed st E1 a S c hx hok h i hi
theorem plansP_sound {P : Program} {T : Types} (hT : TOK P T) {M : FuncId → List Mode} {x : Bool} {ops : Array Oper} (hns : Region.noSelect ops = true) {Z : Nat → Prop} {E : Env} {H : Heap} {nx : Nat} (h0 : HeapRep Z E H nx) {K : St → Prop} :
  ∀ (ps : List (Nat × Plan)) (fuel : Nat) (listed : Array Bool) (st : St) (E1 : Env) (a : Act), Sim Z E1 st a → Chain E (Wr E.ρ H) E1 → x = false → planOks T x ops fuel listed ps = true → plansP P T M x ops ps st K →
   ∀ i ∈ ps.map (·.1), wpOp P ops (RegPost Z E H K) i (fun a' w' => Sw x E1 w' ∧ wpAnyH P .any ops (RegPost Z E H K) (Sw x E1) fuel (listed.setIfInBounds i true) a' w') a E1.w
 | [], fuel, listed, st, E1, a, S, c, hx, hok, h => by simp
 | (j, p) :: r, fuel, listed, st, E1, a, S, c, hx, hok, h => by
  unfold planOks at hok
  unfold plansP at h
  simp only [Bool.and_eq_true] at hok
  obtain ⟨hok, hoks⟩ := hok
  split at h
  case h_2 => exact h.elim
  rename_i o ho
  have hone : stepP P T M ops o st (fun st' => planP P T M x ops p st' K) ∧ plansP P T M x ops r st K := by
   cases r with
   | nil => exact ⟨h, by simp [plansP]⟩
   | cons _ _ => exact h
  obtain ⟨hstep, hrest⟩ := hone
  intro i hi
  rcases List.mem_cons.1 (by simpa using hi : i ∈ j :: r.map (·.1)) with rfl | hi
  ·obtain ⟨st1, S1, e1, e2, hh⟩ := step_cases S hstep
   unfold wpOp
   simp only [ho]
   rcases hh with ⟨hw, hr⟩ | ⟨hw, hs⟩
   ·rw [if_pos hw]
    left
    rw [runP_eq] at hr
    refine opP_sound hT S1 hr _ _ fun y H' nx' E' v hk A => ?_
    obtain ⟨st', hk', S'⟩ := after_sim S1 A hk
    subst hx
    refine ⟨⟨E', rfl, A.later, nofun⟩, wpAnyH_mono (S := Sw false E') ?_ _ _ _ _ (planP_sound hT hns h0 p fuel _ st' E' _ S' (c.next h0 S1.heap A.later A.evo) hok hk')⟩
    rintro w ⟨E2, rfl, L2, _⟩
    exact ⟨E2, rfl, A.later.trans L2, nofun⟩
   ·rw [if_neg (by simp [hw])]
    obtain ⟨st', hk', S'⟩ := skip_sim S1 hs
    exact ⟨Sw.refl _ _, planP_sound hT hns h0 p fuel _ st' E1 _ S' c hok hk'⟩
  ·exact plansP_sound hT hns h0 r fuel listed st E1 a S c hx hoks hrest i hi
end
def planFits (T : Types) (x : Bool) (ops : Array Oper) (p : Plan) : Bool := Region.noSelect ops && planOk T x ops ops.size (Array.replicate ops.size false) p
theorem draw_sound {P : Program} {T : Types} (hT : TOK P T) (hm : P.follows .mixedOrders = true) {M : FuncId → List Mode} {x : Bool} {id : Nat} {ops : Array Oper} {p : Plan} (hp : planFits T x ops p = true)
  {Z : Nat → Prop} {E : Env} {st : St} {a : Act} (S : Sim Z E st a) {K : St → Prop} (h : planP P T M x ops p st K) :
  (Code.region id ops true).wp P (RegPost Z E st.heap K) a E.w := by
 simp only [planFits, Bool.and_eq_true] at hp
 refine wp_region_held (S := Sw x (E.drawn (E.w.drawn + 1))) hm ?_
 exact planP_sound hT hp.1 S.heap p _ _ st (E.drawn (E.w.drawn + 1)) a (S.drawn _) ⟨later_drawn _ _, Evo.drawn _ _ _⟩ hp.2 h
theorem text_sound {P : Program} {T : Types} (hT : TOK P T) {M : FuncId → List Mode} {id : Nat} {ops : Array Oper}
  {Z : Nat → Prop} {E : Env} {st : St} {a : Act} (S : Sim Z E st a) {K : St → Prop} (h : opsP P T M ops ops.toList st K) :
  (Code.region id ops false).wp P (RegPost Z E st.heap K) a E.w :=
 wp_region_list (opsP_sound hT S.heap ops.toList st E a S (Chain.refl _ _) h)
end
end Go.Proofs.Ytbkclacjamlebaa.Abs
