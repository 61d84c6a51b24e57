/- Texts FM2 to EQ, merged. -/
import Derived.Test.YthnhpkpbjaelnaaDoorR11
set_option linter.unusedVariables false
set_option linter.unusedSimpArgs false
namespace Go.Proofs.YthnhpkpbjaelnaaDoor.Abs
open Go
section

def Nn (l : List Tok) : Prop := ∀ t ∈ l, Norm t ∧ 0 ≤ t.n
theorem nn_tail {t : Tok} {q : List Tok} (h : Nn (t :: q)) : Nn q := fun s hs => h s (List.mem_cons_of_mem _ hs)
theorem good1 {k : Int} {r : Rw} (h : (rNext k r).2.bad = false) : r.bad = false := by
 obtain ⟨t, q, e, _⟩ := rNext_inv h
 rw [e]
theorem goodA {m : Nat} {r : Rw} (h : (rArr m r).2.bad = false) : r.bad = false := by
 obtain ⟨t, q, e, _⟩ := rArr_inv h
 rw [e]
theorem num_inv {k : Int} (hk : k ≠ 3 ∧ k ≠ 4) {l : List Tok} (hn : Nn l) (h : (rNext k ⟨l, false⟩).2.bad = false) : ∃ n q, 0 ≤ n ∧ l = ⟨k, n, []⟩ :: q ∧ rNext k ⟨l, false⟩ = (⟨k, n, []⟩, ⟨q, false⟩) ∧ Nn q := by
 obtain ⟨t, q, e, hk', hx⟩ := rNext_inv h
 injection e with e _
 subst e
 have N := hn t List.mem_cons_self
 have := tok_eq' N.1 (by omega)
 rw [hk'] at this
 refine ⟨t.n, q, N.2, by rw [← this], ?_, nn_tail hn⟩
 rw [hx, ← this]
theorem str_inv {l : List Tok} (hn : Nn l) (h : (rNext 3 ⟨l, false⟩).2.bad = false) : ∃ b q, l = ⟨3, 0, b⟩ :: q ∧ rNext 3 ⟨l, false⟩ = (⟨3, 0, b⟩, ⟨q, false⟩) ∧ Nn q := by
 obtain ⟨t, q, e, hk', hx⟩ := rNext_inv h
 injection e with e _
 subst e
 have N := hn t List.mem_cons_self
 have := tok_eq N.1 (by omega)
 rw [hk'] at this
 refine ⟨t.b, q, by rw [← this], ?_, nn_tail hn⟩
 rw [hx, ← this]
theorem arr_inv {m : Nat} {l : List Tok} (hn : Nn l) (h : (rArr m ⟨l, false⟩).2.bad = false) : ∃ b q, b.length = m ∧ l = ⟨3, 0, b⟩ :: q ∧ rArr m ⟨l, false⟩ = (b, ⟨q, false⟩) ∧ Nn q := by
 obtain ⟨t, q, e, hk', hm, hx⟩ := rArr_inv h
 injection e with e _
 subst e
 have N := hn t List.mem_cons_self
 have := tok_eq N.1 (by omega)
 rw [hk'] at this
 refine ⟨t.b, q, hm, by rw [← this], ?_, nn_tail hn⟩
 rw [hx]
theorem rNext_lit (k n : Int) (b : List Int) (q : List Tok) : rNext k ⟨⟨k, n, b⟩ :: q, false⟩ = (⟨k, n, b⟩, ⟨q, false⟩) := rNext_cons rfl
theorem rdHd_eq (r : Rw) : rdHd r = (⟨(rArr 32 r).1, (rNext 1 (rArr 32 r).2).1.n, (rArr 32 (rNext 1 (rArr 32 r).2).2).1, decide ((rNext 1 (rArr 32 (rNext 1 (rArr 32 r).2).2).2).1.n = 1)⟩,
  ⟨(rNext 1 (rArr 32 (rNext 1 (rArr 32 r).2).2).2).2.l, (rNext 1 (rArr 32 (rNext 1 (rArr 32 r).2).2).2).2.bad || decide (1 < (rNext 1 (rArr 32 (rNext 1 (rArr 32 r).2).2).2).1.n)⟩) := rfl
theorem bitR_is (b : Bool) : decide (bitR b = 1) = b := by cases b <;> decide
theorem rdHd_cons (h : Hd) (h1 : h.au.length = 32) (h2 : h.id.length = 32) (q : List Tok) : rdHd ⟨⟨3, 0, h.au⟩ :: ⟨1, h.len, []⟩ :: ⟨3, 0, h.id⟩ :: ⟨1, bitR h.shut, []⟩ :: q, false⟩ = (h, ⟨q, false⟩) := by
 rw [rdHd_eq, rArr_cons rfl h1]; dsimp only
 rw [rNext_lit]; dsimp only
 rw [rArr_cons rfl h2]; dsimp only
 rw [rNext_lit]; dsimp only
 rw [bitR_is]
 have : ¬ 1 < bitR h.shut := by unfold bitR; split <;> omega
 simp [this]
theorem rdHd_inv {l : List Tok} (hn : Nn l) (h : (rdHd ⟨l, false⟩).2.bad = false) : ∃ x q, (x.au.length = 32 ∧ x.id.length = 32) ∧ l = ⟨3, 0, x.au⟩ :: ⟨1, x.len, []⟩ :: ⟨3, 0, x.id⟩ :: ⟨1, bitR x.shut, []⟩ :: q ∧ rdHd ⟨l, false⟩ = (x, ⟨q, false⟩) ∧ Nn q := by
 rw [rdHd_eq] at h
 simp only [Bool.or_eq_false_iff, decide_eq_false_iff_not] at h
 obtain ⟨g4, gs⟩ := h
 have g3 := good1 g4
 have g2 := goodA g3
 have g1 := good1 g2
 obtain ⟨au, q1, m1, rfl, e1, n1⟩ := arr_inv hn g1
 rw [e1] at g2 g3 g4 gs
 dsimp only at g2 g3 g4 gs
 obtain ⟨n, q2, m2, rfl, e2, n2⟩ := num_inv (by omega) n1 g2
 rw [e2] at g3 g4 gs
 dsimp only at g3 g4 gs
 obtain ⟨id, q3, m3, rfl, e3, n3⟩ := arr_inv n2 g3
 rw [e3] at g4 gs
 dsimp only at g4 gs
 obtain ⟨s, q4, m4, rfl, e4, n4⟩ := num_inv (by omega) n3 g4
 rw [e4] at gs
 dsimp only at gs
 have hb : bitR (decide (s = 1)) = s := by
  unfold bitR
  by_cases c : s = 1
  ·rw [if_pos (by simpa using c)]; omega
  ·rw [if_neg (by simpa using c)]; omega
 refine ⟨⟨au, n, id, decide (s = 1)⟩, q4, ⟨m1, m3⟩, by rw [hb], ?_, n4⟩
 have := rdHd_cons ⟨au, n, id, decide (s = 1)⟩ m1 m3 q4
 rw [hb] at this
 exact this
theorem frLoop_hds : ∀ (l acc : List Hd) (q : List Tok), (∀ h ∈ l, h.au.length = 32 ∧ h.id.length = 32) → frLoop l.length ⟨hdsT l ++ q, false⟩ acc = (acc ++ l, ⟨q, false⟩)
 | [], acc, q, _ => by simp [frLoop, hdsT]
 | h :: r, acc, q, H => by
  have h0 := H h List.mem_cons_self
  rw [List.length_cons, frLoop_s, if_neg (by simp)]
  have e : hdsT (h :: r) ++ q = ⟨5, 4, []⟩ :: ⟨3, 0, h.au⟩ :: ⟨1, h.len, []⟩ :: ⟨3, 0, h.id⟩ :: ⟨1, bitR h.shut, []⟩ :: (hdsT r ++ q) := by simp [hdsT, hdT]
  rw [e, rNext_lit]
  dsimp only
  rw [if_neg (by simp), rdHd_cons h h0.1 h0.2]
  dsimp only
  rw [frLoop_hds r (acc ++ [h]) q fun x hx => H x (List.mem_cons_of_mem _ hx)]
  simp
theorem frLoop_good : ∀ (k : Nat) (r : Rw) (acc : List Hd), (frLoop k r acc).2.bad = false → r.bad = false
 | 0, r, acc, h => h
 | k + 1, r, acc, h => by
  rw [frLoop_s] at h
  cases hb : r.bad
  ·rfl
  ·rw [if_pos hb] at h
   dsimp only at h
   rw [hb] at h; cases h
theorem frLoop_inv' : ∀ (k : Nat) (l : List Tok) (acc : List Hd), Nn l → (frLoop k ⟨l, false⟩ acc).2.bad = false → ∃ hs q, hs.length = k ∧ l = hdsT hs ++ q ∧ frLoop k ⟨l, false⟩ acc = (acc ++ hs, ⟨q, false⟩) ∧ Nn q
 | 0, l, acc, hn, h => ⟨[], l, rfl, rfl, by rw [List.append_nil]; rfl, hn⟩
 | k + 1, l, acc, hn, h => by
  rw [frLoop_s, if_neg (by simp)] at h
  split at h
  ·cases h
  rename_i c
  have g2 := frLoop_good k _ _ h
  have g2' : (rdHd (rNext 5 ⟨l, false⟩).2).2.bad = false := g2
  have g1 : (rNext 5 ⟨l, false⟩).2.bad = false := by
   rw [rdHd_eq] at g2'
   simp only [Bool.or_eq_false_iff] at g2'
   exact goodA (good1 (goodA (good1 g2'.1)))
  obtain ⟨n, q1, m1, rfl, e1, n1⟩ := num_inv (by omega) hn g1
  rw [e1] at c h g2'
  dsimp only at c h g2'
  obtain ⟨x, q2, m2, rfl, e2, n2⟩ := rdHd_inv n1 g2'
  rw [e2] at h
  dsimp only at h
  obtain ⟨hs, q3, m3, rfl, e3, n3⟩ := frLoop_inv' k _ _ n2 h
  have c' : n = 4 := Classical.not_not.1 c
  subst c'
  refine ⟨x :: hs, q3, by simp [m3], by simp [hdsT, hdT], ?_, n3⟩
  rw [frLoop_s, if_neg (by simp), e1]
  dsimp only
  rw [if_neg (by simp), e2]
  dsimp only
  rw [e3]
  simp
theorem anLoop_strs {α : Type} {rd : List Int → α × Int} {f : α → List Int} : ∀ (l acc : List α) (q : List Tok), (∀ p ∈ l, rd (f p) = (p, 0)) → anLoop rd l.length ⟨(l.map fun p => ⟨3, 0, f p⟩) ++ q, false⟩ acc = (acc ++ l, ⟨q, false⟩)
 | [], acc, q, _ => by simp [anLoop]
 | p :: r, acc, q, H => by
  have h0 := H p List.mem_cons_self
  rw [List.length_cons, anLoop_s, if_neg (by simp), List.map_cons, List.cons_append, rNext_lit]
  dsimp only
  rw [h0]
  have := anLoop_strs (rd := rd) (f := f) r (acc ++ [p]) q fun x hx => H x (List.mem_cons_of_mem _ hx)
  simpa using this
theorem anLoop_good {α : Type} {rd : List Int → α × Int} : ∀ (k : Nat) (r : Rw) (acc : List α), (anLoop rd k r acc).2.bad = false → r.bad = false
 | 0, r, acc, h => h
 | k + 1, r, acc, h => by
  rw [anLoop_s] at h
  cases hb : r.bad
  ·rfl
  ·rw [if_pos hb] at h
   dsimp only at h
   rw [hb] at h; cases h
theorem anLoop_inv' {α : Type} {rd : List Int → α × Int} {f : α → List Int} (hrd : ∀ b, (rd b).2 = 0 → f (rd b).1 = b) : ∀ (k : Nat) (l : List Tok) (acc : List α), Nn l → (anLoop rd k ⟨l, false⟩ acc).2.bad = false →
  ∃ ps q, ps.length = k ∧ l = (ps.map fun p => ⟨3, 0, f p⟩) ++ q ∧ anLoop rd k ⟨l, false⟩ acc = (acc ++ ps, ⟨q, false⟩) ∧ Nn q
 | 0, l, acc, hn, h => ⟨[], l, rfl, rfl, by rw [List.append_nil]; rfl, hn⟩
 | k + 1, l, acc, hn, h => by
  rw [anLoop_s, if_neg (by simp)] at h
  have g2 := anLoop_good k _ _ h
  dsimp only at g2
  simp only [Bool.or_eq_false_iff, decide_eq_false_iff_not] at g2
  obtain ⟨g1, g3⟩ := g2
  obtain ⟨b, q1, rfl, e1, n1⟩ := str_inv hn g1
  rw [e1] at h g3
  dsimp only at h g3
  have g3 : (rd b).2 = 0 := Classical.not_not.1 g3
  rw [g3] at h
  simp only [Bool.false_or, ne_eq, not_true_eq_false, decide_false] at h
  obtain ⟨ps, q2, m2, rfl, e2, n2⟩ := anLoop_inv' hrd k _ _ n1 h
  refine ⟨(rd b).1 :: ps, q2, by simp [m2], by simp [hrd b g3], ?_, n2⟩
  rw [anLoop_s, if_neg (by simp), e1]
  dsimp only
  rw [g3]
  simp only [Bool.false_or, ne_eq, not_true_eq_false, decide_false]
  rw [e2]
  simp
theorem rdM_eq (r : Rw) : rdM r = if (rNext 5 r).1.n = 4 ∧ (rNext 1 (rNext 5 r).2).1.n = 3 then rdFin (rdFr (rNext 1 (rNext 5 r).2).2) else if (rNext 5 r).1.n = 5 ∧ (rNext 1 (rNext 5 r).2).1.n = 4 then rdFin (rdAn (rNext 1 (rNext 5 r).2).2) else (msg0, 3) := rfl
theorem rdFr_eq (r : Rw) : rdFr r = (⟨1, (rNext 1 r).1.n, (rNext 1 (rNext 1 r).2).1.n, (frLoop (rNext 5 (rNext 1 (rNext 1 r).2).2).1.n.toNat (rNext 5 (rNext 1 (rNext 1 r).2).2).2 []).1, [], []⟩, (frLoop (rNext 5 (rNext 1 (rNext 1 r).2).2).1.n.toNat (rNext 5 (rNext 1 (rNext 1 r).2).2).2 []).2) := rfl
theorem rdAn_eq (r : Rw) : rdAn r = (⟨2, (rNext 1 r).1.n, (rNext 1 (rNext 1 r).2).1.n, [], (anLoop rdPrf (rNext 5 (rNext 1 (rNext 1 r).2).2).1.n.toNat (rNext 5 (rNext 1 (rNext 1 r).2).2).2 []).1,
   (anLoop rdEnt (rNext 5 (anLoop rdPrf (rNext 5 (rNext 1 (rNext 1 r).2).2).1.n.toNat (rNext 5 (rNext 1 (rNext 1 r).2).2).2 []).2).1.n.toNat (rNext 5 (anLoop rdPrf (rNext 5 (rNext 1 (rNext 1 r).2).2).1.n.toNat (rNext 5 (rNext 1 (rNext 1 r).2).2).2 []).2).2 []).1⟩,
   (anLoop rdEnt (rNext 5 (anLoop rdPrf (rNext 5 (rNext 1 (rNext 1 r).2).2).1.n.toNat (rNext 5 (rNext 1 (rNext 1 r).2).2).2 []).2).1.n.toNat (rNext 5 (anLoop rdPrf (rNext 5 (rNext 1 (rNext 1 r).2).2).1.n.toNat (rNext 5 (rNext 1 (rNext 1 r).2).2).2 []).2).2 []).2) := rfl
theorem rdFin_or (q : Msg × Rw) : rdFin q = (msg0, 3) ∨ (rdFin q = (q.1, 0) ∧ q.2 = ⟨[], false⟩ ∧ msgR q.1 = true) := by
 unfold rdFin
 split
 ·rename_i c
  split
  ·rename_i d
   refine .inr ⟨rfl, ?_, d⟩
   simp only [Bool.and_eq_true, Bool.not_eq_true', decide_eq_true_eq] at c
   obtain ⟨m, l, b⟩ := q
   dsimp only at c ⊢
   rw [c.1, c.2]
  ·exact .inl rfl
 ·exact .inl rfl
theorem rdFin_yes {m : Msg} (h : msgR m = true) : rdFin (m, ⟨[], false⟩) = (m, 0) := by
 unfold rdFin
 rw [if_pos (by simp), if_pos h]
theorem rdM_or (r : Rw) : rdM r = (msg0, 3) ∨ (rdM r).2 = 0 := by
 rw [rdM_eq]
 split
 ·rcases rdFin_or (rdFr (rNext 1 (rNext 5 r).2).2) with h | h
  ·exact .inl h
  ·exact .inr (by rw [h.1])
 split
 ·rcases rdFin_or (rdAn (rNext 1 (rNext 5 r).2).2) with h | h
  ·exact .inl h
  ·exact .inr (by rw [h.1])
 ·exact .inl rfl
theorem rdMsg_or (b : List Int) : rdMsg b = (msg0, 3) ∨ (rdMsg b).2 = 0 := rdM_or _
theorem rdM_inv {l : List Tok} {bad : Bool} (hn : Nn l) (h : (rdM ⟨l, bad⟩).2 = 0) : bad = false ∧ l = msgT (rdM ⟨l, bad⟩).1 ∧ msgR (rdM ⟨l, bad⟩).1 = true := by
 rw [rdM_eq] at h ⊢
 split
 ·rename_i c
  rw [if_pos c] at h
  rcases rdFin_or (rdFr (rNext 1 (rNext 5 ⟨l, bad⟩).2).2) with e | ⟨e, e2, e3⟩
  ·rw [e] at h; cases h
  rw [e]
  dsimp only
  refine ⟨?_, ?_, e3⟩
  ·rw [rdFr_eq] at e2
   have g := frLoop_good _ _ _ (by rw [e2])
   exact good1 (good1 (good1 (good1 (good1 g))))
  ·have g : (rdFr (rNext 1 (rNext 5 ⟨l, bad⟩).2).2).2.bad = false := by rw [e2]
   rw [rdFr_eq] at g
   have g5 := frLoop_good _ _ _ g
   have g4 := good1 g5
   have g3 := good1 g4
   have g2 := good1 g3
   have g1 := good1 g2
   have g0 := good1 g1
   dsimp only at g0
   subst g0
   obtain ⟨a1, q1, m1, rfl, x1, n1⟩ := num_inv (by omega) hn g1
   rw [x1] at c e2 g g2 g3 g4 g5 ⊢
   dsimp only at c e2 g g2 g3 g4 g5 ⊢
   obtain ⟨a2, q2, m2, rfl, x2, n2⟩ := num_inv (by omega) n1 g2
   rw [x2] at c e2 g g3 g4 g5 ⊢
   dsimp only at c e2 g g3 g4 g5 ⊢
   rw [rdFr_eq] at e2 ⊢
   obtain ⟨a3, q3, m3, rfl, x3, n3⟩ := num_inv (by omega) n2 g3
   rw [x3] at e2 g g4 g5 ⊢
   dsimp only at e2 g g4 g5 ⊢
   obtain ⟨a4, q4, m4, rfl, x4, n4⟩ := num_inv (by omega) n3 g4
   rw [x4] at e2 g g5 ⊢
   dsimp only at e2 g g5 ⊢
   obtain ⟨a5, q5, m5, rfl, x5, n5⟩ := num_inv (by omega) n4 g5
   rw [x5] at e2 g ⊢
   dsimp only at e2 g ⊢
   obtain ⟨hs, q6, m6, rfl, x6, n6⟩ := frLoop_inv' _ _ _ n5 g
   rw [x6] at e2 ⊢
   dsimp only at e2 ⊢
   injection e2 with e2 _
   subst e2
   obtain ⟨rfl, rfl⟩ := c
   have : (hs.length : Int) = a5 := by omega
   unfold msgT
   rw [if_pos rfl]
   simp [frT, this]
 ·rename_i c0
  rw [if_neg c0] at h
  clear c0
  split
  ·rename_i c
   rw [if_pos c] at h
   rcases rdFin_or (rdAn (rNext 1 (rNext 5 ⟨l, bad⟩).2).2) with e | ⟨e, e2, e3⟩
   ·rw [e] at h; cases h
   rw [e]
   dsimp only
   refine ⟨?_, ?_, e3⟩
   ·rw [rdAn_eq] at e2
    have g := anLoop_good _ _ _ (by rw [e2])
    have g := anLoop_good _ _ _ (good1 g)
    exact good1 (good1 (good1 (good1 (good1 g))))
   ·have g : (rdAn (rNext 1 (rNext 5 ⟨l, bad⟩).2).2).2.bad = false := by rw [e2]
    rw [rdAn_eq] at g
    have g7 := anLoop_good _ _ _ g
    have g6 := good1 g7
    have g5 := anLoop_good _ _ _ g6
    have g4 := good1 g5
    have g3 := good1 g4
    have g2 := good1 g3
    have g1 := good1 g2
    have g0 := good1 g1
    dsimp only at g0
    subst g0
    obtain ⟨a1, q1, m1, rfl, x1, n1⟩ := num_inv (by omega) hn g1
    rw [x1] at c e2 g g2 g3 g4 g5 g6 g7 ⊢
    dsimp only at c e2 g g2 g3 g4 g5 g6 g7 ⊢
    obtain ⟨a2, q2, m2, rfl, x2, n2⟩ := num_inv (by omega) n1 g2
    rw [x2] at c e2 g g3 g4 g5 g6 g7 ⊢
    dsimp only at c e2 g g3 g4 g5 g6 g7 ⊢
    rw [rdAn_eq] at e2 ⊢
    obtain ⟨a3, q3, m3, rfl, x3, n3⟩ := num_inv (by omega) n2 g3
    rw [x3] at e2 g g4 g5 g6 g7 ⊢
    dsimp only at e2 g g4 g5 g6 g7 ⊢
    obtain ⟨a4, q4, m4, rfl, x4, n4⟩ := num_inv (by omega) n3 g4
    rw [x4] at e2 g g5 g6 g7 ⊢
    dsimp only at e2 g g5 g6 g7 ⊢
    obtain ⟨a5, q5, m5, rfl, x5, n5⟩ := num_inv (by omega) n4 g5
    rw [x5] at e2 g g6 g7 ⊢
    dsimp only at e2 g g6 g7 ⊢
    obtain ⟨ps, q6, m6, rfl, x6, n6⟩ := anLoop_inv' (f := fun p => (prfB p).1) (fun b hb => by rw [(rdPrf_inv hb).1]) _ _ _ n5 g6
    rw [x6] at e2 g g7 ⊢
    dsimp only at e2 g g7 ⊢
    obtain ⟨a7, q7, m7, rfl, x7, n7⟩ := num_inv (by omega) n6 g7
    rw [x7] at e2 g ⊢
    dsimp only at e2 g ⊢
    obtain ⟨es, q8, m8, rfl, x8, n8⟩ := anLoop_inv' (f := fun p => (entB p).1) (fun b hb => by rw [entB_read hb]) _ _ _ n7 g
    rw [x8] at e2 ⊢
    dsimp only at e2 ⊢
    injection e2 with e2 _
    subst e2
    obtain ⟨rfl, rfl⟩ := c
    have y1 : (ps.length : Int) = a5 := by omega
    have y2 : (es.length : Int) = a7 := by omega
    unfold msgT
    rw [if_neg (by simp)]
    simp [anT, prT, enT, y1, y2]
  ·rename_i c
   rw [if_neg c] at h
   cases h
theorem rdMsg_inv {b : List Int} (hb : Byt b) (h : (rdMsg b).2 = 0) : msgR (rdMsg b).1 = true ∧ encR validR (msgT (rdMsg b).1) = (b, 0) := by
 have N1 := rOpen_norm b
 have N2 := rOpen_nn b hb
 have G := rOpen_good (b := b)
 unfold rdMsg at h ⊢
 generalize hr : rOpen b = r at h N1 N2 G ⊢
 obtain ⟨l, bad⟩ := r
 have i := rdM_inv (fun t ht => ⟨N1 t ht, N2 t ht⟩) h
 refine ⟨i.2.2, ?_⟩
 rw [← i.2.1]
 exact (G i.1).1
theorem msgT_toks {m : Msg} (hm : MsgS m) : ToksOk (msgT m) := by
 unfold msgT
 split
 ·exact fun t ht => (fr_tokB hm t ht).1
 ·exact fun t ht => (an_tokB hm t ht).1
theorem rdMsg_enc {m : Msg} (hm : MsgS m) (hr : msgR m = true) {a : List Int} (h : encR validR (msgT m) = (a, 0)) : rdMsg a = (m, 0) := by
 unfold rdMsg
 rw [rOpen_enc (msgT_toks hm) h]
 obtain ⟨_, _, _, h3⟩ := msgR_facts hr
 unfold msgT
 rcases h3 with ⟨k, hh, h4, h5⟩ | ⟨k, h4, hl, hp, he⟩
 ·rw [if_pos k]
  obtain ⟨kind, frm, to, hs, ps, es⟩ := m
  dsimp only at k h4 h5
  subst k h4 h5
  have e : frT ⟨1, frm, to, hs, [], []⟩ ++ hdsT hs = ⟨5, 4, []⟩ :: ⟨1, 3, []⟩ :: ⟨1, frm, []⟩ :: ⟨1, to, []⟩ :: ⟨5, hs.length, []⟩ :: (hdsT hs ++ []) := by simp [frT]
  rw [rdM_eq]
  dsimp only
  rw [e, rNext_lit]; dsimp only
  rw [rNext_lit]; dsimp only
  rw [if_pos (by simp), rdFr_eq, rNext_lit]; dsimp only
  rw [rNext_lit]; dsimp only
  rw [rNext_lit]; dsimp only
  rw [Int.toNat_natCast, frLoop_hds hs [] [] fun h hx => ⟨(hm.hs h hx).au.2, (hm.hs h hx).id.2⟩]
  exact rdFin_yes hr
 ·rw [if_neg (by omega)]
  obtain ⟨kind, frm, to, hs, ps, es⟩ := m
  dsimp only at k h4 hp he
  subst k h4
  have e : anT ⟨2, frm, to, [], ps, es⟩ ++ prT ps ++ [⟨5, es.length, []⟩] ++ enT es = ⟨5, 5, []⟩ :: ⟨1, 4, []⟩ :: ⟨1, frm, []⟩ :: ⟨1, to, []⟩ :: ⟨5, ps.length, []⟩ :: (prT ps ++ (⟨5, es.length, []⟩ :: (enT es ++ []))) := by simp [anT]
  rw [rdM_eq]
  dsimp only
  rw [e, rNext_lit]; dsimp only
  rw [rNext_lit]; dsimp only
  rw [if_neg (by simp), if_pos (by simp), rdAn_eq, rNext_lit]; dsimp only
  rw [rNext_lit]; dsimp only
  rw [rNext_lit]; dsimp only
  have ep := anLoop_strs (rd := rdPrf) (f := fun p => (prfB p).1) ps [] (⟨5, es.length, []⟩ :: (enT es ++ [])) fun p hx => rdPrf_bytes (hm.ps p hx) (by rw [prfB_yes (hm.ps p hx) (hp p hx)])
  have ee := anLoop_strs (rd := rdEnt) (f := fun p => (entB p).1) es [] [] fun p hx => rdEnt_bytes (hm.es p hx) (by rw [entB_yes (hm.es p hx) (he p hx)])
  change anLoop rdPrf ps.length ⟨prT ps ++ _, false⟩ [] = _ at ep
  change anLoop rdEnt es.length ⟨enT es ++ _, false⟩ [] = _ at ee
  rw [Int.toNat_natCast, ep]
  dsimp only
  rw [rNext_lit]; dsimp only
  rw [Int.toNat_natCast, ee]
  exact rdFin_yes hr
theorem rdMsg_bytes {m : Msg} (hm : MsgS m) (h : (msgB m).2 = 0) : msgR m = true ∧ rdMsg (msgB m).1 = (m, 0) := by
 have e := msgB_err hm
 rw [h] at e
 have hr : msgR m = true := by rw [← e]; rfl
 refine ⟨hr, ?_⟩
 obtain ⟨a, ha⟩ := msgB_yes hm hr
 unfold msgB
 rw [if_pos hr, ha]
 exact rdMsg_enc hm hr ha
theorem msgB_toks {m : Msg} (h : (msgB m).2 = 0) : msgR m = true ∧ encR validR (msgT m) = ((msgB m).1, 0) := by
 unfold msgB at h ⊢
 split at h
 ·rename_i c
  rw [if_pos c]
  exact ⟨c, Prod.ext rfl h⟩
 ·cases h
theorem rdMsg_no {b : List Int} (h : decR validR b = ([], 3)) : rdMsg b = (msg0, 3) := by
 unfold rdMsg rOpen
 rw [h]
 rfl
end
section

theorem roOf_own {E' : Env} {Z : Nat → Prop} {len esz : Nat} {cs : List AV} {u : Value} {Y : List Nat} (hV : ∀ b, Z b → E'.V b) (hZ : ∀ b ∈ Y, ¬ Z b) (h : RepB E' (.own len esz cs) u Y) :
  RepB ⟨E'.η, E'.ρ, Z, E'.w⟩ (.ro len cs) u [] := by
 simp only [RepB] at h ⊢
 obtain ⟨hp, a, cap, rfl, hl, hc⟩ := h
 refine ⟨by simpa [pureV] using hp, ?_, trivial⟩
 simp only [RepV]
 refine ⟨a, cap, rfl, hl, ?_⟩
 rcases hc with ⟨_, hcs, _⟩ | ⟨n, c, e, fr, rfl, rfl, hh, _, _, hcl, hr⟩
 ·exact .inl hcs
 ·refine .inr ⟨n, 0, rfl, hZ n (by simp), ?_⟩
  refine repM_of_get _ _ _ fun j x hx => ?_
  have hr' := pureL_rep (E := E') (E' := ⟨E'.η, E'.ρ, Z, E'.w⟩) ⟨rfl, rfl⟩ hV cs _ hp hr
  obtain ⟨u, hu, hru⟩ := repL_get _ _ hr' j x hx
  have hj : j < cs.length := by
   rcases Nat.lt_or_ge j cs.length with h' | h'
   ·exact h'
   ·rw [List.getElem?_eq_none h'] at hx; cases hx
  rw [List.getElem?_take_of_lt hj, Array.getElem?_toList] at hu
  exact ⟨u, by simp [World.cell?, hh, hu], hru⟩
theorem ACall.roRes {P : Program} {f : FuncId} {args : List AV} {len esz : Nat} {cs : List AV} (h : ACall P f args (.own len esz cs) []) : ACall P f args (.ro len cs) [] := by
 refine ⟨h.1, fun Z E vals X hh hr hn hz => ?_⟩
 refine (h.2 Z E vals X hh hr hn hz).mono ?_
 rintro e w' ⟨v, E', Xr, he, hw, hη, hev, hV, hB, hnd, hX⟩
 refine ⟨v, ⟨E'.η, E'.ρ, Z, E'.w⟩, [], he, hw, hη, hev, fun b => by simp, ?_, List.nodup_nil, fun b hb => absurd hb (List.not_mem_nil)⟩
 simp only [List.nil_append, RepBL] at hB ⊢
 obtain ⟨u, us, Y, Y', e1, e2, h1, h2, h3⟩ := hB
 refine ⟨u, us, [], [], e1, rfl, ?_, h2, rfl⟩
 exact roOf_own (fun b hb => (hV b).2 (.inl hb)) (fun b hb => (hX b (by rw [e2]; exact List.mem_append_left _ hb)).1) h1
theorem ACall.roRes2 {P : Program} {f : FuncId} {args : List AV} {len esz : Nat} {cs : List AV} {y : AV} (hy : (∃ k n, y = .int k n) ∨ ∃ b, y = .bool b) (h : ACall P f args (.tuple [.own len esz cs, y]) []) : ACall P f args (.tuple [.ro len cs, y]) [] := by
 refine ⟨h.1, fun Z E vals X hh hr hn hz => ?_⟩
 refine (h.2 Z E vals X hh hr hn hz).mono ?_
 rintro e w' ⟨v, E', Xr, he, hw, hη, hev, hV, hB, hnd, hX⟩
 refine ⟨v, ⟨E'.η, E'.ρ, Z, E'.w⟩, [], he, hw, hη, hev, fun b => by simp, ?_, List.nodup_nil, fun b hb => absurd hb (List.not_mem_nil)⟩
 simp only [List.nil_append, RepBL] at hB ⊢
 obtain ⟨u, us, Y, Y', e1, e2, h1, h2, h3⟩ := hB
 refine ⟨u, us, [], [], e1, rfl, ?_, h2, rfl⟩
 simp only [RepB, RepBL] at h1 ⊢
 obtain ⟨vs, rfl, u1, us1, Y1, Y2, f1, f2, k1, u2, us2, Y3, Y4, f3, f4, k2, k3, k4⟩ := h1
 refine ⟨vs, rfl, u1, us1, [], [], f1, rfl, ?_, u2, us2, [], [], f3, rfl, ?_, k3, rfl⟩
 ·exact roOf_own (fun b hb => (hV b).2 (.inl hb)) (fun b hb => (hX b (by rw [e2, f2]; exact List.mem_append_left _ (List.mem_append_left _ hb))).1) k1
 ·rcases hy with ⟨k, n, rfl⟩ | ⟨b, rfl⟩
  ·simp only [RepB, pureV, RepV] at k2 ⊢
   exact ⟨trivial, k2.2.1, trivial⟩
  ·simp only [RepB, pureV, RepV] at k2 ⊢
   exact ⟨trivial, k2.2.1, trivial⟩
end
section
--KR
attribute [local irreducible] ifB fitP Does Weaker
def MK : FuncId → List Mode := orElse [(103, [.rd, .rd]), (82, [.rd, .rd]), (81, [.rd, .rd]), (39, [.rd, .rd]), (38, [.rd, .rd]), (37, [.rd, .rd]), (17, [.rd, .rd]), (16, [.rd, .rd]), (27, [.rd, .rd]),
 (73, [.rd]), (34, [.rd]), (33, [.rd]), (13, [.rd])] MW
def opEq (a b : Ent) : Bool := decide (a.kind = b.kind) && decide (a.key = b.key) && decide (a.val = b.val)
theorem kop_ok (a b : Ent) (ha : EntS a) : ACall Tryd.prog 103 [.agg (opC a), .agg (opC b)] (.bool (opEq a b)) [] := by
 have h := bytes_ok a.val b.val (by have := ha.val'; omega)
 unfold opEq
 refine ACall.of_does TTok Tryd.func103 rfl Tryd.call103 rfl (wpc_sound (M := MK) (PL := PL0) (CU := noCut) TTok mixed _ _ _ ?_)
 by_cases c1 : a.kind = b.kind
 ·rw [dt c1]
  by_cases c2 : a.key = b.key
  ·rw [dt c2]
   conv => whnf
   repeat ((first | refine ifB_t ?_ | (refine ifB_pos (decide_eq_true (by first | omega | rfl | (dsimp only; omega))) ?_) | refine ⟨pureL_bys _, ?_⟩ | refine ⟨rfl, ?_⟩ | refine ⟨_, rfl, ?_⟩); conv => whnf)
   refine ⟨_, _, h, by first | rfl | simp [noRoIf, noRoL, noRoV, noRoL_bys], ?_⟩
   conv => whnf
   repeat ((first | refine ifB_t ?_ | refine ⟨rfl, ?_⟩); conv => whnf)
   rfl
  ·rw [df c2]
   conv => whnf
   repeat ((first | refine ifB_t ?_ | refine ifB_f ?_ | (refine ifB_neg (decide_eq_false (by first | omega | rfl | (dsimp only; omega))) ?_) | (refine ifB_pos (decide_eq_true (by first | omega | rfl | (dsimp only; omega))) ?_) | refine ⟨rfl, ?_⟩ | refine ⟨_, rfl, ?_⟩); conv => whnf)
   rfl
 ·rw [df c1]
  conv => whnf
  repeat ((first | refine ifB_f ?_ | (refine ifB_neg (decide_eq_false (by first | omega | rfl | (dsimp only; omega))) ?_) | refine ⟨rfl, ?_⟩ | refine ⟨_, rfl, ?_⟩); conv => whnf)
  rfl
theorem ent_eq (a b : Ent) : decide (a = b) = (decide (a.au = b.au) && decide (a.seq = b.seq) && decide (a.prev = b.prev) && decide (a.stamp = b.stamp) && opEq a b && decide (a.sig = b.sig)) := by
 unfold opEq
 obtain ⟨a1, a2, a3, a4, a5, a6, a7, a8⟩ := a
 obtain ⟨b1, b2, b3, b4, b5, b6, b7, b8⟩ := b
 rw [Bool.eq_iff_iff]
 simp only [Bool.and_eq_true, decide_eq_true_eq, Ent.mk.injEq]
 constructor
 ·rintro ⟨rfl, rfl, rfl, rfl, rfl, rfl, rfl, rfl⟩; simp
 ·rintro ⟨⟨⟨⟨⟨rfl, rfl⟩, rfl⟩, rfl⟩, ⟨⟨rfl, rfl⟩, rfl⟩⟩, rfl⟩; simp
set_option maxRecDepth 20000 in
set_option maxHeartbeats 4000000 in
theorem kent_ok (a b : Ent) (ha : EntS a) (hb : EntS b) : ACall Tryd.prog 82 [.agg (entC a), .agg (entC b)] (.bool (decide (a = b))) [] := by
 have h := kop_ok a b ha
 rw [ent_eq]
 refine ACall.of_does TTok Tryd.func82 rfl Tryd.call82 rfl (wpc_sound (M := MK) (PL := PL0) (CU := cutAt [100001]) TTok mixed _ _ _ ?_)
 conv => whnf
 repeat ((refine ⟨rfl, ?_⟩); conv => whnf)
 refine Does.freeze 0 rfl (Does.freeze 1 (zs := entC b) (by show some (frzL 0 _ (entC b)) = _; rw [entC_frz]) (Does.tidy [(2, .rop (entC a)), (3, .rop (entC b))] [] 2 45 rfl rfl rfl (by kernel_rfl) (by kernel_rfl) ?_))
 refine wpc_sound (M := MK) (PL := PL0) (CU := noCut) TTok mixed _ _ _ ?_
 conv => whnf
 repeat ((refine ⟨_, rfl, ?_⟩); conv => whnf)
 refine ⟨a.au, b.au, ⟨rfl, c32_map ha.au.2, c32_map hb.au.2, ha.au.2, hb.au.2⟩, ?_⟩
 conv => whnf
 by_cases c1 : a.au = b.au
 ·rw [dt c1]
  conv => whnf
  repeat ((first | refine ifB_t ?_ | refine ⟨_, rfl, ?_⟩); conv => whnf)
  by_cases c2 : a.seq = b.seq
  ·rw [dt c2]
   conv => whnf
   repeat ((first | refine ifB_t ?_ | refine ⟨_, rfl, ?_⟩); conv => whnf)
   refine ⟨a.prev, b.prev, ⟨rfl, c32_map ha.prev.2, c32_map hb.prev.2, ha.prev.2, hb.prev.2⟩, ?_⟩
   conv => whnf
   repeat ((refine ifB_t ?_); conv => whnf)
   by_cases c3 : a.prev = b.prev
   ·rw [dt c3]
    conv => whnf
    repeat ((first | refine ifB_t ?_ | refine ⟨_, rfl, ?_⟩); conv => whnf)
    by_cases c4 : a.stamp = b.stamp
    ·rw [dt c4]
     conv => whnf
     repeat ((first | refine ifB_t ?_ | refine ⟨entC_pure _, ?_⟩ | refine ⟨rfl, ?_⟩ | refine ⟨_, rfl, ?_⟩); conv => whnf)
     cases c5 : opEq a b <;> rw [c5] at h
     ·refine ⟨_, _, h, by first | rfl | simp [noRoIf, noRoL, noRoV, noRoL_bys], ?_⟩
      conv => whnf
      repeat ((first | refine ifB_t ?_ | refine ifB_f ?_ | refine ⟨rfl, ?_⟩); conv => whnf)
      rfl
     ·refine ⟨_, _, h, by first | rfl | simp [noRoIf, noRoL, noRoV, noRoL_bys], ?_⟩
      conv => whnf
      repeat ((first | refine ifB_t ?_ | refine ⟨_, rfl, ?_⟩); conv => whnf)
      refine ⟨a.sig, b.sig, ⟨rfl, c64_map ha.sig.2, c64_map hb.sig.2, ha.sig.2, hb.sig.2⟩, ?_⟩
      conv => whnf
      repeat ((first | refine ifB_t ?_ | refine ⟨rfl, ?_⟩); conv => whnf)
      rfl
    ·rw [df c4]
     conv => whnf
     repeat ((first | refine ifB_f ?_ | refine ⟨rfl, ?_⟩); conv => whnf)
     rfl
   ·rw [df c3]
    conv => whnf
    repeat ((first | refine ifB_f ?_ | refine ⟨rfl, ?_⟩); conv => whnf)
    rfl
  ·rw [df c2]
   conv => whnf
   repeat ((first | refine ifB_f ?_ | refine ⟨rfl, ?_⟩); conv => whnf)
   rfl
 ·rw [df c1]
  conv => whnf
  repeat ((first | refine ifB_f ?_ | refine ⟨rfl, ?_⟩); conv => whnf)
  rfl
end
section
--KR
attribute [local irreducible] ifB fitP Does Weaker
set_option maxRecDepth 20000 in
set_option maxHeartbeats 4000000 in
theorem kprf_ok (a b : Prf) (ha : PrfS a) (hb : PrfS b) : ACall Tryd.prog 81 [.agg (prfC a), .agg (prfC b)] (.bool (decide (a = b))) [] := by
 have h1 := kent_ok a.a b.a ha.a hb.a
 have h2 := kent_ok a.b b.b ha.b hb.b
 have e : decide (a = b) = (decide (a.a = b.a) && decide (a.b = b.b)) := by
  obtain ⟨x, y⟩ := a
  obtain ⟨z, w⟩ := b
  rw [Bool.eq_iff_iff]
  simp
 rw [e]
 refine ACall.of_does TTok Tryd.func81 rfl Tryd.call81 rfl (wpc_sound (M := MK) (PL := PL0) (CU := cutAt [100001]) TTok mixed _ _ _ ?_)
 conv => whnf
 repeat ((refine ⟨rfl, ?_⟩); conv => whnf)
 refine Does.tidy [(2, .ptr 0 0), (3, .ptr 1 0)] [(0, prfC a), (1, prfC b)] 2 17 rfl rfl rfl (by kernel_rfl) (by kernel_rfl) ?_
 refine wpc_sound (M := MK) (PL := PL0) (CU := noCut) TTok mixed _ _ _ ?_
 by_cases c1 : a.a = b.a
 ·rw [dt c1] at h1 ⊢
  conv => whnf
  repeat ((first | refine ⟨entC_pure _, ?_⟩ | refine ⟨rfl, ?_⟩ | refine ⟨_, rfl, ?_⟩); conv => whnf)
  refine ⟨_, _, h1, by first | rfl | simp [noRoIf, noRoL, noRoV, noRoL_bys], ?_⟩
  conv => whnf
  repeat ((first | refine ifB_t ?_ | refine ⟨entC_pure _, ?_⟩ | refine ⟨rfl, ?_⟩ | refine ⟨_, rfl, ?_⟩); conv => whnf)
  refine ⟨_, _, h2, by first | rfl | simp [noRoIf, noRoL, noRoV, noRoL_bys], ?_⟩
  conv => whnf
  repeat ((first | refine ifB_t ?_ | refine ⟨rfl, ?_⟩); conv => whnf)
  rfl
 ·rw [df c1] at h1 ⊢
  conv => whnf
  repeat ((first | refine ⟨entC_pure _, ?_⟩ | refine ⟨rfl, ?_⟩ | refine ⟨_, rfl, ?_⟩); conv => whnf)
  refine ⟨_, _, h1, by first | rfl | simp [noRoIf, noRoL, noRoV, noRoL_bys], ?_⟩
  conv => whnf
  repeat ((first | refine ifB_f ?_ | refine ⟨rfl, ?_⟩); conv => whnf)
  rfl
theorem takeOk_row {α : Type} {f : α → List AV} {n : Nat} (hf : ∀ x, (f x).length = n) (hn : 0 < n) {l : List α} {j m : Nat} (h : j < l.length) (hm : m = n * j) {ops : Array Oper} {st : St} {dst : Option Tmp} {ty : TypeId} {pos : String} {af : Array Edge} {t : TypeId} {a : Operand} (he : evalO st.env a = .rop (List.drop m (rowsC f l))) : takeOk ops ⟨dst, .load t a, ty, pos, af, none⟩ st = true := by
 show roLoad st (.load t a) = true
 have hl : 0 < (List.drop m (rowsC f l)).length := by rw [rowsC_at hf h hm, List.length_append, hf]; omega
 simp only [roLoad, he]
 generalize List.drop m (rowsC f l) = cs at hl
 cases cs with
 | nil => simp at hl
 | cons x r => rfl
theorem list_all_eq {α : Type} [DecidableEq α] (d : α) {x y : List α} (hl : x.length = y.length) (h : ∀ j, j < x.length → x.getD j d = y.getD j d) : x = y := by
 refine List.ext_getElem hl fun j h1 h2 => ?_
 have := h j h1
 rwa [List.getD_eq_getElem?_getD, List.getD_eq_getElem?_getD, List.getElem?_eq_getElem h1, List.getElem?_eq_getElem h2] at this
def PLkl : Nat → Bool × Plan := plans [(6, (false, takesTo [0, 1, 2, 3, 4, 5, 6, 7] (.all [(8, takes [9])])))]
set_option maxHeartbeats 1000000 in
theorem kents_ok (x y : List Ent) (hx : ∀ e ∈ x, EntS e) (hy : ∀ e ∈ y, EntS e) (lx : x.length ≤ 1000000000) (ly : y.length ≤ 1000000000) : ACall Tryd.prog 39 [.ro x.length (rowsC entC x), .ro y.length (rowsC entC y)] (.bool (decide (x = y))) [] := by
 refine ACall.of_does TTok Tryd.func39 rfl Tryd.call39 rfl (wpc_sound (M := MK) (PL := PLkl) (CU := noCut) TTok mixed _ _ _ ?_)
 by_cases c0 : x.length = y.length
 case neg =>
  rw [df (show ¬ x = y from fun e => c0 (by rw [e]))]
  conv => whnf
  repeat ((first | (refine ifB_pos (decide_eq_true (by first | omega | rfl | (dsimp only; omega))) ?_) | refine ⟨rfl, ?_⟩); conv => whnf)
  rfl
 conv => whnf
 repeat ((refine ifB_neg (decide_eq_false (by first | omega | rfl | (dsimp only; omega))) ?_); conv => whnf)
 refine Does.loop (fun c : Nat => mkSt [(0, .ro x.length (rowsC entC x)), (1, .ro y.length (rowsC entC y)), (5, .int .i64 c)] [] 0 27)
  (fun c => c ≤ x.length ∧ ∀ j, j < c → x.getD j ent0 = y.getD j ent0) (fun c => x.length - c) ?_ 0 ⟨Nat.zero_le _, fun j h => by omega⟩ ?_
 ·rintro c ⟨hc, hj⟩
  rcases Nat.lt_or_ge c x.length with c1 | c1
  ·have c2 : c < y.length := by omega
   have h := kent_ok x[c] y[c] (hx _ (List.getElem_mem c1)) (hy _ (List.getElem_mem c2))
   have hd : x.getD c ent0 = x[c] ∧ y.getD c ent0 = y[c] := by
    rw [List.getD_eq_getElem?_getD, List.getD_eq_getElem?_getD, List.getElem?_eq_getElem c1, List.getElem?_eq_getElem c2]; exact ⟨rfl, rfl⟩
   refine wpc_sound (M := MK) (PL := PLkl) (CU := noCut) TTok mixed _ _ _ ?_
   conv => whnf
   repeat ((refine ifB_pos (decide_eq_true (by first | omega | rfl | (dsimp only; omega))) ?_); conv => whnf)
   refine ⟨by kernel_rfl, ?_⟩
   conv => whnf
   repeat ((refine ⟨⟨?_, ?_, ?_⟩, ?_⟩; (focus omega); (focus (first | omega | (simp; done) | (simp; omega))); (focus (first | (rw [prfs_len]; simp; omega) | (rw [ents_len]; simp; omega) | (rw [hds_len]; simp; omega) | (rw [lets_len]; simp; omega)))); conv => whnf)
   conv => whnf
   repeat' (first | (refine ⟨entC_pure _, ?_⟩; (conv => whnf)) | (refine ⟨rfl, ?_⟩; (conv => whnf)) | (refine ⟨⟨?_, ?_, ?_⟩, ?_⟩; (focus omega); (focus (first | omega | (simp; done) | (simp; omega))); (focus (first | (rw [prfs_len]; simp; omega) | (rw [ents_len]; simp; omega) | (rw [hds_len]; simp; omega) | (rw [lets_len]; simp; omega))); (conv => whnf)) | (refine ⟨_, takeN_row entC_length c1 (by simp; omega) rfl, ?_⟩; conv => whnf) | (refine ⟨_, takeN_row entC_length c2 (by simp; omega) rfl, ?_⟩; conv => whnf) | (refine ⟨takeOk_row entC_length (by decide) c1 (by simp; omega) rfl, ?_⟩; conv => whnf) | (refine ⟨takeOk_row entC_length (by decide) c2 (by simp; omega) rfl, ?_⟩; conv => whnf) | (refine ⟨entC_pure _, ?_⟩; conv => whnf) | (refine ⟨_, rfl, ?_⟩; conv => whnf) | (refine And.intro ?_ ?_ <;> conv => whnf))
   by_cases c3 : x[c] = y[c]
   ·rw [dt c3] at h
    refine ⟨_, _, h, by first | rfl | simp [noRoIf, noRoL, noRoV, noRoL_bys], ?_⟩
    conv => whnf
    repeat ((first | refine ifB_f ?_ | (refine fit_i64 ⟨by first | omega | rfl | (dsimp only; omega), by first | omega | rfl | (dsimp only; omega)⟩ ?_)); conv => whnf)
    refine ⟨c + 1, ⟨by omega, fun j hj' => ?_⟩, by omega, weaker_of [] rfl rfl ⟨⟨rfl, rfl, ents_pure _⟩, ⟨rfl, rfl, ents_pure _⟩, ⟨rfl, rfl⟩, trivial⟩ trivial⟩
    rcases Nat.lt_or_ge j c with k | k
    ·exact hj j k
    ·obtain rfl : j = c := by omega
     rw [hd.1, hd.2, c3]
   ·rw [df c3] at h
    have : x ≠ y := fun e => by subst e; exact c3 rfl
    rw [df this]
    refine ⟨_, _, h, by first | rfl | simp [noRoIf, noRoL, noRoV, noRoL_bys], ?_⟩
    conv => whnf
    repeat ((first | refine ifB_t ?_ | refine ⟨rfl, ?_⟩); conv => whnf)
    rfl
  ·obtain rfl : c = x.length := by omega
   rw [dt (list_all_eq ent0 c0 hj)]
   refine wpc_sound (M := MK) (PL := PLkl) (CU := noCut) TTok mixed _ _ _ ?_
   conv => whnf
   repeat ((first | (refine ifB_neg (decide_eq_false (by first | omega | rfl | (dsimp only; omega))) ?_) | refine ⟨rfl, ?_⟩); conv => whnf)
   rfl
 ·exact weaker_of [] rfl rfl ⟨⟨rfl, rfl, ents_pure _⟩, ⟨rfl, rfl, ents_pure _⟩, ⟨rfl, rfl⟩, trivial⟩ trivial
set_option maxRecDepth 20000 in
set_option maxHeartbeats 2000000 in
theorem kprfs_ok (x y : List Prf) (hx : ∀ e ∈ x, PrfS e) (hy : ∀ e ∈ y, PrfS e) (lx : x.length ≤ 1000000000) (ly : y.length ≤ 1000000000) : ACall Tryd.prog 38 [.ro x.length (rowsC prfC x), .ro y.length (rowsC prfC y)] (.bool (decide (x = y))) [] := by
 refine ACall.of_does TTok Tryd.func38 rfl Tryd.call38 rfl (wpc_sound (M := MK) (PL := PLkl) (CU := noCut) TTok mixed _ _ _ ?_)
 by_cases c0 : x.length = y.length
 case neg =>
  rw [df (show ¬ x = y from fun e => c0 (by rw [e]))]
  conv => whnf
  repeat ((first | (refine ifB_pos (decide_eq_true (by first | omega | rfl | (dsimp only; omega))) ?_) | refine ⟨rfl, ?_⟩); conv => whnf)
  rfl
 conv => whnf
 repeat ((refine ifB_neg (decide_eq_false (by first | omega | rfl | (dsimp only; omega))) ?_); conv => whnf)
 refine Does.loop (fun c : Nat => mkSt [(0, .ro x.length (rowsC prfC x)), (1, .ro y.length (rowsC prfC y)), (5, .int .i64 c)] [] 0 27)
  (fun c => c ≤ x.length ∧ ∀ j, j < c → x.getD j prf0 = y.getD j prf0) (fun c => x.length - c) ?_ 0 ⟨Nat.zero_le _, fun j h => by omega⟩ ?_
 ·rintro c ⟨hc, hj⟩
  rcases Nat.lt_or_ge c x.length with c1 | c1
  ·have c2 : c < y.length := by omega
   have h := kprf_ok x[c] y[c] (hx _ (List.getElem_mem c1)) (hy _ (List.getElem_mem c2))
   have hd : x.getD c prf0 = x[c] ∧ y.getD c prf0 = y[c] := by
    rw [List.getD_eq_getElem?_getD, List.getD_eq_getElem?_getD, List.getElem?_eq_getElem c1, List.getElem?_eq_getElem c2]; exact ⟨rfl, rfl⟩
   refine wpc_sound (M := MK) (PL := PLkl) (CU := noCut) TTok mixed _ _ _ ?_
   conv => whnf
   repeat ((refine ifB_pos (decide_eq_true (by first | omega | rfl | (dsimp only; omega))) ?_); conv => whnf)
   refine ⟨by kernel_rfl, ?_⟩
   conv => whnf
   repeat ((refine ⟨⟨?_, ?_, ?_⟩, ?_⟩; (focus omega); (focus (first | omega | (simp; done) | (simp; omega))); (focus (first | (rw [prfs_len]; simp; omega) | (rw [ents_len]; simp; omega) | (rw [hds_len]; simp; omega) | (rw [lets_len]; simp; omega)))); conv => whnf)
   conv => whnf
   repeat' (first | (refine ⟨rfl, ?_⟩; (conv => whnf)) | (refine ⟨⟨?_, ?_, ?_⟩, ?_⟩; (focus omega); (focus (first | omega | (simp; done) | (simp; omega))); (focus (first | (rw [prfs_len]; simp; omega) | (rw [ents_len]; simp; omega) | (rw [hds_len]; simp; omega) | (rw [lets_len]; simp; omega))); (conv => whnf)) | (refine ⟨(show pureL _ = true from by first | exact prfC_pure _ | exact hdC_pure _ | exact msgC_pure _ | exact letC_pure _), ?_⟩; (conv => whnf)) | (refine ⟨_, takeN_row prfC_length c1 (by simp; omega) rfl, ?_⟩; conv => whnf) | (refine ⟨_, takeN_row prfC_length c2 (by simp; omega) rfl, ?_⟩; conv => whnf) | (refine ⟨takeOk_row prfC_length (by decide) c1 (by simp; omega) rfl, ?_⟩; conv => whnf) | (refine ⟨takeOk_row prfC_length (by decide) c2 (by simp; omega) rfl, ?_⟩; conv => whnf) | (refine ⟨prfC_pure _, ?_⟩; conv => whnf) | (refine ⟨_, rfl, ?_⟩; conv => whnf) | (refine And.intro ?_ ?_ <;> conv => whnf))
   by_cases c3 : x[c] = y[c]
   ·rw [dt c3] at h
    refine ⟨_, _, h, by first | rfl | simp [noRoIf, noRoL, noRoV, noRoL_bys], ?_⟩
    conv => whnf
    repeat ((first | refine ifB_f ?_ | (refine fit_i64 ⟨by first | omega | rfl | (dsimp only; omega), by first | omega | rfl | (dsimp only; omega)⟩ ?_)); conv => whnf)
    refine ⟨c + 1, ⟨by omega, fun j hj' => ?_⟩, by omega, weaker_of [] rfl rfl ⟨⟨rfl, rfl, prfs_pure _⟩, ⟨rfl, rfl, prfs_pure _⟩, ⟨rfl, rfl⟩, trivial⟩ trivial⟩
    rcases Nat.lt_or_ge j c with k | k
    ·exact hj j k
    ·obtain rfl : j = c := by omega
     rw [hd.1, hd.2, c3]
   ·rw [df c3] at h
    have : x ≠ y := fun e => by subst e; exact c3 rfl
    rw [df this]
    refine ⟨_, _, h, by first | rfl | simp [noRoIf, noRoL, noRoV, noRoL_bys], ?_⟩
    conv => whnf
    repeat ((first | refine ifB_t ?_ | refine ⟨rfl, ?_⟩); conv => whnf)
    rfl
  ·obtain rfl : c = x.length := by omega
   rw [dt (list_all_eq prf0 c0 hj)]
   refine wpc_sound (M := MK) (PL := PLkl) (CU := noCut) TTok mixed _ _ _ ?_
   conv => whnf
   repeat ((first | (refine ifB_neg (decide_eq_false (by first | omega | rfl | (dsimp only; omega))) ?_) | refine ⟨rfl, ?_⟩); conv => whnf)
   rfl
 ·exact weaker_of [] rfl rfl ⟨⟨rfl, rfl, prfs_pure _⟩, ⟨rfl, rfl, prfs_pure _⟩, ⟨rfl, rfl⟩, trivial⟩ trivial
end
section
--KR
attribute [local irreducible] ifB fitP Does Weaker
theorem hd_id {l : List Hd} {j m s : Nat} (h : j < l.length) (hm : m = 66 * j) (hs : s = 32) : takeN s (List.drop 33 (List.drop m (rowsC hdC l))) = some (c32 l[j].id []) := by
 rw [rowsC_at hdC_length h hm, hs]; rfl
theorem hd_len {l : List Hd} {j m : Nat} (h : j < l.length) (hm : m = 66 * j) : (List.drop 32 (List.drop m (rowsC hdC l)))[0]? = some (.int .i64 l[j].len) := by
 rw [rowsC_at hdC_length h hm]; rfl
theorem hd_shut {l : List Hd} {j m : Nat} (h : j < l.length) (hm : m = 66 * j) : (List.drop 65 (List.drop m (rowsC hdC l)))[0]? = some (.bool l[j].shut) := by
 rw [rowsC_at hdC_length h hm]; rfl
theorem hd_eq (a b : Hd) : decide (a = b) = (decide (a.au = b.au) && decide (a.len = b.len) && decide (a.id = b.id) && (a.shut == b.shut)) := by
 obtain ⟨a1, a2, a3, a4⟩ := a
 obtain ⟨b1, b2, b3, b4⟩ := b
 rw [Bool.eq_iff_iff]
 simp [and_assoc]
def PLkh : Nat → Bool × Plan := plans [(6, (true, takes [0, 1, 2, 3, 4, 5, 6, 7, 8, 9, 10, 11, 12, 13, 14, 15, 16, 17, 18, 19, 20, 21, 22, 23, 24, 25, 26, 27, 28, 29, 30, 31, 32, 33, 34, 35, 36, 37, 38, 39, 40, 41, 42, 43, 44, 45, 46, 47, 48, 49]))]
set_option maxHeartbeats 4000000 in
theorem kheads_ok (x y : List Hd) (hx : ∀ e ∈ x, HdS e) (hy : ∀ e ∈ y, HdS e) (lx : x.length ≤ 1000000000) (ly : y.length ≤ 1000000000) : ACall Tryd.prog 37 [.ro x.length (rowsC hdC x), .ro y.length (rowsC hdC y)] (.bool (decide (x = y))) [] := by
 refine ACall.of_does TTok Tryd.func37 rfl Tryd.call37 rfl (wpc_sound (M := MK) (PL := PLkh) (CU := noCut) TTok mixed _ _ _ ?_)
 by_cases c0 : x.length = y.length
 case neg =>
  rw [df (show ¬ x = y from fun e => c0 (by rw [e]))]
  conv => whnf
  repeat ((first | (refine ifB_pos (decide_eq_true (by first | omega | rfl | (dsimp only; omega))) ?_) | refine ⟨rfl, ?_⟩); conv => whnf)
  rfl
 conv => whnf
 repeat ((refine ifB_neg (decide_eq_false (by first | omega | rfl | (dsimp only; omega))) ?_); conv => whnf)
 refine Does.loop (fun c : Nat => mkSt [(0, .ro x.length (rowsC hdC x)), (1, .ro y.length (rowsC hdC y)), (5, .int .i64 c)] [] 0 67)
  (fun c => c ≤ x.length ∧ ∀ j, j < c → x.getD j hd0 = y.getD j hd0) (fun c => x.length - c) ?_ 0 ⟨Nat.zero_le _, fun j h => by omega⟩ ?_
 ·rintro c ⟨hc, hj⟩
  rcases Nat.lt_or_ge c x.length with c1 | c1
  ·have c2 : c < y.length := by omega
   have hd : x.getD c hd0 = x[c] ∧ y.getD c hd0 = y[c] := by
    rw [List.getD_eq_getElem?_getD, List.getD_eq_getElem?_getD, List.getElem?_eq_getElem c1, List.getElem?_eq_getElem c2]; exact ⟨rfl, rfl⟩
   have e := hd_eq x[c] y[c]
   have hx1 := hx _ (List.getElem_mem c1)
   have hy1 := hy _ (List.getElem_mem c2)
   have g1 : ∀ m, m = 66 * c → takeN 32 (List.drop 0 (List.drop m (rowsC hdC x))) = some (c32 x[c].au []) := fun m hm => hd_au c1 hm rfl
   have g2 : ∀ m, m = 66 * c → takeN 32 (List.drop 0 (List.drop m (rowsC hdC y))) = some (c32 y[c].au []) := fun m hm => hd_au c2 hm rfl
   have g3 : ∀ m, m = 66 * c → (List.drop 32 (List.drop m (rowsC hdC x)))[0]? = some (.int .i64 x[c].len) := fun m hm => hd_len c1 hm
   have g4 : ∀ m, m = 66 * c → (List.drop 32 (List.drop m (rowsC hdC y)))[0]? = some (.int .i64 y[c].len) := fun m hm => hd_len c2 hm
   have g5 : ∀ m, m = 66 * c → takeN 32 (List.drop 33 (List.drop m (rowsC hdC x))) = some (c32 x[c].id []) := fun m hm => hd_id c1 hm rfl
   have g6 : ∀ m, m = 66 * c → takeN 32 (List.drop 33 (List.drop m (rowsC hdC y))) = some (c32 y[c].id []) := fun m hm => hd_id c2 hm rfl
   have g7 : ∀ m, m = 66 * c → (List.drop 65 (List.drop m (rowsC hdC x)))[0]? = some (.bool x[c].shut) := fun m hm => hd_shut c1 hm
   have g8 : ∀ m, m = 66 * c → (List.drop 65 (List.drop m (rowsC hdC y)))[0]? = some (.bool y[c].shut) := fun m hm => hd_shut c2 hm
   have no : x[c] ≠ y[c] → decide (x = y) = false := fun h => df (fun e => by subst e; exact h rfl)
   have yes : x[c] = y[c] → ∀ j, j < c + 1 → x.getD j hd0 = y.getD j hd0 := fun h j hj' => by
    rcases Nat.lt_or_ge j c with k | k
    ·exact hj j k
    ·obtain rfl : j = c := by omega
     rw [hd.1, hd.2, h]
   generalize x[c] = p at *
   generalize y[c] = q at *
   refine wpc_sound (M := MK) (PL := PLkh) (CU := noCut) TTok mixed _ _ _ ?_
   conv => whnf
   repeat ((refine ifB_pos (decide_eq_true (by first | omega | rfl | (dsimp only; omega))) ?_); conv => whnf)
   refine ⟨by kernel_rfl, ?_⟩
   conv => whnf
   repeat' (first | (refine ⟨⟨?_, ?_, ?_⟩, ?_⟩; (focus omega); (focus (first | omega | (simp; done) | (simp; omega))); (focus (first | (rw [prfs_len]; simp; omega) | (rw [ents_len]; simp; omega) | (rw [hds_len]; simp; omega) | (rw [lets_len]; simp; omega))); (conv => whnf)) | (refine ⟨_, g1 _ (by simp; omega), ?_⟩; conv => whnf) | (refine ⟨_, g2 _ (by simp; omega), ?_⟩; conv => whnf) | (refine ⟨_, g3 _ (by simp; omega), ?_⟩; conv => whnf) | (refine ⟨_, g4 _ (by simp; omega), ?_⟩; conv => whnf) | (refine ⟨_, g5 _ (by simp; omega), ?_⟩; conv => whnf) | (refine ⟨_, g6 _ (by simp; omega), ?_⟩; conv => whnf) | (refine ⟨_, g7 _ (by simp; omega), ?_⟩; conv => whnf) | (refine ⟨_, g8 _ (by simp; omega), ?_⟩; conv => whnf) | (refine ⟨⟨by omega, by omega, by rw [hds_len]; simp; omega⟩, ?_⟩; conv => whnf) | (refine ⟨_, rfl, ?_⟩; conv => whnf) | (refine And.intro ?_ ?_ <;> conv => whnf))
   refine ⟨p.au, q.au, ⟨rfl, c32_map hx1.au.2, c32_map hy1.au.2, hx1.au.2, hy1.au.2⟩, ?_⟩
   conv => whnf
   by_cases d1 : p.au = q.au
   ·rw [dt d1] at e ⊢
    conv => whnf
    repeat ((first | refine ifB_f ?_ | (refine ⟨⟨?_, ?_, ?_⟩, ?_⟩; (focus omega); (focus (first | omega | (simp; done) | (simp; omega))); (focus (first | (rw [prfs_len]; simp; omega) | (rw [ents_len]; simp; omega) | (rw [hds_len]; simp; omega) | (rw [lets_len]; simp; omega))))); conv => whnf)
    conv => whnf
    repeat' (first | (refine ifB_f ?_; (conv => whnf)) | (refine ⟨⟨?_, ?_, ?_⟩, ?_⟩; (focus omega); (focus (first | omega | (simp; done) | (simp; omega))); (focus (first | (rw [prfs_len]; simp; omega) | (rw [ents_len]; simp; omega) | (rw [hds_len]; simp; omega) | (rw [lets_len]; simp; omega))); (conv => whnf)) | (refine ⟨_, g1 _ (by simp; omega), ?_⟩; conv => whnf) | (refine ⟨_, g2 _ (by simp; omega), ?_⟩; conv => whnf) | (refine ⟨_, g3 _ (by simp; omega), ?_⟩; conv => whnf) | (refine ⟨_, g4 _ (by simp; omega), ?_⟩; conv => whnf) | (refine ⟨_, g5 _ (by simp; omega), ?_⟩; conv => whnf) | (refine ⟨_, g6 _ (by simp; omega), ?_⟩; conv => whnf) | (refine ⟨_, g7 _ (by simp; omega), ?_⟩; conv => whnf) | (refine ⟨_, g8 _ (by simp; omega), ?_⟩; conv => whnf) | (refine ⟨⟨by omega, by omega, by rw [hds_len]; simp; omega⟩, ?_⟩; conv => whnf) | (refine ⟨_, rfl, ?_⟩; conv => whnf) | (refine And.intro ?_ ?_ <;> conv => whnf))
    by_cases d2 : p.len = q.len
    ·rw [dt d2] at e
     conv => whnf
     repeat ((first | refine ifB_f ?_ | (refine ifB_neg (decide_eq_false (by first | omega | rfl | (dsimp only; omega))) ?_) | (refine ⟨⟨?_, ?_, ?_⟩, ?_⟩; (focus omega); (focus (first | omega | (simp; done) | (simp; omega))); (focus (first | (rw [prfs_len]; simp; omega) | (rw [ents_len]; simp; omega) | (rw [hds_len]; simp; omega) | (rw [lets_len]; simp; omega))))); conv => whnf)
     conv => whnf
     repeat' (first | (refine ifB_f ?_; (conv => whnf)) | (refine ⟨⟨?_, ?_, ?_⟩, ?_⟩; (focus omega); (focus (first | omega | (simp; done) | (simp; omega))); (focus (first | (rw [prfs_len]; simp; omega) | (rw [ents_len]; simp; omega) | (rw [hds_len]; simp; omega) | (rw [lets_len]; simp; omega))); (conv => whnf)) | (refine ⟨_, g1 _ (by simp; omega), ?_⟩; conv => whnf) | (refine ⟨_, g2 _ (by simp; omega), ?_⟩; conv => whnf) | (refine ⟨_, g3 _ (by simp; omega), ?_⟩; conv => whnf) | (refine ⟨_, g4 _ (by simp; omega), ?_⟩; conv => whnf) | (refine ⟨_, g5 _ (by simp; omega), ?_⟩; conv => whnf) | (refine ⟨_, g6 _ (by simp; omega), ?_⟩; conv => whnf) | (refine ⟨_, g7 _ (by simp; omega), ?_⟩; conv => whnf) | (refine ⟨_, g8 _ (by simp; omega), ?_⟩; conv => whnf) | (refine ⟨⟨by omega, by omega, by rw [hds_len]; simp; omega⟩, ?_⟩; conv => whnf) | (refine ⟨_, rfl, ?_⟩; conv => whnf) | (refine And.intro ?_ ?_ <;> conv => whnf))
     refine ⟨p.id, q.id, ⟨rfl, c32_map hx1.id.2, c32_map hy1.id.2, hx1.id.2, hy1.id.2⟩, ?_⟩
     conv => whnf
     repeat ((refine ifB_f ?_); conv => whnf)
     by_cases d3 : p.id = q.id
     ·rw [dt d3] at e ⊢
      conv => whnf
      repeat ((first | refine ifB_f ?_ | (refine ⟨⟨?_, ?_, ?_⟩, ?_⟩; (focus omega); (focus (first | omega | (simp; done) | (simp; omega))); (focus (first | (rw [prfs_len]; simp; omega) | (rw [ents_len]; simp; omega) | (rw [hds_len]; simp; omega) | (rw [lets_len]; simp; omega))))); conv => whnf)
      conv => whnf
      repeat' (first | (refine ifB_f ?_; (conv => whnf)) | (refine ⟨⟨?_, ?_, ?_⟩, ?_⟩; (focus omega); (focus (first | omega | (simp; done) | (simp; omega))); (focus (first | (rw [prfs_len]; simp; omega) | (rw [ents_len]; simp; omega) | (rw [hds_len]; simp; omega) | (rw [lets_len]; simp; omega))); (conv => whnf)) | (refine ⟨_, g1 _ (by simp; omega), ?_⟩; conv => whnf) | (refine ⟨_, g2 _ (by simp; omega), ?_⟩; conv => whnf) | (refine ⟨_, g3 _ (by simp; omega), ?_⟩; conv => whnf) | (refine ⟨_, g4 _ (by simp; omega), ?_⟩; conv => whnf) | (refine ⟨_, g5 _ (by simp; omega), ?_⟩; conv => whnf) | (refine ⟨_, g6 _ (by simp; omega), ?_⟩; conv => whnf) | (refine ⟨_, g7 _ (by simp; omega), ?_⟩; conv => whnf) | (refine ⟨_, g8 _ (by simp; omega), ?_⟩; conv => whnf) | (refine ⟨⟨by omega, by omega, by rw [hds_len]; simp; omega⟩, ?_⟩; conv => whnf) | (refine ⟨_, rfl, ?_⟩; conv => whnf) | (refine And.intro ?_ ?_ <;> conv => whnf))
      cases d4 : p.shut == q.shut
      ·rw [d4] at e
       conv => whnf
       repeat' (first | (refine ifB_t ?_; (conv => whnf)) | (refine ⟨_, g1 _ (by simp; omega), ?_⟩; conv => whnf) | (refine ⟨_, g2 _ (by simp; omega), ?_⟩; conv => whnf) | (refine ⟨_, g3 _ (by simp; omega), ?_⟩; conv => whnf) | (refine ⟨_, g4 _ (by simp; omega), ?_⟩; conv => whnf) | (refine ⟨_, g5 _ (by simp; omega), ?_⟩; conv => whnf) | (refine ⟨_, g6 _ (by simp; omega), ?_⟩; conv => whnf) | (refine ⟨_, g7 _ (by simp; omega), ?_⟩; conv => whnf) | (refine ⟨_, g8 _ (by simp; omega), ?_⟩; conv => whnf) | (refine ⟨⟨by omega, by omega, by rw [hds_len]; simp; omega⟩, ?_⟩; conv => whnf) | (rw [no (fun h => by rw [h] at e; simp at e)]; exact ⟨rfl, rfl⟩) | (rw [no (of_decide_eq_false e)]; exact ⟨rfl, rfl⟩) | (rw [no (of_decide_eq_false e)]; rfl) | (refine ⟨_, rfl, ?_⟩; conv => whnf) | (refine And.intro ?_ ?_ <;> conv => whnf))
      ·rw [d4] at e
       conv => whnf
       repeat' (first | (refine ifB_f ?_; (conv => whnf)) | (refine fit_i64 ⟨by first | omega | rfl | (dsimp only; omega), by first | omega | rfl | (dsimp only; omega)⟩ ?_; (conv => whnf)) | (refine ⟨_, g1 _ (by simp; omega), ?_⟩; conv => whnf) | (refine ⟨_, g2 _ (by simp; omega), ?_⟩; conv => whnf) | (refine ⟨_, g3 _ (by simp; omega), ?_⟩; conv => whnf) | (refine ⟨_, g4 _ (by simp; omega), ?_⟩; conv => whnf) | (refine ⟨_, g5 _ (by simp; omega), ?_⟩; conv => whnf) | (refine ⟨_, g6 _ (by simp; omega), ?_⟩; conv => whnf) | (refine ⟨_, g7 _ (by simp; omega), ?_⟩; conv => whnf) | (refine ⟨_, g8 _ (by simp; omega), ?_⟩; conv => whnf) | (refine ⟨⟨by omega, by omega, by rw [hds_len]; simp; omega⟩, ?_⟩; conv => whnf) | (exact ⟨c + 1, ⟨by omega, yes (of_decide_eq_true e)⟩, by omega, weaker_of [] rfl rfl ⟨⟨rfl, rfl, hds_pure _⟩, ⟨rfl, rfl, hds_pure _⟩, ⟨rfl, rfl⟩, trivial⟩ trivial⟩) | (refine ⟨_, rfl, ?_⟩; conv => whnf) | (refine And.intro ?_ ?_ <;> conv => whnf))
     ·rw [df d3] at e ⊢
      conv => whnf
      repeat ((refine ifB_t ?_); conv => whnf)
      conv => whnf
      repeat' (first | (refine ⟨_, g1 _ (by simp; omega), ?_⟩; conv => whnf) | (refine ⟨_, g2 _ (by simp; omega), ?_⟩; conv => whnf) | (refine ⟨_, g3 _ (by simp; omega), ?_⟩; conv => whnf) | (refine ⟨_, g4 _ (by simp; omega), ?_⟩; conv => whnf) | (refine ⟨_, g5 _ (by simp; omega), ?_⟩; conv => whnf) | (refine ⟨_, g6 _ (by simp; omega), ?_⟩; conv => whnf) | (refine ⟨_, g7 _ (by simp; omega), ?_⟩; conv => whnf) | (refine ⟨_, g8 _ (by simp; omega), ?_⟩; conv => whnf) | (refine ⟨⟨by omega, by omega, by rw [hds_len]; simp; omega⟩, ?_⟩; conv => whnf) | (rw [no (fun h => by rw [h] at e; simp at e)]; exact ⟨rfl, rfl⟩) | (rw [no (of_decide_eq_false e)]; exact ⟨rfl, rfl⟩) | (rw [no (of_decide_eq_false e)]; rfl) | (refine ⟨_, rfl, ?_⟩; conv => whnf) | (refine And.intro ?_ ?_ <;> conv => whnf))
    ·rw [df d2] at e
     conv => whnf
     repeat ((first | refine ifB_t ?_ | (refine ifB_pos (decide_eq_true (by first | omega | rfl | (dsimp only; omega))) ?_)); conv => whnf)
     conv => whnf
     repeat' (first | (refine ⟨_, g1 _ (by simp; omega), ?_⟩; conv => whnf) | (refine ⟨_, g2 _ (by simp; omega), ?_⟩; conv => whnf) | (refine ⟨_, g3 _ (by simp; omega), ?_⟩; conv => whnf) | (refine ⟨_, g4 _ (by simp; omega), ?_⟩; conv => whnf) | (refine ⟨_, g5 _ (by simp; omega), ?_⟩; conv => whnf) | (refine ⟨_, g6 _ (by simp; omega), ?_⟩; conv => whnf) | (refine ⟨_, g7 _ (by simp; omega), ?_⟩; conv => whnf) | (refine ⟨_, g8 _ (by simp; omega), ?_⟩; conv => whnf) | (refine ⟨⟨by omega, by omega, by rw [hds_len]; simp; omega⟩, ?_⟩; conv => whnf) | (rw [no (fun h => by rw [h] at e; simp at e)]; exact ⟨rfl, rfl⟩) | (rw [no (of_decide_eq_false e)]; exact ⟨rfl, rfl⟩) | (rw [no (of_decide_eq_false e)]; rfl) | (refine ⟨_, rfl, ?_⟩; conv => whnf) | (refine And.intro ?_ ?_ <;> conv => whnf))
   ·rw [df d1] at e ⊢
    conv => whnf
    repeat ((refine ifB_t ?_); conv => whnf)
    conv => whnf
    repeat' (first | (refine ⟨_, g1 _ (by simp; omega), ?_⟩; conv => whnf) | (refine ⟨_, g2 _ (by simp; omega), ?_⟩; conv => whnf) | (refine ⟨_, g3 _ (by simp; omega), ?_⟩; conv => whnf) | (refine ⟨_, g4 _ (by simp; omega), ?_⟩; conv => whnf) | (refine ⟨_, g5 _ (by simp; omega), ?_⟩; conv => whnf) | (refine ⟨_, g6 _ (by simp; omega), ?_⟩; conv => whnf) | (refine ⟨_, g7 _ (by simp; omega), ?_⟩; conv => whnf) | (refine ⟨_, g8 _ (by simp; omega), ?_⟩; conv => whnf) | (refine ⟨⟨by omega, by omega, by rw [hds_len]; simp; omega⟩, ?_⟩; conv => whnf) | (rw [no (fun h => by rw [h] at e; simp at e)]; exact ⟨rfl, rfl⟩) | (rw [no (of_decide_eq_false e)]; exact ⟨rfl, rfl⟩) | (rw [no (of_decide_eq_false e)]; rfl) | (refine ⟨_, rfl, ?_⟩; conv => whnf) | (refine And.intro ?_ ?_ <;> conv => whnf))
  ·obtain rfl : c = x.length := by omega
   rw [dt (list_all_eq hd0 c0 hj)]
   refine wpc_sound (M := MK) (PL := PLkh) (CU := noCut) TTok mixed _ _ _ ?_
   conv => whnf
   repeat ((first | (refine ifB_neg (decide_eq_false (by first | omega | rfl | (dsimp only; omega))) ?_) | refine ⟨rfl, ?_⟩); conv => whnf)
   rfl
 ·exact weaker_of [] rfl rfl ⟨⟨rfl, rfl, hds_pure _⟩, ⟨rfl, rfl, hds_pure _⟩, ⟨rfl, rfl⟩, trivial⟩ trivial
end
section
--KR
attribute [local irreducible] ifB fitP Does Weaker
theorem msg_eq (a b : Msg) : decide (a = b) = (decide (a.kind = b.kind) && decide (a.frm = b.frm) && decide (a.to = b.to) && decide (a.hs = b.hs) && decide (a.ps = b.ps) && decide (a.es = b.es)) := by
 obtain ⟨a1, a2, a3, a4, a5, a6⟩ := a
 obtain ⟨b1, b2, b3, b4, b5, b6⟩ := b
 rw [Bool.eq_iff_iff]
 simp [and_assoc]
set_option maxHeartbeats 2000000 in
theorem kmsg_ok (a b : Msg) (ha : MsgS a) (hb : MsgS b) : ACall Tryd.prog 17 [.agg (msgC a), .agg (msgC b)] (.bool (decide (a = b))) [] := by
 have h1 := kheads_ok a.hs b.hs ha.hs hb.hs ha.hl hb.hl
 have h2 := kprfs_ok a.ps b.ps ha.ps hb.ps ha.pl hb.pl
 have h3 := kents_ok a.es b.es ha.es hb.es ha.el hb.el
 rw [msg_eq]
 refine ACall.of_does TTok Tryd.func17 rfl Tryd.call17 rfl (wpc_sound (M := MK) (PL := PL0) (CU := noCut) TTok mixed _ _ _ ?_)
 by_cases c1 : a.kind = b.kind
 ·rw [dt c1]
  by_cases c2 : a.frm = b.frm
  ·rw [dt c2]
   by_cases c3 : a.to = b.to
   ·rw [dt c3]
    cases c4 : decide (a.hs = b.hs) <;> rw [c4] at h1
    ·conv => whnf
     repeat ((first | refine ifB_t ?_ | (refine ifB_pos (decide_eq_true (by first | omega | rfl | (dsimp only; omega))) ?_) | refine ⟨rfl, ?_⟩ | refine ⟨_, rfl, ?_⟩ | refine ⟨(show pureL (rowsC _ _) = true from by first | exact prfs_pure _ | exact ents_pure _ | exact hds_pure _ | exact lets_pure _), ?_⟩); conv => whnf)
     refine ⟨_, _, h1, by first | rfl | simp [noRoIf, noRoL, noRoV, noRoL_bys], ?_⟩
     conv => whnf
     repeat ((first | refine ifB_t ?_ | refine ifB_f ?_ | refine ⟨rfl, ?_⟩); conv => whnf)
     rfl
    cases c5 : decide (a.ps = b.ps) <;> rw [c5] at h2
    ·conv => whnf
     repeat ((first | refine ifB_t ?_ | (refine ifB_pos (decide_eq_true (by first | omega | rfl | (dsimp only; omega))) ?_) | refine ⟨rfl, ?_⟩ | refine ⟨_, rfl, ?_⟩ | refine ⟨(show pureL (rowsC _ _) = true from by first | exact prfs_pure _ | exact ents_pure _ | exact hds_pure _ | exact lets_pure _), ?_⟩); conv => whnf)
     refine ⟨_, _, h1, by first | rfl | simp [noRoIf, noRoL, noRoV, noRoL_bys], ?_⟩
     conv => whnf
     repeat ((first | refine ifB_t ?_ | refine ⟨rfl, ?_⟩ | refine ⟨_, rfl, ?_⟩ | refine ⟨(show pureL (rowsC _ _) = true from by first | exact prfs_pure _ | exact ents_pure _ | exact hds_pure _ | exact lets_pure _), ?_⟩); conv => whnf)
     refine ⟨_, _, h2, by first | rfl | simp [noRoIf, noRoL, noRoV, noRoL_bys], ?_⟩
     conv => whnf
     repeat ((first | refine ifB_t ?_ | refine ifB_f ?_ | refine ⟨rfl, ?_⟩); conv => whnf)
     rfl
    ·conv => whnf
     repeat ((first | refine ifB_t ?_ | (refine ifB_pos (decide_eq_true (by first | omega | rfl | (dsimp only; omega))) ?_) | refine ⟨rfl, ?_⟩ | refine ⟨_, rfl, ?_⟩ | refine ⟨(show pureL (rowsC _ _) = true from by first | exact prfs_pure _ | exact ents_pure _ | exact hds_pure _ | exact lets_pure _), ?_⟩); conv => whnf)
     refine ⟨_, _, h1, by first | rfl | simp [noRoIf, noRoL, noRoV, noRoL_bys], ?_⟩
     conv => whnf
     repeat ((first | refine ifB_t ?_ | refine ⟨rfl, ?_⟩ | refine ⟨_, rfl, ?_⟩ | refine ⟨(show pureL (rowsC _ _) = true from by first | exact prfs_pure _ | exact ents_pure _ | exact hds_pure _ | exact lets_pure _), ?_⟩); conv => whnf)
     refine ⟨_, _, h2, by first | rfl | simp [noRoIf, noRoL, noRoV, noRoL_bys], ?_⟩
     conv => whnf
     repeat ((first | refine ifB_t ?_ | refine ⟨rfl, ?_⟩ | refine ⟨_, rfl, ?_⟩ | refine ⟨(show pureL (rowsC _ _) = true from by first | exact prfs_pure _ | exact ents_pure _ | exact hds_pure _ | exact lets_pure _), ?_⟩); conv => whnf)
     refine ⟨_, _, h3, by first | rfl | simp [noRoIf, noRoL, noRoV, noRoL_bys], ?_⟩
     conv => whnf
     repeat ((first | refine ifB_t ?_ | refine ⟨rfl, ?_⟩); conv => whnf)
     rfl
   ·rw [df c3]
    conv => whnf
    repeat ((first | refine ifB_t ?_ | refine ifB_f ?_ | (refine ifB_neg (decide_eq_false (by first | omega | rfl | (dsimp only; omega))) ?_) | (refine ifB_pos (decide_eq_true (by first | omega | rfl | (dsimp only; omega))) ?_) | refine ⟨rfl, ?_⟩ | refine ⟨_, rfl, ?_⟩); conv => whnf)
    rfl
  ·rw [df c2]
   conv => whnf
   repeat ((first | refine ifB_t ?_ | refine ifB_f ?_ | (refine ifB_neg (decide_eq_false (by first | omega | rfl | (dsimp only; omega))) ?_) | (refine ifB_pos (decide_eq_true (by first | omega | rfl | (dsimp only; omega))) ?_) | refine ⟨rfl, ?_⟩ | refine ⟨_, rfl, ?_⟩); conv => whnf)
   rfl
 ·rw [df c1]
  conv => whnf
  repeat ((first | refine ifB_f ?_ | (refine ifB_neg (decide_eq_false (by first | omega | rfl | (dsimp only; omega))) ?_) | refine ⟨rfl, ?_⟩ | refine ⟨_, rfl, ?_⟩); conv => whnf)
  rfl
end
section
--KR
attribute [local irreducible] ifB fitP Does Weaker demsP
end
section
--KR
attribute [local irreducible] ifB fitP Does Weaker
end
section
--KR
attribute [local irreducible] ifB fitP Does Weaker
def MK2 : FuncId → List Mode := orElse [(32, [.bw]), (11, [.rd]), (28, [])] MK
end
section

def PrfO (p : Prf) : Prop := EntOk p.a ∧ EntOk p.b
structure MsgO (m : Msg) : Prop where
 kind : -9223372036854775808 ≤ m.kind ∧ m.kind < 9223372036854775808
 frm : -9223372036854775808 ≤ m.frm ∧ m.frm < 9223372036854775808
 to : -9223372036854775808 ≤ m.to ∧ m.to < 9223372036854775808
 hs : ∀ h ∈ m.hs, HdS h
 ps : ∀ p ∈ m.ps, PrfO p
 es : ∀ e ∈ m.es, EntOk e
end
section

mutual
theorem unborder_pure {E : Env} : ∀ (x : AV) (v : Value) (X : List Nat), pureV x = true → RepB E x v X → RepV E x v ∧ X = []
 | .own _ _ _, v, X, hp, _ => by simp [pureV] at hp
 | .ref _, v, X, hp, _ => by simp [pureV] at hp
 | .sl _ _ _ _ _, v, X, hp, _ => by simp [pureV] at hp
 | .ptr _ _, v, X, hp, _ => by simp [pureV] at hp
 | .agg cs, v, X, hp, h => by
  simp only [RepB] at h
  obtain ⟨vs, rfl, hl⟩ := h
  have := unborderL_pure cs _ X (by simpa [pureV] using hp) hl
  simp only [RepV]
  exact ⟨⟨vs, rfl, this.1⟩, this.2⟩
 | .tuple cs, v, X, hp, h => by
  simp only [RepB] at h
  obtain ⟨vs, rfl, hl⟩ := h
  have := unborderL_pure cs _ X (by simpa [pureV] using hp) hl
  simp only [RepV]
  exact ⟨⟨vs, rfl, this.1⟩, this.2⟩
 | .top, v, X, hp, h => by simp only [RepB] at h; exact ⟨h.2.1, h.2.2⟩
 | .int k n, v, X, hp, h => by simp only [RepB] at h; exact ⟨h.2.1, h.2.2⟩
 | .bool b, v, X, hp, h => by simp only [RepB] at h; exact ⟨h.2.1, h.2.2⟩
 | .anyb, v, X, hp, h => by simp only [RepB] at h; exact ⟨h.2.1, h.2.2⟩
 | .str s, v, X, hp, h => by simp only [RepB] at h; exact ⟨h.2.1, h.2.2⟩
 | .nil, v, X, hp, h => by simp only [RepB] at h; exact ⟨h.2.1, h.2.2⟩
 | .ro len cs, v, X, hp, h => by simp only [RepB] at h; exact ⟨h.2.1, h.2.2⟩
 | .rop cs, v, X, hp, h => by simp only [RepB] at h; exact ⟨h.2.1, h.2.2⟩
 | .nilp, v, X, hp, h => by simp only [RepB] at h; exact ⟨h.2.1, h.2.2⟩
 | .hid i, v, X, hp, h => by simp only [RepB] at h; exact ⟨h.2.1, h.2.2⟩
 | .fn f cs, v, X, hp, h => by simp only [RepB] at h; exact ⟨h.2.1, h.2.2⟩
theorem unborderL_pure {E : Env} : ∀ (cs : List AV) (vs : List Value) (X : List Nat), pureL cs = true → RepBL E cs vs X → RepL E cs vs ∧ X = []
 | [], vs, X, _, h => by
  simp only [RepBL] at h
  simp only [RepL]
  exact h
 | c :: cs, vs, X, hp, h => by
  simp only [pureL, Bool.and_eq_true] at hp
  simp only [RepBL] at h
  obtain ⟨u, us, Y, Y', rfl, rfl, h1, h2⟩ := h
  have a := unborder_pure c u Y hp.1 h1
  have b := unborderL_pure cs us Y' hp.2 h2
  simp only [RepL]
  exact ⟨⟨u, us, rfl, a.1, b.1⟩, by rw [a.2, b.2]; rfl⟩
end
theorem ACall.les {P : Program} {f : FuncId} {xs ys : List AV} {r : AV} (h : ACall P f ys r []) (hx : pureL xs = true) (hy : pureL ys = true) (hl : lesP (fun _ => none) ys xs) : ACall P f xs r [] := by
 refine ⟨h.1, fun Z E vals X hh hr hn hz => ?_⟩
 obtain ⟨k1, rfl⟩ := unborderL_pure xs vals X hx hr
 have k2 := lesP_ok (E := E) (E' := E) ⟨rfl, rfl⟩ (fun b hb => hb) (fun i j n hi => by cases hi) ys xs _ hl k1
 have k3 := borderL_pure ys vals hy k2
 have := h.2 Z E vals [] hh k3 hn hz
 rw [refVals_pure ys vals hy] at this
 rw [refVals_pure xs vals hx]
 exact this
end
section
--KR
attribute [local irreducible] ifB fitP Does Weaker
def ML : FuncId → List Mode := orElse [(27, [.bw, .bw])] MK2
def msgE (k f t : Int) : Msg := ⟨k, f, t, [], [], []⟩
theorem msgE_S {k f t : Int} (h1 : -9223372036854775808 ≤ k ∧ k < 9223372036854775808) (h2 : -9223372036854775808 ≤ f ∧ f < 9223372036854775808) (h3 : -9223372036854775808 ≤ t ∧ t < 9223372036854775808) : MsgS (msgE k f t) where
 kind := h1
 frm := h2
 to := h3
 hs := fun h hh => absurd hh (List.not_mem_nil)
 ps := fun h hh => absurd hh (List.not_mem_nil)
 es := fun h hh => absurd hh (List.not_mem_nil)
 hl := by simp [msgE]
 pl := by simp [msgE]
 el := by simp [msgE]
theorem wakeB : msgB (msgE 1 0 1) = ([132, 3, 0, 1, 128], 0) := by
 have hr : msgR (msgE 1 0 1) = true := by decide
 unfold msgB
 rw [if_pos hr]
 unfold msgT
 rw [if_pos (show (msgE 1 0 1).kind = 1 from rfl), fr_yes (by decide) (by decide) (by decide) (fun h hh => absurd hh (List.not_mem_nil))]
 decide
theorem msgB_byt {m : Msg} (hm : MsgS m) : Byt (msgB m).1 ∧ (msgB m).1.length ≤ 32768 := by
 rcases msgB_or m with h | ⟨a, h⟩
 ·rw [h]; exact ⟨fun x hx => absurd hx (List.not_mem_nil), by simp⟩
 ·have := msgB_toks (m := m) (by rw [h])
  refine ⟨by have k := encR_byt _ (msgT_toks hm); rwa [this.2] at k, ?_⟩
  exact encR_len this.2
theorem e_args {g : FuncId} {k f t : Int} {r : AV} (h : ACall Tryd.prog g [.agg (msgC (msgE k f t))] r []) : ACall Tryd.prog g [.agg (msgV k f t .nil .nil .nil)] r [] := h.les rfl rfl ⟨⟨⟨rfl, rfl⟩, ⟨rfl, rfl⟩, ⟨rfl, rfl⟩, ⟨rfl, rfl⟩, ⟨rfl, rfl⟩, ⟨rfl, rfl⟩, trivial⟩, trivial⟩
theorem msgC_les {o : Nat → Option Nat} (m : Msg) : lesP o (msgC m) (msgC m) := ⟨⟨rfl, rfl⟩, ⟨rfl, rfl⟩, ⟨rfl, rfl⟩, ⟨rfl, rfl, hds_pure _⟩, ⟨rfl, rfl, prfs_pure _⟩, ⟨rfl, rfl, ents_pure _⟩, trivial⟩
theorem e_args2 {g : FuncId} {k f t : Int} {m : Msg} {r : AV} (h : ACall Tryd.prog g [.agg (msgC m), .agg (msgC (msgE k f t))] r []) : ACall Tryd.prog g [.agg (msgC m), .agg (msgV k f t .nil .nil .nil)] r [] :=
 h.les (by simp only [pureL, pureV, msgC_pure]; rfl) (by simp only [pureL, pureV, msgC_pure]; rfl) ⟨msgC_les m, ⟨⟨rfl, rfl⟩, ⟨rfl, rfl⟩, ⟨rfl, rfl⟩, ⟨rfl, rfl⟩, ⟨rfl, rfl⟩, ⟨rfl, rfl⟩, trivial⟩, trivial⟩
set_option maxHeartbeats 1000000 in
theorem wakes13_ok : ACall Tryd.prog 28 [] (.bool true) [] := by
 have hm : MsgS (msgE 1 0 1) := msgE_S (by omega) (by omega) (by omega)
 have hb := (msg_bytes_ok _ hm).roRes2 (.inl ⟨_, _, rfl⟩)
 have hy := msgB_byt hm
 have hr := rdMsg_bytes hm (by rw [wakeB])
 have hc := check_msg_ok _ hm
 have ho := mread_ok _ hy.1 (by omega)
 have hk := kmsg_ok _ _ hm hm
 rw [hr.2] at ho
 rw [hr.1] at hc
 rw [wakeB] at hb ho
 dsimp only at hb ho
 rw [dt rfl] at hk
 have he := bytes_ok [132, 3, 0, 1, 128] [132, 3, 0, 1, 128] (by simp)
 refine ACall.of_does TTok Tryd.func28 rfl Tryd.call28 rfl (wpc_sound (M := ML) (PL := PL0) (CU := noCut) TTok mixed _ _ _ ?_)
 conv => whnf
 repeat ((first | refine ⟨(⟨by kernel_rfl, by kernel_rfl, Nat.le_of_ble_eq_true (by kernel_rfl)⟩ : AV.ones _ = true ∧ _ ∧ _), ?_⟩ | refine ⟨rfl, ?_⟩ | refine ⟨_, rfl, ?_⟩); conv => whnf)
 refine ⟨_, _, e_args hb, by first | rfl | simp [noRoIf, noRoL, noRoV, noRoL_bys], ?_⟩
 conv => whnf
 repeat ((first | refine ⟨pureL_bys _, ?_⟩ | refine ⟨rfl, ?_⟩); conv => whnf)
 refine ⟨_, _, ho, by first | rfl | simp [noRoIf, noRoL, noRoV, noRoL_bys], ?_⟩
 conv => whnf
 repeat ((first | refine ifB_t ?_ | refine ⟨pureL_bys _, ?_⟩ | refine ⟨(⟨by kernel_rfl, by kernel_rfl, Nat.le_of_ble_eq_true (by kernel_rfl)⟩ : AV.ones _ = true ∧ _ ∧ _), ?_⟩ | (refine Or.inl ⟨⟨rfl, ?_⟩, ?_⟩; (focus (first | rfl | (simp; done) | (rw [toksC_length]; omega)))) | refine ⟨rfl, ?_⟩); conv => whnf)
 refine ⟨_, _, he, by first | rfl | simp [noRoIf, noRoL, noRoV, noRoL_bys], ?_⟩
 conv => whnf
 repeat ((first | refine ifB_t ?_ | refine ⟨rfl, ?_⟩ | refine ⟨_, rfl, ?_⟩); conv => whnf)
 refine ⟨_, _, e_args2 hk, by first | rfl | simp [noRoIf, noRoL, noRoV, noRoL_bys], ?_⟩
 conv => whnf
 repeat ((first | refine ifB_t ?_ | refine ⟨rfl, ?_⟩ | refine ⟨_, rfl, ?_⟩); conv => whnf)
 refine ⟨_, _, e_args hc, by first | rfl | simp [noRoIf, noRoL, noRoV, noRoL_bys], ?_⟩
 conv => whnf
 repeat ((first | refine ifB_t ?_ | refine ⟨rfl, ?_⟩); conv => whnf)
 rfl
end
section
--KR
attribute [local irreducible] ifB fitP Does Weaker
section
attribute [local irreducible] demsP
end
end
section
--KR
attribute [local irreducible] ifB fitP Does Weaker
end
section
--KR
attribute [local irreducible] ifB fitP Does Weaker
def MF : FuncId → List Mode := orElse [(76, [.rd]), (77, [.rd]), (75, [.rd]), (100, [.rd]), (72, [.rd]), (101, [.rd]), (79, [.rd]), (999999, [.rd]),
 (92, [.rd, .rd, .rd]), (54, [.rd]), (71, [.rd]), (999999, [.rd, .rd]), (78, [.rd]), (53, [.rd]), (70, [.rd]), (31, [.rd]),
 (36, [.rd]), (26, [.rd])] MW
theorem refnum_ok (n : Int) : ACall Tryd.prog 76 [.int .i64 n] (.agg (tokC ⟨1, n, []⟩)) [] := by
 refine ACall.of_does TTok Tryd.func76 rfl Tryd.call76 rfl (wpc_sound (M := MF) (PL := PL0) (CU := noCut) TTok mixed _ _ _ ?_)
 conv => whnf
 repeat ((first | refine ⟨(⟨by kernel_rfl, by kernel_rfl, Nat.le_of_ble_eq_true (by kernel_rfl)⟩ : AV.ones _ = true ∧ _ ∧ _), ?_⟩ | refine ⟨rfl, ?_⟩ | refine ⟨_, rfl, ?_⟩ | refine ⟨⟨rfl, rfl⟩, ?_⟩); conv => whnf)
 rfl
theorem refarray_ok (n : Int) : ACall Tryd.prog 75 [.int .i64 n] (.agg (tokC ⟨5, n, []⟩)) [] := by
 refine ACall.of_does TTok Tryd.func75 rfl Tryd.call75 rfl (wpc_sound (M := MF) (PL := PL0) (CU := noCut) TTok mixed _ _ _ ?_)
 conv => whnf
 repeat ((first | refine ⟨(⟨by kernel_rfl, by kernel_rfl, Nat.le_of_ble_eq_true (by kernel_rfl)⟩ : AV.ones _ = true ∧ _ ∧ _), ?_⟩ | refine ⟨rfl, ?_⟩ | refine ⟨_, rfl, ?_⟩ | refine ⟨⟨rfl, rfl⟩, ?_⟩); conv => whnf)
 rfl
theorem refbytes_ok (b : List Int) : ACall Tryd.prog 77 [.ro b.length (bys b)] (.agg (tokC ⟨3, 0, b⟩)) [] := by
 refine ACall.of_does TTok Tryd.func77 rfl Tryd.call77 rfl (wpc_sound (M := MF) (PL := PL0) (CU := noCut) TTok mixed _ _ _ ?_)
 conv => whnf
 repeat ((first | refine ⟨(⟨by kernel_rfl, by kernel_rfl, Nat.le_of_ble_eq_true (by kernel_rfl)⟩ : AV.ones _ = true ∧ _ ∧ _), ?_⟩ | refine ⟨rfl, ?_⟩ | refine ⟨_, rfl, ?_⟩ | refine ⟨⟨rfl, rfl⟩, ?_⟩ | (refine ⟨⟨rfl, rfl, ?_⟩, ?_⟩; (focus (first | assumption | exact pureL_bys _ | exact pureL_toks _)))); conv => whnf)
 rfl
theorem refop_ok (e : Ent) (he : EntS e) : ACall Tryd.prog 100 [.agg (opC e)] (.bool (opR e)) [] := by
 have hk := he.key'
 have hv := he.val'
 have hu := refUtf8_ok e.key he.key.1 (by omega)
 have hi := in_ok (e.key.length : Int) 1 16
 unfold opR
 refine ACall.of_does TTok Tryd.func100 rfl Tryd.call100 rfl (wpc_sound (M := MF) (PL := PL0) (CU := noCut) TTok mixed _ _ _ ?_)
 by_cases c1 : 1 ≤ e.key.length
 ·rw [dt c1]
  by_cases c2 : e.key.length ≤ 16
  ·rw [dt c2]
   rw [dt (show (1 : Int) ≤ e.key.length ∧ (e.key.length : Int) ≤ 16 by omega)] at hi
   cases c3 : validR e.key <;> rw [c3] at hu
   ·conv => whnf
    repeat ((first | refine ⟨rfl, ?_⟩ | refine ⟨_, rfl, ?_⟩); conv => whnf)
    refine ⟨_, _, hi, by first | rfl | simp [noRoIf, noRoL, noRoV, noRoL_bys], ?_⟩
    conv => whnf
    repeat ((first | refine ifB_t ?_ | refine ⟨pureL_bys _, ?_⟩ | (refine Or.inl ⟨⟨rfl, ?_⟩, ?_⟩; (focus (first | rfl | (simp; done) | (rw [toksC_length]; omega)))) | refine ⟨rfl, ?_⟩ | refine ⟨_, rfl, ?_⟩); conv => whnf)
    refine ⟨_, _, hu, by first | rfl | simp [noRoIf, noRoL, noRoV, noRoL_bys], ?_⟩
    conv => whnf
    repeat ((first | refine ifB_t ?_ | refine ifB_f ?_ | refine ⟨rfl, ?_⟩); conv => whnf)
    rfl
   ·by_cases c4 : e.kind = 1
    ·rw [dt c4, df (show ¬ e.kind = 2 by omega)]
     by_cases c5 : e.val.length ≤ 40
     ·rw [dt c5]
      conv => whnf
      repeat ((first | refine ⟨rfl, ?_⟩ | refine ⟨_, rfl, ?_⟩); conv => whnf)
      refine ⟨_, _, hi, by first | rfl | simp [noRoIf, noRoL, noRoV, noRoL_bys], ?_⟩
      conv => whnf
      repeat ((first | refine ifB_t ?_ | refine ⟨pureL_bys _, ?_⟩ | (refine Or.inl ⟨⟨rfl, ?_⟩, ?_⟩; (focus (first | rfl | (simp; done) | (rw [toksC_length]; omega)))) | refine ⟨rfl, ?_⟩ | refine ⟨_, rfl, ?_⟩); conv => whnf)
      refine ⟨_, _, hu, by first | rfl | simp [noRoIf, noRoL, noRoV, noRoL_bys], ?_⟩
      conv => whnf
      repeat ((first | refine ifB_t ?_ | (refine ifB_pos (decide_eq_true (by first | omega | rfl | (dsimp only; omega))) ?_) | refine ⟨rfl, ?_⟩ | refine ⟨_, rfl, ?_⟩); conv => whnf)
      rfl
     ·rw [df c5]
      conv => whnf
      repeat ((first | refine ⟨rfl, ?_⟩ | refine ⟨_, rfl, ?_⟩); conv => whnf)
      refine ⟨_, _, hi, by first | rfl | simp [noRoIf, noRoL, noRoV, noRoL_bys], ?_⟩
      conv => whnf
      repeat ((first | refine ifB_t ?_ | refine ⟨pureL_bys _, ?_⟩ | (refine Or.inl ⟨⟨rfl, ?_⟩, ?_⟩; (focus (first | rfl | (simp; done) | (rw [toksC_length]; omega)))) | refine ⟨rfl, ?_⟩ | refine ⟨_, rfl, ?_⟩); conv => whnf)
      refine ⟨_, _, hu, by first | rfl | simp [noRoIf, noRoL, noRoV, noRoL_bys], ?_⟩
      conv => whnf
      repeat ((first | refine ifB_t ?_ | refine ifB_f ?_ | (refine ifB_neg (decide_eq_false (by first | omega | rfl | (dsimp only; omega))) ?_) | (refine ifB_pos (decide_eq_true (by first | omega | rfl | (dsimp only; omega))) ?_) | refine ⟨rfl, ?_⟩ | refine ⟨_, rfl, ?_⟩); conv => whnf)
      rfl
    ·rw [df c4]
     by_cases c6 : e.kind = 2
     ·rw [dt c6]
      by_cases c7 : e.val.length = 0
      ·rw [dt c7]
       conv => whnf
       repeat ((first | refine ⟨rfl, ?_⟩ | refine ⟨_, rfl, ?_⟩); conv => whnf)
       refine ⟨_, _, hi, by first | rfl | simp [noRoIf, noRoL, noRoV, noRoL_bys], ?_⟩
       conv => whnf
       repeat ((first | refine ifB_t ?_ | refine ⟨pureL_bys _, ?_⟩ | (refine Or.inl ⟨⟨rfl, ?_⟩, ?_⟩; (focus (first | rfl | (simp; done) | (rw [toksC_length]; omega)))) | refine ⟨rfl, ?_⟩ | refine ⟨_, rfl, ?_⟩); conv => whnf)
       refine ⟨_, _, hu, by first | rfl | simp [noRoIf, noRoL, noRoV, noRoL_bys], ?_⟩
       conv => whnf
       repeat ((first | refine ifB_t ?_ | refine ifB_f ?_ | (refine ifB_neg (decide_eq_false (by first | omega | rfl | (dsimp only; omega))) ?_) | (refine ifB_pos (decide_eq_true (by first | omega | rfl | (dsimp only; omega))) ?_) | refine ⟨_, rfl, ?_⟩); conv => whnf)
       exact ⟨dt (by omega), rfl⟩
      ·rw [df c7]
       conv => whnf
       repeat ((first | refine ⟨rfl, ?_⟩ | refine ⟨_, rfl, ?_⟩); conv => whnf)
       refine ⟨_, _, hi, by first | rfl | simp [noRoIf, noRoL, noRoV, noRoL_bys], ?_⟩
       conv => whnf
       repeat ((first | refine ifB_t ?_ | refine ⟨pureL_bys _, ?_⟩ | (refine Or.inl ⟨⟨rfl, ?_⟩, ?_⟩; (focus (first | rfl | (simp; done) | (rw [toksC_length]; omega)))) | refine ⟨rfl, ?_⟩ | refine ⟨_, rfl, ?_⟩); conv => whnf)
       refine ⟨_, _, hu, by first | rfl | simp [noRoIf, noRoL, noRoV, noRoL_bys], ?_⟩
       conv => whnf
       repeat ((first | refine ifB_t ?_ | refine ifB_f ?_ | (refine ifB_neg (decide_eq_false (by first | omega | rfl | (dsimp only; omega))) ?_) | (refine ifB_pos (decide_eq_true (by first | omega | rfl | (dsimp only; omega))) ?_) | refine ⟨_, rfl, ?_⟩); conv => whnf)
       exact ⟨df (by omega), rfl⟩
     ·rw [df c6]
      conv => whnf
      repeat ((first | refine ⟨rfl, ?_⟩ | refine ⟨_, rfl, ?_⟩); conv => whnf)
      refine ⟨_, _, hi, by first | rfl | simp [noRoIf, noRoL, noRoV, noRoL_bys], ?_⟩
      conv => whnf
      repeat ((first | refine ifB_t ?_ | refine ⟨pureL_bys _, ?_⟩ | (refine Or.inl ⟨⟨rfl, ?_⟩, ?_⟩; (focus (first | rfl | (simp; done) | (rw [toksC_length]; omega)))) | refine ⟨rfl, ?_⟩ | refine ⟨_, rfl, ?_⟩); conv => whnf)
      refine ⟨_, _, hu, by first | rfl | simp [noRoIf, noRoL, noRoV, noRoL_bys], ?_⟩
      conv => whnf
      repeat ((first | refine ifB_t ?_ | refine ifB_f ?_ | (refine ifB_neg (decide_eq_false (by first | omega | rfl | (dsimp only; omega))) ?_) | refine ⟨rfl, ?_⟩ | refine ⟨_, rfl, ?_⟩); conv => whnf)
      rfl
  ·rw [df c2]
   rw [df (show ¬ ((1 : Int) ≤ e.key.length ∧ (e.key.length : Int) ≤ 16) by omega)] at hi
   conv => whnf
   repeat ((first | refine ⟨rfl, ?_⟩ | refine ⟨_, rfl, ?_⟩); conv => whnf)
   refine ⟨_, _, hi, by first | rfl | simp [noRoIf, noRoL, noRoV, noRoL_bys], ?_⟩
   conv => whnf
   repeat ((first | refine ifB_f ?_ | refine ⟨rfl, ?_⟩); conv => whnf)
   rfl
 ·rw [df c1]
  rw [df (show ¬ ((1 : Int) ≤ e.key.length ∧ (e.key.length : Int) ≤ 16) by omega)] at hi
  conv => whnf
  repeat ((first | refine ⟨rfl, ?_⟩ | refine ⟨_, rfl, ?_⟩); conv => whnf)
  refine ⟨_, _, hi, by first | rfl | simp [noRoIf, noRoL, noRoV, noRoL_bys], ?_⟩
  conv => whnf
  repeat ((first | refine ifB_f ?_ | refine ⟨rfl, ?_⟩); conv => whnf)
  rfl
theorem refentry_ok (e : Ent) (he : EntS e) : ACall Tryd.prog 72 [.agg (entC e)] (.bool (entR e)) [] := by
 have ho := refop_ok e he
 have hi := in_ok e.seq 1 200
 unfold entR
 refine ACall.of_does TTok Tryd.func72 rfl Tryd.call72 rfl (wpc_sound (M := MF) (PL := PL0) (CU := noCut) TTok mixed _ _ _ ?_)
 by_cases c1 : 1 ≤ e.seq ∧ e.seq ≤ 200
 ·rw [dt c1.1, dt c1.2]
  rw [dt c1] at hi
  by_cases c3 : e.seq = 1
  ·rw [df (show ¬ e.seq ≠ 1 by omega)]
   by_cases c4 : e.prev = z32
   ·rw [dt c4]
    by_cases c5 : 0 ≤ e.stamp
    ·rw [dt c5]
     conv => whnf
     repeat ((first | refine ⟨rfl, ?_⟩ | refine ⟨_, rfl, ?_⟩); conv => whnf)
     refine ⟨_, _, hi, by first | rfl | simp [noRoIf, noRoL, noRoV, noRoL_bys], ?_⟩
     conv => whnf
     repeat ((first | refine ifB_t ?_ | refine ifB_f ?_ | (refine ifB_neg (decide_eq_false (by first | omega | rfl | (dsimp only; omega))) ?_) | refine ⟨_, rfl, ?_⟩); conv => whnf)
     refine ⟨e.prev, z32, ⟨rfl, c32_map he.prev.2, rfl, he.prev.2, rfl⟩, ?_⟩
     conv => whnf
     repeat ((first | refine ifB_t ?_ | refine ifB_f ?_ | (refine ifB_pos (decide_eq_true (by first | omega | rfl | (dsimp only; omega))) ?_) | refine ⟨entC_pure _, ?_⟩ | refine ⟨rfl, ?_⟩ | refine ⟨_, rfl, ?_⟩); conv => whnf)
     rw [dt c4]
     conv => whnf
     cases c6 : opR e <;> rw [c6] at ho
     ·refine ⟨_, _, ho, by first | rfl | simp [noRoIf, noRoL, noRoV, noRoL_bys], ?_⟩
      conv => whnf
      repeat ((first | refine ifB_t ?_ | refine ⟨rfl, ?_⟩); conv => whnf)
      rfl
     ·refine ⟨_, _, ho, by first | rfl | simp [noRoIf, noRoL, noRoV, noRoL_bys], ?_⟩
      conv => whnf
      repeat ((first | refine ifB_t ?_ | refine ⟨rfl, ?_⟩); conv => whnf)
      rfl
    ·rw [df c5]
     conv => whnf
     repeat ((first | refine ⟨rfl, ?_⟩ | refine ⟨_, rfl, ?_⟩); conv => whnf)
     refine ⟨_, _, hi, by first | rfl | simp [noRoIf, noRoL, noRoV, noRoL_bys], ?_⟩
     conv => whnf
     repeat ((first | refine ifB_t ?_ | refine ifB_f ?_ | (refine ifB_neg (decide_eq_false (by first | omega | rfl | (dsimp only; omega))) ?_) | refine ⟨_, rfl, ?_⟩); conv => whnf)
     refine ⟨e.prev, z32, ⟨rfl, c32_map he.prev.2, rfl, he.prev.2, rfl⟩, ?_⟩
     conv => whnf
     repeat ((first | refine ifB_t ?_ | refine ifB_f ?_ | (refine ifB_neg (decide_eq_false (by first | omega | rfl | (dsimp only; omega))) ?_) | (refine ifB_pos (decide_eq_true (by first | omega | rfl | (dsimp only; omega))) ?_) | refine ⟨rfl, ?_⟩ | refine ⟨_, rfl, ?_⟩); conv => whnf)
     rfl
   ·rw [df c4]
    conv => whnf
    repeat ((first | refine ⟨rfl, ?_⟩ | refine ⟨_, rfl, ?_⟩); conv => whnf)
    refine ⟨_, _, hi, by first | rfl | simp [noRoIf, noRoL, noRoV, noRoL_bys], ?_⟩
    conv => whnf
    repeat ((first | refine ifB_t ?_ | refine ifB_f ?_ | (refine ifB_neg (decide_eq_false (by first | omega | rfl | (dsimp only; omega))) ?_) | refine ⟨_, rfl, ?_⟩); conv => whnf)
    refine ⟨e.prev, z32, ⟨rfl, c32_map he.prev.2, rfl, he.prev.2, rfl⟩, ?_⟩
    conv => whnf
    repeat ((first | refine ifB_t ?_ | refine ifB_f ?_ | (refine ifB_neg (decide_eq_false (by first | omega | rfl | (dsimp only; omega))) ?_) | refine ⟨rfl, ?_⟩); conv => whnf)
    rfl
  ·rw [dt (show e.seq ≠ 1 from c3)]
   by_cases c5 : 0 ≤ e.stamp
   ·rw [dt c5]
    conv => whnf
    repeat ((first | refine ⟨rfl, ?_⟩ | refine ⟨_, rfl, ?_⟩); conv => whnf)
    refine ⟨_, _, hi, by first | rfl | simp [noRoIf, noRoL, noRoV, noRoL_bys], ?_⟩
    conv => whnf
    repeat ((first | refine ifB_t ?_ | (refine ifB_pos (decide_eq_true (by first | omega | rfl | (dsimp only; omega))) ?_) | refine ⟨entC_pure _, ?_⟩ | refine ⟨rfl, ?_⟩ | refine ⟨_, rfl, ?_⟩); conv => whnf)
    cases c6 : opR e <;> rw [c6] at ho
    ·refine ⟨_, _, ho, by first | rfl | simp [noRoIf, noRoL, noRoV, noRoL_bys], ?_⟩
     conv => whnf
     repeat ((first | refine ifB_t ?_ | refine ⟨rfl, ?_⟩); conv => whnf)
     rfl
    ·refine ⟨_, _, ho, by first | rfl | simp [noRoIf, noRoL, noRoV, noRoL_bys], ?_⟩
     conv => whnf
     repeat ((first | refine ifB_t ?_ | refine ⟨rfl, ?_⟩); conv => whnf)
     rfl
   ·rw [df c5]
    conv => whnf
    repeat ((first | refine ⟨rfl, ?_⟩ | refine ⟨_, rfl, ?_⟩); conv => whnf)
    refine ⟨_, _, hi, by first | rfl | simp [noRoIf, noRoL, noRoV, noRoL_bys], ?_⟩
    conv => whnf
    repeat ((first | refine ifB_t ?_ | refine ifB_f ?_ | (refine ifB_neg (decide_eq_false (by first | omega | rfl | (dsimp only; omega))) ?_) | (refine ifB_pos (decide_eq_true (by first | omega | rfl | (dsimp only; omega))) ?_) | refine ⟨rfl, ?_⟩ | refine ⟨_, rfl, ?_⟩); conv => whnf)
    rfl
 ·have : (decide (1 ≤ e.seq) && decide (e.seq ≤ 200)) = false := by
   rw [Bool.and_eq_false_iff]
   by_cases h : 1 ≤ e.seq
   ·exact .inr (df (fun k => c1 ⟨h, k⟩))
   ·exact .inl (df h)
  rw [this]
  rw [df c1] at hi
  conv => whnf
  repeat ((first | refine ⟨rfl, ?_⟩ | refine ⟨_, rfl, ?_⟩); conv => whnf)
  refine ⟨_, _, hi, by first | rfl | simp [noRoIf, noRoL, noRoV, noRoL_bys], ?_⟩
  conv => whnf
  repeat ((first | refine ifB_f ?_ | refine ⟨rfl, ?_⟩); conv => whnf)
  rfl
end
section
--KR
attribute [local irreducible] ifB fitP Does Weaker
def sixT (e : Ent) : List Tok := [⟨1, 1, []⟩, ⟨3, 0, e.au⟩, ⟨1, e.seq, []⟩, ⟨3, 0, e.prev⟩, ⟨1, e.stamp, []⟩, ⟨5, 3, []⟩, ⟨1, e.kind, []⟩, ⟨4, 0, e.key⟩, ⟨3, 0, e.val⟩]
def sixV (e : Ent) (v : AV) : List AV := toksC [⟨1, 1, []⟩, ⟨3, 0, e.au⟩, ⟨1, e.seq, []⟩, ⟨3, 0, e.prev⟩, ⟨1, e.stamp, []⟩, ⟨5, 3, []⟩, ⟨1, e.kind, []⟩] ++ ([.int .i64 4, .int .i64 0, v] ++ toksC [⟨3, 0, e.val⟩])
theorem sixV_eq (e : Ent) : sixV e (roW e.key) = toksC (sixT e) := by rw [roW_eq]; rfl
def PLsix : Nat → Bool × Plan := plans [(1, (false, (takesTo [1, 2, 4, 5, 7, 8, 10, 11, 14, 15, 16, 18, 19, 20, 23, 24, 25] (.all [(0, (.all [(3, (.all [(6, (.all [(9, (.all [(12, (.all [(13, (.all [(17, (.all [(21, (takesTo [22] (.all [(26, (.all [(27, (takes [28]))]))]))), (26, (.all [(21, (takesTo [22] (.all [(27, (takes [28]))])))]))])), (21, (takesTo [22] (.all [(17, (.all [(26, (.all [(27, (takes [28]))]))]))])))])), (21, (takesTo [22] (.all [(13, (.all [(17, (.all [(26, (.all [(27, (takes [28]))]))]))]))])))])), (21, (takesTo [22] (.all [(12, (.all [(13, (.all [(17, (.all [(26, (.all [(27, (takes [28]))]))]))]))]))])))])), (21, (takesTo [22] (.all [(9, (.all [(12, (.all [(13, (.all [(17, (.all [(26, (.all [(27, (takes [28]))]))]))]))]))]))])))])), (21, (takesTo [22] (.all [(6, (.all [(9, (.all [(12, (.all [(13, (.all [(17, (.all [(26, (.all [(27, (takes [28]))]))]))]))]))]))]))])))])), (21, (takesTo [22] (.all [(3, (.all [(6, (.all [(9, (.all [(12, (.all [(13, (.all [(17, (.all [(26, (.all [(27, (takes [28]))]))]))]))]))]))]))]))])))])), (21, (takesTo [22] (.all [(0, (.all [(3, (.all [(6, (.all [(9, (.all [(12, (.all [(13, (.all [(17, (.all [(26, (.all [(27, (takes [28]))]))]))]))]))]))]))]))]))])))]))))]
set_option maxRecDepth 20000 in
set_option maxHeartbeats 20000000 in
theorem six_ok (e : Ent) (he : EntS e) : ACall Tryd.prog 101 [.agg (entC e)] (.own 9 3 (toksC (sixT e))) [] := by
 have hk := he.key'
 refine ACall.of_does TTok Tryd.func101 rfl Tryd.call101 rfl (wpc_sound (M := MF) (PL := PLsix) (CU := cutAt [100001, 99999]) TTok mixed _ _ _ ?_)
 conv => whnf
 repeat ((refine ⟨rfl, ?_⟩); conv => whnf)
 refine Does.freeze 0 rfl (Does.tidy [(1, .rop (entC e))] [] 1 31 rfl rfl rfl (by kernel_rfl) (by kernel_rfl) ?_)
 refine wpc_sound (M := MF) (PL := PLsix) (CU := noCut) TTok mixed _ _ _ ?_
 conv => whnf
 refine ⟨by kernel_rfl, ?_⟩
 conv => whnf
 repeat ((first | (refine ⟨⟨by first | (simp only [List.drop_zero, List.length_drop, hds_len]; omega) | exact Nat.le_of_ble_eq_true (by kernel_rfl), okB_none _⟩, ?_⟩) | refine ⟨rfl, ?_⟩ | refine ⟨_, rfl, ?_⟩); conv => whnf)
 refine ⟨?_, ?_⟩
 ·conv => whnf
  repeat ((refine ⟨rfl, ?_⟩); conv => whnf)
  refine ⟨_, _, refnum_ok 1, by first | rfl | simp [noRoIf, noRoL, noRoV, noRoL_bys], ?_⟩
  conv => whnf
  refine ⟨?_, ?_⟩
  ·conv => whnf
   repeat ((refine ⟨rfl, ?_⟩); conv => whnf)
   refine ⟨_, _, (refbytes_ok e.au).arg1 he.au.2.symm (cut32 he.au.2 _), by first | rfl | simp [noRoIf, noRoL, noRoV, noRoL_bys], ?_⟩
   conv => whnf
   refine ⟨?_, ?_⟩
   ·conv => whnf
    repeat ((refine ⟨rfl, ?_⟩); conv => whnf)
    refine ⟨_, _, refnum_ok e.seq, by first | rfl | simp [noRoIf, noRoL, noRoV, noRoL_bys], ?_⟩
    conv => whnf
    refine ⟨?_, ?_⟩
    ·conv => whnf
     repeat ((refine ⟨rfl, ?_⟩); conv => whnf)
     refine ⟨_, _, (refbytes_ok e.prev).arg1 he.prev.2.symm (cut32 he.prev.2 _), by first | rfl | simp [noRoIf, noRoL, noRoV, noRoL_bys], ?_⟩
     conv => whnf
     refine ⟨?_, ?_⟩
     ·conv => whnf
      repeat ((refine ⟨rfl, ?_⟩); conv => whnf)
      refine ⟨_, _, refnum_ok e.stamp, by first | rfl | simp [noRoIf, noRoL, noRoV, noRoL_bys], ?_⟩
      conv => whnf
      refine ⟨?_, ?_⟩
      ·conv => whnf
       repeat ((refine ⟨rfl, ?_⟩); conv => whnf)
       refine ⟨_, _, refarray_ok 3, by first | rfl | simp [noRoIf, noRoL, noRoV, noRoL_bys], ?_⟩
       conv => whnf
       refine ⟨?_, ?_⟩
       ·conv => whnf
        repeat ((refine ⟨rfl, ?_⟩); conv => whnf)
        refine ⟨_, _, refnum_ok e.kind, by first | rfl | simp [noRoIf, noRoL, noRoV, noRoL_bys], ?_⟩
        conv => whnf
        refine ⟨?_, ?_⟩
        ·conv => whnf
         repeat ((first | refine ⟨pureL_bys _, ?_⟩ | refine ⟨rfl, ?_⟩); conv => whnf)
         conv => whnf
         refine ⟨_, _, refbytes_ok e.val, by first | rfl | simp [noRoIf, noRoL, noRoV, noRoL_bys], ?_⟩
         conv => whnf
         repeat ((refine ⟨⟨rfl, rfl⟩, ?_⟩); conv => whnf)
         conv => whnf
         refine Does.freeze 1 rfl (wpc_sound (M := MF) (PL := PL0) (CU := noCut) TTok mixed _ _ _ ?_)
         conv => whnf
         exact ⟨⟨rfl, rfl, Eq.trans (b := sixV e (roW e.key)) (by kernel_rfl) (sixV_eq e), rfl, pureL_toks (sixT e)⟩, rfl⟩
        ·conv => whnf
         repeat ((first | refine ⟨pureL_bys _, ?_⟩ | refine ⟨rfl, ?_⟩); conv => whnf)
         refine ⟨_, _, refbytes_ok e.val, by first | rfl | simp [noRoIf, noRoL, noRoV, noRoL_bys], ?_⟩
         conv => whnf
         repeat ((refine ⟨⟨rfl, rfl⟩, ?_⟩); conv => whnf)
         conv => whnf
         conv => whnf
         refine Does.freeze 1 rfl (wpc_sound (M := MF) (PL := PL0) (CU := noCut) TTok mixed _ _ _ ?_)
         conv => whnf
         exact ⟨⟨rfl, rfl, Eq.trans (b := sixV e (roW e.key)) (by kernel_rfl) (sixV_eq e), rfl, pureL_toks (sixT e)⟩, rfl⟩
       ·conv => whnf
        repeat ((refine ⟨rfl, ?_⟩); conv => whnf)
        conv => whnf
        refine ⟨_, _, refnum_ok e.kind, by first | rfl | simp [noRoIf, noRoL, noRoV, noRoL_bys], ?_⟩
        conv => whnf
        repeat ((first | refine ⟨pureL_bys _, ?_⟩ | refine ⟨rfl, ?_⟩); conv => whnf)
        refine ⟨_, _, refbytes_ok e.val, by first | rfl | simp [noRoIf, noRoL, noRoV, noRoL_bys], ?_⟩
        conv => whnf
        repeat ((refine ⟨⟨rfl, rfl⟩, ?_⟩); conv => whnf)
        conv => whnf
        refine Does.freeze 1 rfl (wpc_sound (M := MF) (PL := PL0) (CU := noCut) TTok mixed _ _ _ ?_)
        conv => whnf
        exact ⟨⟨rfl, rfl, Eq.trans (b := sixV e (roW e.key)) (by kernel_rfl) (sixV_eq e), rfl, pureL_toks (sixT e)⟩, rfl⟩
      ·conv => whnf
       repeat ((refine ⟨rfl, ?_⟩); conv => whnf)
       conv => whnf
       refine ⟨_, _, refarray_ok 3, by first | rfl | simp [noRoIf, noRoL, noRoV, noRoL_bys], ?_⟩
       conv => whnf
       repeat ((refine ⟨rfl, ?_⟩); conv => whnf)
       refine ⟨_, _, refnum_ok e.kind, by first | rfl | simp [noRoIf, noRoL, noRoV, noRoL_bys], ?_⟩
       conv => whnf
       repeat ((first | refine ⟨pureL_bys _, ?_⟩ | refine ⟨rfl, ?_⟩); conv => whnf)
       refine ⟨_, _, refbytes_ok e.val, by first | rfl | simp [noRoIf, noRoL, noRoV, noRoL_bys], ?_⟩
       conv => whnf
       repeat ((refine ⟨⟨rfl, rfl⟩, ?_⟩); conv => whnf)
       conv => whnf
       refine Does.freeze 1 rfl (wpc_sound (M := MF) (PL := PL0) (CU := noCut) TTok mixed _ _ _ ?_)
       conv => whnf
       exact ⟨⟨rfl, rfl, Eq.trans (b := sixV e (roW e.key)) (by kernel_rfl) (sixV_eq e), rfl, pureL_toks (sixT e)⟩, rfl⟩
     ·conv => whnf
      repeat ((refine ⟨rfl, ?_⟩); conv => whnf)
      conv => whnf
      refine ⟨_, _, refnum_ok e.stamp, by first | rfl | simp [noRoIf, noRoL, noRoV, noRoL_bys], ?_⟩
      conv => whnf
      repeat ((refine ⟨rfl, ?_⟩); conv => whnf)
      refine ⟨_, _, refarray_ok 3, by first | rfl | simp [noRoIf, noRoL, noRoV, noRoL_bys], ?_⟩
      conv => whnf
      repeat ((refine ⟨rfl, ?_⟩); conv => whnf)
      refine ⟨_, _, refnum_ok e.kind, by first | rfl | simp [noRoIf, noRoL, noRoV, noRoL_bys], ?_⟩
      conv => whnf
      repeat ((first | refine ⟨pureL_bys _, ?_⟩ | refine ⟨rfl, ?_⟩); conv => whnf)
      refine ⟨_, _, refbytes_ok e.val, by first | rfl | simp [noRoIf, noRoL, noRoV, noRoL_bys], ?_⟩
      conv => whnf
      repeat ((refine ⟨⟨rfl, rfl⟩, ?_⟩); conv => whnf)
      conv => whnf
      refine Does.freeze 1 rfl (wpc_sound (M := MF) (PL := PL0) (CU := noCut) TTok mixed _ _ _ ?_)
      conv => whnf
      exact ⟨⟨rfl, rfl, Eq.trans (b := sixV e (roW e.key)) (by kernel_rfl) (sixV_eq e), rfl, pureL_toks (sixT e)⟩, rfl⟩
    ·conv => whnf
     repeat ((refine ⟨rfl, ?_⟩); conv => whnf)
     conv => whnf
     refine ⟨_, _, (refbytes_ok e.prev).arg1 he.prev.2.symm (cut32 he.prev.2 _), by first | rfl | simp [noRoIf, noRoL, noRoV, noRoL_bys], ?_⟩
     conv => whnf
     repeat ((refine ⟨rfl, ?_⟩); conv => whnf)
     refine ⟨_, _, refnum_ok e.stamp, by first | rfl | simp [noRoIf, noRoL, noRoV, noRoL_bys], ?_⟩
     conv => whnf
     repeat ((refine ⟨rfl, ?_⟩); conv => whnf)
     refine ⟨_, _, refarray_ok 3, by first | rfl | simp [noRoIf, noRoL, noRoV, noRoL_bys], ?_⟩
     conv => whnf
     repeat ((refine ⟨rfl, ?_⟩); conv => whnf)
     refine ⟨_, _, refnum_ok e.kind, by first | rfl | simp [noRoIf, noRoL, noRoV, noRoL_bys], ?_⟩
     conv => whnf
     repeat ((first | refine ⟨pureL_bys _, ?_⟩ | refine ⟨rfl, ?_⟩); conv => whnf)
     refine ⟨_, _, refbytes_ok e.val, by first | rfl | simp [noRoIf, noRoL, noRoV, noRoL_bys], ?_⟩
     conv => whnf
     repeat ((refine ⟨⟨rfl, rfl⟩, ?_⟩); conv => whnf)
     conv => whnf
     refine Does.freeze 1 rfl (wpc_sound (M := MF) (PL := PL0) (CU := noCut) TTok mixed _ _ _ ?_)
     conv => whnf
     exact ⟨⟨rfl, rfl, Eq.trans (b := sixV e (roW e.key)) (by kernel_rfl) (sixV_eq e), rfl, pureL_toks (sixT e)⟩, rfl⟩
   ·conv => whnf
    repeat ((refine ⟨rfl, ?_⟩); conv => whnf)
    conv => whnf
    refine ⟨_, _, refnum_ok e.seq, by first | rfl | simp [noRoIf, noRoL, noRoV, noRoL_bys], ?_⟩
    conv => whnf
    repeat ((refine ⟨rfl, ?_⟩); conv => whnf)
    refine ⟨_, _, (refbytes_ok e.prev).arg1 he.prev.2.symm (cut32 he.prev.2 _), by first | rfl | simp [noRoIf, noRoL, noRoV, noRoL_bys], ?_⟩
    conv => whnf
    repeat ((refine ⟨rfl, ?_⟩); conv => whnf)
    refine ⟨_, _, refnum_ok e.stamp, by first | rfl | simp [noRoIf, noRoL, noRoV, noRoL_bys], ?_⟩
    conv => whnf
    repeat ((refine ⟨rfl, ?_⟩); conv => whnf)
    refine ⟨_, _, refarray_ok 3, by first | rfl | simp [noRoIf, noRoL, noRoV, noRoL_bys], ?_⟩
    conv => whnf
    repeat ((refine ⟨rfl, ?_⟩); conv => whnf)
    refine ⟨_, _, refnum_ok e.kind, by first | rfl | simp [noRoIf, noRoL, noRoV, noRoL_bys], ?_⟩
    conv => whnf
    repeat ((first | refine ⟨pureL_bys _, ?_⟩ | refine ⟨rfl, ?_⟩); conv => whnf)
    refine ⟨_, _, refbytes_ok e.val, by first | rfl | simp [noRoIf, noRoL, noRoV, noRoL_bys], ?_⟩
    conv => whnf
    repeat ((refine ⟨⟨rfl, rfl⟩, ?_⟩); conv => whnf)
    conv => whnf
    refine Does.freeze 1 rfl (wpc_sound (M := MF) (PL := PL0) (CU := noCut) TTok mixed _ _ _ ?_)
    conv => whnf
    exact ⟨⟨rfl, rfl, Eq.trans (b := sixV e (roW e.key)) (by kernel_rfl) (sixV_eq e), rfl, pureL_toks (sixT e)⟩, rfl⟩
  ·conv => whnf
   repeat ((refine ⟨rfl, ?_⟩); conv => whnf)
   conv => whnf
   refine ⟨_, _, (refbytes_ok e.au).arg1 he.au.2.symm (cut32 he.au.2 _), by first | rfl | simp [noRoIf, noRoL, noRoV, noRoL_bys], ?_⟩
   conv => whnf
   repeat ((refine ⟨rfl, ?_⟩); conv => whnf)
   refine ⟨_, _, refnum_ok e.seq, by first | rfl | simp [noRoIf, noRoL, noRoV, noRoL_bys], ?_⟩
   conv => whnf
   repeat ((refine ⟨rfl, ?_⟩); conv => whnf)
   refine ⟨_, _, (refbytes_ok e.prev).arg1 he.prev.2.symm (cut32 he.prev.2 _), by first | rfl | simp [noRoIf, noRoL, noRoV, noRoL_bys], ?_⟩
   conv => whnf
   repeat ((refine ⟨rfl, ?_⟩); conv => whnf)
   refine ⟨_, _, refnum_ok e.stamp, by first | rfl | simp [noRoIf, noRoL, noRoV, noRoL_bys], ?_⟩
   conv => whnf
   repeat ((refine ⟨rfl, ?_⟩); conv => whnf)
   refine ⟨_, _, refarray_ok 3, by first | rfl | simp [noRoIf, noRoL, noRoV, noRoL_bys], ?_⟩
   conv => whnf
   repeat ((refine ⟨rfl, ?_⟩); conv => whnf)
   refine ⟨_, _, refnum_ok e.kind, by first | rfl | simp [noRoIf, noRoL, noRoV, noRoL_bys], ?_⟩
   conv => whnf
   repeat ((first | refine ⟨pureL_bys _, ?_⟩ | refine ⟨rfl, ?_⟩); conv => whnf)
   refine ⟨_, _, refbytes_ok e.val, by first | rfl | simp [noRoIf, noRoL, noRoV, noRoL_bys], ?_⟩
   conv => whnf
   repeat ((refine ⟨⟨rfl, rfl⟩, ?_⟩); conv => whnf)
   conv => whnf
   refine Does.freeze 1 rfl (wpc_sound (M := MF) (PL := PL0) (CU := noCut) TTok mixed _ _ _ ?_)
   conv => whnf
   exact ⟨⟨rfl, rfl, Eq.trans (b := sixV e (roW e.key)) (by kernel_rfl) (sixV_eq e), rfl, pureL_toks (sixT e)⟩, rfl⟩
 ·conv => whnf
  repeat ((refine ⟨rfl, ?_⟩); conv => whnf)
  conv => whnf
  refine ⟨_, _, refnum_ok 1, by first | rfl | simp [noRoIf, noRoL, noRoV, noRoL_bys], ?_⟩
  conv => whnf
  repeat ((refine ⟨rfl, ?_⟩); conv => whnf)
  refine ⟨_, _, (refbytes_ok e.au).arg1 he.au.2.symm (cut32 he.au.2 _), by first | rfl | simp [noRoIf, noRoL, noRoV, noRoL_bys], ?_⟩
  conv => whnf
  repeat ((refine ⟨rfl, ?_⟩); conv => whnf)
  refine ⟨_, _, refnum_ok e.seq, by first | rfl | simp [noRoIf, noRoL, noRoV, noRoL_bys], ?_⟩
  conv => whnf
  repeat ((refine ⟨rfl, ?_⟩); conv => whnf)
  refine ⟨_, _, (refbytes_ok e.prev).arg1 he.prev.2.symm (cut32 he.prev.2 _), by first | rfl | simp [noRoIf, noRoL, noRoV, noRoL_bys], ?_⟩
  conv => whnf
  repeat ((refine ⟨rfl, ?_⟩); conv => whnf)
  refine ⟨_, _, refnum_ok e.stamp, by first | rfl | simp [noRoIf, noRoL, noRoV, noRoL_bys], ?_⟩
  conv => whnf
  repeat ((refine ⟨rfl, ?_⟩); conv => whnf)
  refine ⟨_, _, refarray_ok 3, by first | rfl | simp [noRoIf, noRoL, noRoV, noRoL_bys], ?_⟩
  conv => whnf
  repeat ((refine ⟨rfl, ?_⟩); conv => whnf)
  refine ⟨_, _, refnum_ok e.kind, by first | rfl | simp [noRoIf, noRoL, noRoV, noRoL_bys], ?_⟩
  conv => whnf
  repeat ((first | refine ⟨pureL_bys _, ?_⟩ | refine ⟨rfl, ?_⟩); conv => whnf)
  refine ⟨_, _, refbytes_ok e.val, by first | rfl | simp [noRoIf, noRoL, noRoV, noRoL_bys], ?_⟩
  conv => whnf
  repeat ((refine ⟨⟨rfl, rfl⟩, ?_⟩); conv => whnf)
  conv => whnf
  refine Does.freeze 1 rfl (wpc_sound (M := MF) (PL := PL0) (CU := noCut) TTok mixed _ _ _ ?_)
  conv => whnf
  exact ⟨⟨rfl, rfl, Eq.trans (b := sixV e (roW e.key)) (by kernel_rfl) (sixV_eq e), rfl, pureL_toks (sixT e)⟩, rfl⟩
end
section
--KR
attribute [local irreducible] ifB fitP Does Weaker
def PLeb : Nat → Bool × Plan := plans [(1, (false, (takesTo [2] (.all [(0, (.all [(1, (.all [(3, (.all [(4, (takes [5]))]))])), (3, (.all [(1, (.all [(4, (takes [5]))]))]))]))]))))]
set_option maxRecDepth 20000 in
set_option maxHeartbeats 4000000 in
theorem refebytes_ok (e : Ent) (he : EntS e) : ACall Tryd.prog 79 [.agg (entC e)] (.own (encR validR (entTs e)).1.length 1 (bys (encR validR (entTs e)).1)) [] := by
 have ht := entTs_ok e he
 have hb := refEncode_ok (entTs e) ht.1 (fun t h => by have := ht.2 t h; omega)
 generalize encR validR (entTs e) = o at hb ⊢
 obtain ⟨o, er⟩ := o
 dsimp only at hb ⊢
 refine ACall.of_does TTok Tryd.func79 rfl Tryd.call79 rfl (wpc_sound (M := MF) (PL := PLeb) (CU := cutAt [100001]) TTok mixed _ _ _ ?_)
 conv => whnf
 repeat ((refine ⟨rfl, ?_⟩); conv => whnf)
 refine Does.freeze 0 rfl (Does.tidy [(1, .rop (entC e))] [] 1 22 rfl rfl rfl (by kernel_rfl) (by kernel_rfl) ?_)
 refine wpc_sound (M := MF) (PL := PLeb) (CU := noCut) TTok mixed _ _ _ ?_
 conv => whnf
 refine ⟨by kernel_rfl, ?_⟩
 conv => whnf
 repeat ((first | refine ⟨rfl, ?_⟩ | refine ⟨_, rfl, ?_⟩); conv => whnf)
 refine ⟨_, _, refarray_ok 7, by first | rfl | simp [noRoIf, noRoL, noRoV, noRoL_bys], ?_⟩
 conv => whnf
 refine ⟨?_, ?_⟩
 ·conv => whnf
  repeat ((first | refine ⟨entC_pure _, ?_⟩ | refine ⟨rfl, ?_⟩ | refine ⟨⟨rfl, rfl⟩, ?_⟩); conv => whnf)
  conv => whnf
  refine ⟨_, _, six_ok e he, by first | rfl | simp [noRoIf, noRoL, noRoV, noRoL_bys], ?_⟩
  conv => whnf
  conv => whnf
  refine Or.inl ⟨⟨rfl, rfl, by rw [toksC_length]; rfl⟩, ?_⟩
  conv => whnf
  repeat ((first | (refine ⟨⟨by first | (simp only [List.drop_zero, List.length_drop, hds_len]; omega) | exact Nat.le_of_ble_eq_true (by kernel_rfl), okB_none _⟩, ?_⟩) | refine ⟨rfl, ?_⟩ | (refine ⟨⟨rfl, ?_, ?_, ?_⟩, ?_⟩; (focus (first | (simp; done) | (simp; omega))); (focus (first | exact Or.inl rfl | exact Or.inr (by omega))); (focus (first | (simp [limB, lenB, offB]; done) | (simp [limB, lenB, offB]; omega))))); conv => whnf)
  refine ⟨_, _, (refbytes_ok e.sig).arg1 he.sig.2.symm (cut64 he.sig.2 _), by first | rfl | simp [noRoIf, noRoL, noRoV, noRoL_bys], ?_⟩
  conv => whnf
  repeat ((first | (refine Or.inl ⟨⟨rfl, ?_⟩, ?_⟩; (focus (first | rfl | (simp; done) | (rw [toksC_length]; omega)))) | refine ⟨rfl, ?_⟩ | refine ⟨⟨rfl, rfl⟩, ?_⟩); conv => whnf)
  refine ⟨⟨rfl, rfl, by kernel_rfl, by simp [limB]⟩, ?_⟩
  conv => whnf
  repeat ((first | (refine Or.inl ⟨⟨rfl, ?_⟩, ?_⟩; (focus (first | rfl | (simp; done) | (rw [toksC_length]; omega)))) | refine ⟨rfl, ?_⟩ | (refine And.intro ?_ ?_; (focus (simp [pureL, pureV, pureL_bys, pureL_toks, pureL_app]; done)))); conv => whnf)
  refine ⟨_, _, hb.arg1 rfl (by kernel_rfl), by first | rfl | simp [noRoIf, noRoL, noRoV, noRoL_bys], ?_⟩
  conv => whnf
  repeat ((refine ⟨⟨rfl, rfl, rfl, ?_, pureL_bys _⟩, ?_⟩; (focus (simp; done))); conv => whnf)
  rfl
 ·conv => whnf
  repeat ((first | refine ⟨entC_pure _, ?_⟩ | refine ⟨rfl, ?_⟩); conv => whnf)
  refine ⟨_, _, six_ok e he, by first | rfl | simp [noRoIf, noRoL, noRoV, noRoL_bys], ?_⟩
  conv => whnf
  repeat ((refine ⟨⟨rfl, rfl⟩, ?_⟩); conv => whnf)
  conv => whnf
  conv => whnf
  refine Or.inl ⟨⟨rfl, rfl, by rw [toksC_length]; rfl⟩, ?_⟩
  conv => whnf
  repeat ((first | (refine ⟨⟨by first | (simp only [List.drop_zero, List.length_drop, hds_len]; omega) | exact Nat.le_of_ble_eq_true (by kernel_rfl), okB_none _⟩, ?_⟩) | refine ⟨rfl, ?_⟩ | (refine ⟨⟨rfl, ?_, ?_, ?_⟩, ?_⟩; (focus (first | (simp; done) | (simp; omega))); (focus (first | exact Or.inl rfl | exact Or.inr (by omega))); (focus (first | (simp [limB, lenB, offB]; done) | (simp [limB, lenB, offB]; omega))))); conv => whnf)
  refine ⟨_, _, (refbytes_ok e.sig).arg1 he.sig.2.symm (cut64 he.sig.2 _), by first | rfl | simp [noRoIf, noRoL, noRoV, noRoL_bys], ?_⟩
  conv => whnf
  repeat ((first | (refine Or.inl ⟨⟨rfl, ?_⟩, ?_⟩; (focus (first | rfl | (simp; done) | (rw [toksC_length]; omega)))) | refine ⟨rfl, ?_⟩ | refine ⟨⟨rfl, rfl⟩, ?_⟩); conv => whnf)
  refine ⟨⟨rfl, rfl, by kernel_rfl, by simp [limB]⟩, ?_⟩
  conv => whnf
  repeat ((first | (refine Or.inl ⟨⟨rfl, ?_⟩, ?_⟩; (focus (first | rfl | (simp; done) | (rw [toksC_length]; omega)))) | refine ⟨rfl, ?_⟩ | (refine And.intro ?_ ?_; (focus (simp [pureL, pureV, pureL_bys, pureL_toks, pureL_app]; done)))); conv => whnf)
  refine ⟨_, _, hb.arg1 rfl (by kernel_rfl), by first | rfl | simp [noRoIf, noRoL, noRoV, noRoL_bys], ?_⟩
  conv => whnf
  repeat ((refine ⟨⟨rfl, rfl, rfl, ?_, pureL_bys _⟩, ?_⟩; (focus (simp; done))); conv => whnf)
  rfl
end
end Go.Proofs.YthnhpkpbjaelnaaDoor.Abs
