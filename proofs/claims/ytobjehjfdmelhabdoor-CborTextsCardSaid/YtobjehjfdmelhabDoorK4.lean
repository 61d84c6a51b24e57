/- Texts CY to X6, merged. -/
import Derived.Test.YtobjehjfdmelhabDoorRows
import Derived.Test.YtobjehjfdmelhabDoorProg
import Derived.Lib.LaidU8T
import Derived.PinnedBridge
import Derived.Test.YtobjehjfdmelhabDoorCards
import Derived.Test.YtobjehjfdmelhabDoorTie
import Derived.WalkKit
import Derived.ProofKit
import Derived.OpenShut
import Derived.ShutString
import Derived.ChangeOld
import Derived.Below
import Derived.SizedLaws
import Derived.Carry
import Derived.ChangeSlices
import Derived.LaidMore
import Derived.Stop.Joined
import Derived.SevenTiedAt
import Derived.Lay
import Derived.Test.YtobjehjfdmelhabDoorK3
section
set_option linter.unusedVariables false
set_option linter.unusedSimpArgs false
namespace Go.Proofs.YtobjehjfdmelhabDoor.Abs
open Go
def shf (p : Nat) (r : Nat × List Int) : Nat × List Int := (p + r.1, r.2)
theorem rLoop_shift {g g' : Nat → Option (Nat × List Int)} {mp : Bool} {p : Nat} (H : ∀ k, g' (p + k) = (g k).map (shf p)) : ∀ (n i at' : Nat) (b last : List Int), rLoop g' mp n i (p + at') b last = (rLoop g mp n i at' b last).map (shf p)
  | 0, i, at', b, last => rfl
  | n + 1, i, at', b, last => by
    unfold rLoop
    rw [H at']
    cases hg : g at' with
    | none => rfl
    | some r =>
      obtain ⟨a, x⟩ := r
      simp only [Option.map_some, shf]
      split
      · rfl
      split
      · split
        · rfl
        · exact rLoop_shift H n _ _ _ _
      · exact rLoop_shift H n _ _ _ _
theorem rLoop_imp {g g' : Nat → Option (Nat × List Int)} {mp : Bool} (H : ∀ k r, g k = some r → g' k = some r) : ∀ (n i at' : Nat) (b last : List Int) (r : Nat × List Int), rLoop g mp n i at' b last = some r → rLoop g' mp n i at' b last = some r
  | 0, i, at', b, last, r, h => h
  | n + 1, i, at', b, last, r, h => by
    unfold rLoop at h ⊢
    split at h
    · cases h
    rename_i a x hg
    rw [H _ _ hg]
    simp only
    split at h
    · cases h
    rename_i h1
    rw [if_neg h1]
    split at h
    · rename_i h2
      rw [if_pos h2]
      split at h
      · cases h
      · rename_i h3
        rw [if_neg h3]
        exact rLoop_imp H n _ _ _ _ _ h
    · rename_i h2
      rw [if_neg h2]
      exact rLoop_imp H n _ _ _ _ _ h
theorem rLoop_split {g : Nat → Option (Nat × List Int)} {mp : Bool} (m : Nat) : ∀ (n i at' : Nat) (b last : List Int) (r : Nat × List Int), rLoop g mp (n + m) i at' b last = some r →
    ∃ a' b' last', rLoop g mp n i at' b last = some (a', b') ∧ rLoop g mp m (i + n) a' b' last' = some r
  | 0, i, at', b, last, r, h => ⟨at', b, last, rfl, by rw [Nat.zero_add] at h; exact h⟩
  | n + 1, i, at', b, last, r, h => by
    rw [show n + 1 + m = n + m + 1 by omega] at h
    unfold rLoop at h
    split at h
    · cases h
    rename_i a x hg
    split at h
    · cases h
    rename_i h1
    rw [show i + (n + 1) = i + 1 + n by omega]
    split at h
    · rename_i h2
      split at h
      · cases h
      · rename_i h3
        obtain ⟨a', b', l', k1, k2⟩ := rLoop_split m n _ _ _ _ _ h
        refine ⟨a', b', l', ?_, k2⟩
        unfold rLoop
        rw [hg]
        simp only
        rw [if_neg h1, if_pos h2, if_neg h3]
        exact k1
    · rename_i h2
      obtain ⟨a', b', l', k1, k2⟩ := rLoop_split m n _ _ _ _ _ h
      refine ⟨a', b', l', ?_, k2⟩
      unfold rLoop
      rw [hg]
      simp only
      rw [if_neg h1, if_neg h2]
      exact k1
/-- On goes every step. -/
def Gos (g : Nat → Option (Nat × List Int)) (L : Nat) : Prop := ∀ k a x, g k = some (a, x) → k < a ∧ a ≤ L ∧ 0 < x.length
theorem rLoop_go {g : Nat → Option (Nat × List Int)} {mp : Bool} {L : Nat} (H : Gos g L) : ∀ (n i at' : Nat) (b last : List Int) (a : Nat) (bs : List Int), rLoop g mp n i at' b last = some (a, bs) → at' + n ≤ a ∧ (at' ≤ L → a ≤ L) ∧ b.length + n ≤ bs.length
  | 0, i, at', b, last, a, bs, h => by
    simp only [rLoop, Option.some.injEq, Prod.mk.injEq] at h
    rw [h.1, h.2]
    exact ⟨Nat.le_refl _, fun h => h, Nat.le_refl _⟩
  | n + 1, i, at', b, last, a, bs, h => by
    unfold rLoop at h
    split at h
    · cases h
    rename_i a1 x hg
    obtain ⟨q1, q2, q3⟩ := H _ _ _ hg
    have fin : ∀ lst, rLoop g mp n (i + 1) a1 (b ++ x) lst = some (a, bs) → at' + (n + 1) ≤ a ∧ (at' ≤ L → a ≤ L) ∧ b.length + (n + 1) ≤ bs.length := by
      intro lst hh
      obtain ⟨p1, p2, p3⟩ := rLoop_go H n _ _ _ _ _ _ hh
      simp only [List.length_append] at p3
      exact ⟨by omega, fun _ => p2 q2, by omega⟩
    split at h
    · cases h
    split at h
    · split at h
      · cases h
      · exact fin _ h
    · exact fin _ h
theorem putL_pos (M n : Int) : 0 < (putL M n).length := by simp [putL]
theorem rItem_go (u : List Int → Bool) (l : List Tok) : ∀ f : Nat, Gos (rItem u l f) l.length
  | 0 => fun k a x h => by
    unfold rItem at h
    split at h
    · cases h
    simp only at h
    have p0 := putL_pos
    split at h
    · cases h
    split at h
    · simp only [Option.some.injEq, Prod.mk.injEq] at h; obtain ⟨rfl, rfl⟩ := h; exact ⟨by omega, by omega, p0 _ _⟩
    split at h
    · simp only [Option.some.injEq, Prod.mk.injEq] at h; obtain ⟨rfl, rfl⟩ := h; exact ⟨by omega, by omega, p0 _ _⟩
    split at h
    · simp only [Option.some.injEq, Prod.mk.injEq] at h; obtain ⟨rfl, rfl⟩ := h; exact ⟨by omega, by omega, by simp only [List.length_append]; have := p0 2 (l[k].b.length : Int); omega⟩
    split at h
    · split at h
      · simp only [Option.some.injEq, Prod.mk.injEq] at h; obtain ⟨rfl, rfl⟩ := h; exact ⟨by omega, by omega, by simp only [List.length_append]; have := p0 3 (l[k].b.length : Int); omega⟩
      · cases h
    split at h
    · cases h
    · cases h
  | f + 1 => fun k a x h => by
    unfold rItem at h
    split at h
    · cases h
    simp only at h
    have p0 := putL_pos
    split at h
    · cases h
    split at h
    · simp only [Option.some.injEq, Prod.mk.injEq] at h; obtain ⟨rfl, rfl⟩ := h; exact ⟨by omega, by omega, p0 _ _⟩
    split at h
    · simp only [Option.some.injEq, Prod.mk.injEq] at h; obtain ⟨rfl, rfl⟩ := h; exact ⟨by omega, by omega, p0 _ _⟩
    split at h
    · simp only [Option.some.injEq, Prod.mk.injEq] at h; obtain ⟨rfl, rfl⟩ := h; exact ⟨by omega, by omega, by simp only [List.length_append]; have := p0 2 (l[k].b.length : Int); omega⟩
    split at h
    · split at h
      · simp only [Option.some.injEq, Prod.mk.injEq] at h; obtain ⟨rfl, rfl⟩ := h; exact ⟨by omega, by omega, by simp only [List.length_append]; have := p0 3 (l[k].b.length : Int); omega⟩
      · cases h
    split at h
    · split at h
      · cases h
      have ih := rItem_go u l f
      split at h
      · obtain ⟨q1, q2, q3⟩ := rLoop_go ih _ _ _ _ _ _ _ h
        exact ⟨by omega, q2 (by omega), by have := p0 5 l[k].n; omega⟩
      · obtain ⟨q1, q2, q3⟩ := rLoop_go ih _ _ _ _ _ _ _ h
        exact ⟨by omega, q2 (by omega), by have := p0 4 l[k].n; omega⟩
    · cases h
/-- What an item is, of its token and of what stands behind. -/
def rTok (u : List Int → Bool) (g : Nat → Option (Nat × List Int)) (z : Bool) (t : Tok) (k : Nat) : Option (Nat × List Int) :=
  if rBad t then none
  else if t.k = 1 then some (k, putL 0 t.n)
  else if t.k = 2 then some (k, putL 1 t.n)
  else if t.k = 3 then some (k, putL 2 t.b.length ++ t.b)
  else if t.k = 4 then if u t.b = true then some (k, putL 3 t.b.length ++ t.b) else none
  else if t.k = 5 ∨ t.k = 6 then
    if z = true then none
    else if 64 < t.n then none
    else if t.k = 6 then rLoop g true (2 * t.n.toNat) 0 k (putL 5 t.n) []
    else rLoop g false t.n.toNat 0 k (putL 4 t.n) []
  else none
def rSub (u : List Int → Bool) (l : List Tok) : Nat → Nat → Option (Nat × List Int)
  | 0 => fun _ => none
  | f + 1 => rItem u l f
theorem rItem_tok (u : List Int → Bool) (l : List Tok) (f k : Nat) (hk : k < l.length) : rItem u l f k = rTok u (rSub u l f) (decide (f = 0)) l[k] (k + 1) := by
  cases f with
  | zero =>
    unfold rItem rTok rSub
    rw [dif_neg (by omega)]
    simp
  | succ f =>
    unfold rItem rTok rSub
    rw [dif_neg (by omega)]
    simp
theorem rItem_none (u : List Int → Bool) (l : List Tok) (f k : Nat) (hk : l.length ≤ k) : rItem u l f k = none := by
  unfold rItem
  rw [dif_pos hk]
theorem rTok_shift {u : List Int → Bool} {g g' : Nat → Option (Nat × List Int)} {z : Bool} {p : Nat} (H : ∀ k, g' (p + k) = (g k).map (shf p)) (t : Tok) (k : Nat) : rTok u g' z t (p + k) = (rTok u g z t k).map (shf p) := by
  unfold rTok
  split
  · rfl
  split
  · rfl
  split
  · rfl
  split
  · rfl
  split
  · split <;> rfl
  split
  · split
    · rfl
    split
    · rfl
    split
    · exact rLoop_shift H _ _ _ _ _
    · exact rLoop_shift H _ _ _ _ _
  · rfl
theorem rTok_imp {u : List Int → Bool} {g g' : Nat → Option (Nat × List Int)} {z z' : Bool} (hz : z' = true → z = true) (H : ∀ k r, g k = some r → g' k = some r) (t : Tok) (k : Nat) (r : Nat × List Int) (h : rTok u g z t k = some r) : rTok u g' z' t k = some r := by
  unfold rTok at h ⊢
  split at h
  · cases h
  rename_i h0; rw [if_neg h0]
  split at h
  · rename_i h1; rw [if_pos h1]; exact h
  rename_i h1; rw [if_neg h1]
  split at h
  · rename_i h2; rw [if_pos h2]; exact h
  rename_i h2; rw [if_neg h2]
  split at h
  · rename_i h3; rw [if_pos h3]; exact h
  rename_i h3; rw [if_neg h3]
  split at h
  · rename_i h4; rw [if_pos h4]; exact h
  rename_i h4; rw [if_neg h4]
  split at h
  · rename_i h5
    rw [if_pos h5]
    split at h
    · cases h
    rename_i h6
    rw [if_neg (fun e => h6 (hz e))]
    split at h
    · cases h
    rename_i h7
    rw [if_neg h7]
    split at h
    · rename_i h8; rw [if_pos h8]; exact rLoop_imp H _ _ _ _ _ _ h
    · rename_i h8; rw [if_neg h8]; exact rLoop_imp H _ _ _ _ _ _ h
  · cases h
theorem rItem_shift (u : List Int → Bool) (pre l : List Tok) : ∀ (f k : Nat), rItem u (pre ++ l) f (pre.length + k) = (rItem u l f k).map (shf pre.length)
  | f, k => by
    by_cases hk : k < l.length
    · rw [rItem_tok u (pre ++ l) f (pre.length + k) (by simp; omega), rItem_tok u l f k hk]
      have e : (pre ++ l)[pre.length + k]'(by simp; omega) = l[k] := by simp [List.getElem_append_right]
      rw [e, show pre.length + k + 1 = pre.length + (k + 1) by omega]
      cases f with
      | zero => exact rTok_shift (fun k => rfl) _ _
      | succ f => exact rTok_shift (fun k => rItem_shift u pre l f k) _ _
    · rw [rItem_none _ _ _ _ (by simp; omega), rItem_none _ _ _ _ (by omega)]
      rfl
theorem rItem_ext (u : List Int → Bool) (l q : List Tok) : ∀ (f k : Nat) (r : Nat × List Int), rItem u l f k = some r → rItem u (l ++ q) f k = some r
  | f, k, r, h => by
    by_cases hk : k < l.length
    · rw [rItem_tok u l f k hk] at h
      rw [rItem_tok u (l ++ q) f k (by simp; omega)]
      have e : (l ++ q)[k]'(by simp; omega) = l[k] := by simp [List.getElem_append_left, hk]
      rw [e]
      cases f with
      | zero => exact rTok_imp (fun h => h) (fun k r h => h) _ _ _ h
      | succ f => exact rTok_imp (fun h => h) (fun k r h => rItem_ext u l q f k r h) _ _ _ h
    · rw [rItem_none _ _ _ _ (by omega)] at h
      cases h
theorem rItem_deep (u : List Int → Bool) (l : List Tok) : ∀ (f k : Nat) (r : Nat × List Int), rItem u l f k = some r → rItem u l (f + 1) k = some r
  | f, k, r, h => by
    by_cases hk : k < l.length
    · rw [rItem_tok u l f k hk] at h
      rw [rItem_tok u l (f + 1) k hk]
      cases f with
      | zero => exact rTok_imp (fun h => by simp at h) (fun k r h => by cases h) _ _ _ h
      | succ f => exact rTok_imp (fun h => by simp at h) (fun k r h => rItem_deep u l f k r h) _ _ _ h
    · rw [rItem_none _ _ _ _ (by omega)] at h
      cases h
/-- An array of three: its head, and theirs. -/
theorem inside3 {u : List Int → Bool} {a b c : List Tok} {x y z s : List Int} (ha : encR u a = (x, 0)) (hb : encR u b = (y, 0)) (hc : encR u c = (z, 0)) (h : encR u ([⟨5, 3, []⟩] ++ a ++ b ++ c) = (s, 0)) : s = [131] ++ x ++ y ++ z := by
  rw [encR_iff] at ha hb hc h
  obtain ⟨_, ha, _⟩ := ha
  obtain ⟨_, hb, _⟩ := hb
  obtain ⟨_, hc, _⟩ := hc
  obtain ⟨_, h, _⟩ := h
  have place : ∀ (pre l post : List Tok) (w : List Int), rItem u l 6 0 = some (l.length, w) → ∀ r, rItem u (pre ++ l ++ post) 5 pre.length = some r → r = (pre.length + l.length, w) := by
    intro pre l post w hw r hr
    have h1 := rItem_ext u (pre ++ l) post 6 pre.length (pre.length + l.length, w) (by
      have := rItem_shift u pre l 6 0
      rw [hw] at this
      simpa [shf] using this)
    have h2 := rItem_deep _ _ _ _ _ hr
    rw [h1] at h2
    exact (Option.some.inj h2).symm
  rw [rItem_tok _ _ _ _ (by simp)] at h
  have e0 : ([⟨5, 3, []⟩] ++ a ++ b ++ c : List Tok)[0]'(by simp) = ⟨5, 3, []⟩ := by simp
  rw [e0] at h
  have ep : putL 4 3 = [131] := by decide
  unfold rTok rSub at h
  rw [if_neg (by simp [rBad]), if_neg (by simp), if_neg (by simp), if_neg (by simp), if_neg (by simp), if_pos (by simp), if_neg (by simp), if_neg (by simp), if_neg (by simp)] at h
  simp only [ep, show (3 : Int).toNat = 3 from rfl] at h
  unfold rLoop at h
  split at h
  · cases h
  rename_i a1 x1 h1
  split at h
  · cases h
  rw [if_neg (by simp)] at h
  unfold rLoop at h
  split at h
  · cases h
  rename_i a2 x2 h2
  split at h
  · cases h
  rw [if_neg (by simp)] at h
  unfold rLoop at h
  split at h
  · cases h
  rename_i a3 x3 h3
  split at h
  · cases h
  rw [if_neg (by simp)] at h
  simp only [rLoop, Option.some.injEq, Prod.mk.injEq] at h
  have k1 := place [⟨5, 3, []⟩] a (b ++ c) x ha (a1, x1) (by simpa [List.append_assoc] using h1)
  simp only [Prod.mk.injEq, List.length_singleton] at k1
  obtain ⟨rfl, rfl⟩ := k1
  have k2 := place ([⟨5, 3, []⟩] ++ a) b c y hb (a2, x2) (by simpa [List.append_assoc, Nat.add_comm] using h2)
  simp only [Prod.mk.injEq, List.length_append, List.length_singleton] at k2
  obtain ⟨rfl, rfl⟩ := k2
  have k3 := place ([⟨5, 3, []⟩] ++ a ++ b) c [] z hc (a3, x3) (by
    rw [show ([⟨5, 3, []⟩] ++ a ++ b : List Tok).length = 1 + a.length + b.length by simp; omega]
    simpa using h3)
  simp only [Prod.mk.injEq] at k3
  rw [← h.2, k3.2]
end Go.Proofs.YtobjehjfdmelhabDoor.Abs
end
section
set_option linter.unusedVariables false
set_option linter.unusedSimpArgs false
namespace Go.Proofs.YtobjehjfdmelhabDoor.Abs
open Go
theorem rLoop_at {g : Nat → Option (Nat × List Int)} {mp : Bool} : ∀ (n i at' : Nat) (b b' last : List Int) (a a' : Nat) (bs bs' : List Int), rLoop g mp n i at' b last = some (a, bs) → rLoop g mp n i at' b' last = some (a', bs') → a = a'
  | 0, i, at', b, b', last, a, a', bs, bs', h, h' => by
    simp only [rLoop, Option.some.injEq, Prod.mk.injEq] at h h'
    omega
  | n + 1, i, at', b, b', last, a, a', bs, bs', h, h' => by
    unfold rLoop at h h'
    cases hg : g at' with
    | none => rw [hg] at h; cases h
    | some r =>
      obtain ⟨a1, x⟩ := r
      rw [hg] at h h'
      simp only at h h'
      split at h
      · cases h
      split at h'
      · cases h'
      split at h
      · rename_i h2
        rw [if_pos h2] at h'
        split at h
        · cases h
        rename_i h3
        rw [if_neg h3] at h'
        exact rLoop_at n _ _ _ _ _ _ _ _ _ h h'
      · rename_i h2
        rw [if_neg h2] at h'
        exact rLoop_at n _ _ _ _ _ _ _ _ _ h h'
/-- A loop of more rounds ends further on. -/
theorem rLoop_more {g : Nat → Option (Nat × List Int)} {mp : Bool} {L : Nat} (H : Gos g L) (n d : Nat) (hd : 0 < d) (b b' : List Int) (a a' : Nat) (bs bs' : List Int) (h : rLoop g mp n 0 0 b [] = some (a, bs)) (h' : rLoop g mp (n + d) 0 0 b' [] = some (a', bs')) : a < a' := by
  obtain ⟨a1, b1, l1, k1, k2⟩ := rLoop_split d n 0 0 b' [] _ h'
  obtain rfl := rLoop_at n 0 0 b b' [] a a1 bs b1 h k1
  have := (rLoop_go H _ _ _ _ _ _ _ k2).1
  omega
theorem rTok_many {u : List Int → Bool} {g : Nat → Option (Nat × List Int)} {t : Tok} {r : Nat × List Int} (hk : t.k = 5 ∨ t.k = 6) (h : rTok u g false t 0 = some r) :
    t.b = [] ∧ 0 ≤ t.n ∧ t.n ≤ 64 ∧ rLoop g (decide (t.k = 6)) (if t.k = 6 then 2 * t.n.toNat else t.n.toNat) 0 0 (putL (t.k - 1) t.n) [] = some r := by
  unfold rTok at h
  split at h
  · cases h
  rename_i h0
  simp only [rBad] at h0
  rw [if_neg (show ¬ t.k = 1 by omega), if_neg (show ¬ t.k = 2 by omega), if_neg (show ¬ t.k = 3 by omega), if_neg (show ¬ t.k = 4 by omega), if_neg (show ¬ (false = true) by simp)] at h
  split at h
  · cases h
  rename_i h1
  refine ⟨List.length_eq_zero_iff.1 (by omega), by omega, by omega, ?_⟩
  split at h
  · rename_i h6
    rw [h6]
    simpa using h
  · rename_i h6
    have h5 : t.k = 5 := by omega
    rw [h5]
    simpa using h
theorem rItem_cons {u : List Int → Bool} {t0 : Tok} {t : List Tok} {a : Nat} {b : List Int} (h : rItem u (t0 :: t) 6 0 = some (a + 1, b)) : rTok u (rItem u t 5) false t0 0 = some (a, b) := by
  rw [rItem_tok _ _ _ _ (by simp)] at h
  have e := rTok_shift (u := u) (g := rItem u t 5) (g' := rItem u (t0 :: t) 5) (z := false) (p := 1) (fun k => by
    have := rItem_shift u [t0] t 5 k
    simpa using this) t0 0
  simp only [List.getElem_cons_zero] at h
  rw [show (decide (6 = 0)) = false from rfl] at h
  rw [show (0 + 1 : Nat) = 1 + 0 from rfl, show rSub u (t0 :: t) 6 = rItem u (t0 :: t) 5 from rfl, e] at h
  cases hr : rTok u (rItem u t 5) false t0 0 with
  | none => rw [hr] at h; cases h
  | some r =>
    rw [hr] at h
    simp only [Option.map_some, shf, Option.some.injEq, Prod.mk.injEq] at h
    obtain ⟨r1, r2⟩ := r
    simp only at h
    rw [h.2, show r1 = a by omega]
theorem short_enc {u : List Int → Bool} {t0 : Tok} {t : List Tok} {b : List Int} {n' : Int} (hk : t0.k = 5 ∨ t0.k = 6) (h : encR u (t0 :: t) = (b, 0)) (hn : n' ≠ t0.n) : encR u (⟨t0.k, n', t0.b⟩ :: t) = ([], 1) := by
  rcases encR_or u (⟨t0.k, n', t0.b⟩ :: t) with q | ⟨s, q⟩
  · exact q
  exfalso
  rw [encR_iff] at h q
  obtain ⟨_, h, _⟩ := h
  obtain ⟨_, q, _⟩ := q
  obtain ⟨h1, h2, h3, h4⟩ := rTok_many hk (rItem_cons (by simpa using h))
  obtain ⟨q1, q2, q3, q4⟩ := rTok_many (t := ⟨t0.k, n', t0.b⟩) hk (rItem_cons (by simpa using q))
  simp only at q2 q3 q4
  have H := rItem_go u t 5
  have key : ∀ (m m' : Nat) (b b' : List Int) (s s' : List Int) (mp : Bool), m ≠ m' → rLoop (rItem u t 5) mp m 0 0 b [] = some (t.length, s) → rLoop (rItem u t 5) mp m' 0 0 b' [] = some (t.length, s') → False := by
    intro m m' b b' s s' mp hm e e'
    rcases Nat.lt_or_ge m m' with hlt | hge
    · have := rLoop_more H m (m' - m) (by omega) b b' _ _ _ _ e (by rw [show m + (m' - m) = m' by omega]; exact e')
      omega
    · have := rLoop_more H m' (m - m') (by omega) b' b _ _ _ _ e' (by rw [show m' + (m - m') = m by omega]; exact e)
      omega
  refine key _ _ _ _ _ _ _ ?_ h4 q4
  split <;> omega
-- the parser
theorem pMany_bad {g : Pa → Pa} : ∀ (n : Nat) (p : Pa), p.bad = true → pMany g n p = p
  | 0, p, _ => rfl
  | n + 1, p, h => by rw [pMany, if_pos h]
theorem pMany_add {g : Pa → Pa} : ∀ (n d : Nat) (p : Pa), pMany g (n + d) p = pMany g d (pMany g n p)
  | 0, d, p => by rw [Nat.zero_add]; rfl
  | n + 1, d, p => by
    rw [show n + 1 + d = n + d + 1 by omega, pMany, pMany]
    split
    · rename_i h; rw [pMany_bad d p h]
    · exact pMany_add n d _
structure Sm (p q : Pa) : Prop where
  a : p.at' = q.at'
  b : p.bad = q.bad
  l : p.l.length = q.l.length
  o : 1 ≤ p.at'
theorem pMany_sim {g h : Pa → Pa} (H : ∀ p q, Sm p q → Sm (g p) (h q)) : ∀ (n : Nat) (p q : Pa), Sm p q → Sm (pMany g n p) (pMany h n q)
  | 0, p, q, s => s
  | n + 1, p, q, s => by
    rw [pMany, pMany, s.b]
    split
    · exact s
    · exact pMany_sim H n _ _ (H _ _ s)
theorem getR_tail {c0 c1 : Int} {T : List Int} {k : Nat} (hk : 1 ≤ k) : getR (c0 :: T) k = getR (c1 :: T) k := by
  obtain ⟨j, rfl⟩ : ∃ j, k = j + 1 := ⟨k - 1, by omega⟩
  unfold getR
  simp only [List.length_cons, Int.toNat_natCast, List.getElem_cons_succ, List.drop_succ_cons]
theorem pPart_sim {c0 c1 : Int} {T : List Int} {k n : Int} (hn : 0 ≤ n) {x : Nat} (hx : 1 ≤ x) {l m : List Tok} (hl : l.length = m.length) : Sm (pPart (c0 :: T) k n x l) (pPart (c1 :: T) k n x m) := by
  unfold pPart
  simp only [List.length_cons]
  split
  · exact ⟨rfl, rfl, by simp [hl], hx⟩
  · exact ⟨rfl, rfl, by simp [hl], by simp only; omega⟩
theorem pItem_sim {c0 c1 : Int} {T : List Int} (hb : Byt (c0 :: T)) (hc : Byt (c1 :: T)) : ∀ (f : Nat) (p q : Pa), Sm p q → Sm (pItem (c0 :: T) f p) (pItem (c1 :: T) f q)
  | 0, p, q, s => ⟨s.a, rfl, s.l, s.o⟩
  | f + 1, p, q, s => by
    have eg : getR (c0 :: T) p.at' = getR (c1 :: T) q.at' := by rw [← s.a]; exact getR_tail s.o
    have eb : pBad (c0 :: T) p ↔ pBad (c1 :: T) q := by unfold pBad; rw [eg, s.b, s.l]
    unfold pItem
    by_cases h : pBad (c1 :: T) q
    · rw [if_pos h, if_pos (eb.2 h)]
      exact ⟨s.a, rfl, s.l, s.o⟩
    · rw [if_neg h, if_neg (fun e => h (eb.1 e)), eg]
      simp only [pBad, not_or] at h
      obtain ⟨M, n, X, e, _, hn, hX, _⟩ := getR_right (c1 :: T) hc q.at' (by omega)
      have hX1 : 1 ≤ X := by
        rcases getR_says (c1 :: T) hc q.at' with ⟨z, _⟩ | ⟨z, _⟩ | ⟨k, m, hk, n', hkk, hkm, hn0, hn1, z, _⟩
        · rw [z] at e; simp at e
        · rw [z] at e; simp at e
        · rw [z] at e
          simp only [Prod.mk.injEq] at e
          omega
      rw [e]
      simp only [Int.toNat_natCast]
      have ih := pItem_sim hb hc f
      have hl := s.l
      unfold pGo
      split
      · exact ⟨rfl, rfl, by simp [hl], hX1⟩
      split
      · exact ⟨rfl, rfl, by simp [hl], hX1⟩
      split
      · exact pPart_sim hn.1 hX1 hl
      split
      · exact pPart_sim hn.1 hX1 hl
      split
      · exact pMany_sim ih _ _ _ ⟨rfl, rfl, by simp [hl], hX1⟩
      split
      · exact pMany_sim ih _ _ _ ⟨rfl, rfl, by simp [hl], hX1⟩
      · exact ⟨rfl, rfl, hl, hX1⟩
theorem getR_end (b : List Int) (k : Nat) (h : b.length ≤ k) : (getR b k).2.2.2 ≠ 0 := by
  unfold getR
  split
  · simp
  · rw [dif_neg (by simp; omega)]; simp
theorem pItem_in {b : List Int} {f : Nat} {p : Pa} (h : (pItem b f p).bad = false) : p.bad = false ∧ p.at' < b.length := by
  cases f with
  | zero => simp [pItem] at h
  | succ f =>
    unfold pItem at h
    split at h
    · simp at h
    · rename_i hh
      simp only [pBad, not_or] at hh
      refine ⟨by simpa using hh.1, ?_⟩
      rcases Nat.lt_or_ge p.at' b.length with h' | h'
      · exact h'
      · exact absurd (Classical.not_not.1 hh.2.1) (getR_end b _ h')
theorem pItem_end {b : List Int} {f : Nat} {p : Pa} (h : b.length ≤ p.at') : (pItem b f p).bad = true := by
  cases hh : (pItem b f p).bad
  · have := (pItem_in hh).2
    omega
  · rfl
theorem pMany_ne {b c : List Int} {g h : Pa → Pa} {L : Nat} (hs : ∀ p q, Sm p q → Sm (g p) (h q)) (hg : ∀ p, (g p).bad = false → p.at' < L) (hh : ∀ p, L ≤ p.at' → (h p).bad = true) {m m' : Nat} (hm : m ≠ m') {p q : Pa} (s : Sm p q)
    (h1 : (pMany g m p).bad = false) (h2 : (pMany g m p).at' = L) : (pMany h m' q).bad = true ∨ (pMany h m' q).at' ≠ L := by
  rcases Nat.lt_or_ge m m' with hlt | hge
  · left
    have sm := pMany_sim hs m p q s
    obtain ⟨d, hd⟩ : ∃ d, m' = m + (d + 1) := ⟨m' - m - 1, by omega⟩
    rw [hd, pMany_add, pMany, if_neg (by rw [← sm.b, h1]; simp)]
    have := hh (pMany h m q) (by rw [← sm.a]; omega)
    rw [pMany_bad _ _ this]
    exact this
  · obtain ⟨d, hd⟩ : ∃ d, m = m' + (d + 1) := ⟨m - m' - 1, by omega⟩
    have sm := pMany_sim hs m' p q s
    rw [hd, pMany_add, pMany] at h1
    by_cases hb : (pMany g m' p).bad = true
    · rw [if_pos hb] at h1
      rw [hb] at h1; cases h1
    · rw [if_neg hb] at h1
      have hb2 : (g (pMany g m' p)).bad = false := by
        cases hx : (g (pMany g m' p)).bad
        · rfl
        · rw [pMany_bad _ _ hx, hx] at h1; cases h1
      right
      have := hg _ hb2
      rw [← sm.a]
      omega
theorem decR_of_bad {u : List Int → Bool} {b : List Int} (h : (pItem b 7 ⟨0, [], false⟩).bad = true ∨ (pItem b 7 ⟨0, [], false⟩).at' ≠ b.length) : decR u b = ([], 3) := by
  unfold decR
  split
  · rfl
  · rw [if_pos]
    rcases h with h | h
    · simp [h]
    · simp [h]
theorem putL_small {M n : Int} (h0 : 0 ≤ n) (h : n < 24) : putL M n = [M * 32 + n] := by
  simp [putL, sizeR, h, beAcc]
theorem short_head {u : List Int → Bool} {t0 : Tok} {t : List Tok} {b : List Int} (hk : t0.k = 5 ∨ t0.k = 6) (h : encR u (t0 :: t) = (b, 0)) : ∃ T, b = putL (t0.k - 1) t0.n ++ T ∧ 0 ≤ t0.n ∧ t0.n ≤ 64 ∧ t0.b = [] := by
  rw [encR_iff] at h
  obtain ⟨_, h, _⟩ := h
  obtain ⟨h1, h2, h3, h4⟩ := rTok_many hk (rItem_cons (by simpa using h))
  obtain ⟨T, hT⟩ := rLoop_grow _ _ _ _ _ _ _ h4
  exact ⟨T, hT.symm, h2, h3, h1⟩
theorem short_low {M n : Int} {T : List Int} (hM : 0 ≤ M) (h0 : 0 ≤ n) (h1 : n ≤ 64) (h : ((putL M n ++ T).getD 0 0) % 32 ≤ 22) : n ≤ 22 ∧ putL M n ++ T = (M * 32 + n) :: T := by
  have hc : n < 24 := by
    rcases sizeR_cases n with ⟨e, h⟩ | e | e | e | e
    · exact h
    all_goals
      simp [putL, e] at h <;> omega
  rw [putL_small h0 hc] at h ⊢
  simp at h
  exact ⟨by omega, rfl⟩
theorem short_dec {u : List Int → Bool} {k N n' : Int} {t : List Tok} {T : List Int} (hto : ToksOk (⟨k, N, []⟩ :: t)) (hk : k = 5 ∨ k = 6) (h0 : 0 ≤ N) (h22 : N ≤ 22) (h : encR u (⟨k, N, []⟩ :: t) = (((k - 1) * 32 + N) :: T, 0))
    (hn : n' ≠ N) (hn0 : 0 ≤ n') (hn1 : n' ≤ 23) : decR u (((k - 1) * 32 + n') :: T) = ([], 3) := by
  have hb : Byt (((k - 1) * 32 + N) :: T) := by
    have := wItem_byt u (⟨k, N, []⟩ :: t) hto 6 ⟨0, [], false⟩ (by simp [Byt])
    rw [(encR_yes h).2.1] at this
    exact this
  have hc : Byt (((k - 1) * 32 + n') :: T) := by
    intro x hx
    rcases List.mem_cons.1 hx with rfl | hx
    · omega
    · exact hb x (by simp [hx])
  apply decR_of_bad
  have hp := pItem_enc hto h []
  rw [List.append_nil] at hp
  have go : ∀ (m : Int), 0 ≤ m → m ≤ 23 → pItem (((k - 1) * 32 + m) :: T) 7 ⟨0, [], false⟩ = pMany (pItem (((k - 1) * 32 + m) :: T) 6) (if k = 5 then m.toNat else (2 * min m 65).toNat) ⟨1, [⟨k, m, []⟩], false⟩ := by
    intro m m0 m1
    have e := pItem_at (s := (((k - 1) * 32 + m) :: T)) (w := ⟨0, [], false⟩) (M := k - 1) (n := m) (L := []) 6 (by omega) m0 (by omega) (by rw [putL_small m0 (by omega)]; exact ⟨T, rfl⟩) (by simp)
    simp only [List.length_nil, List.nil_append, putL_small m0 (show m < 24 by omega), List.length_singleton] at e
    rw [e]
    unfold pGo
    rw [if_neg (by omega), if_neg (by omega), if_neg (by omega), if_neg (by omega)]
    rcases hk with rfl | rfl
    · rw [if_pos (by omega), if_pos rfl]
      rfl
    · rw [if_neg (by omega), if_pos (by omega), if_neg (by omega)]
      rfl
  rw [go N h0 (by omega)] at hp
  rw [go n' hn0 hn1]
  have hL : ((((k - 1) * 32 + N) :: T).length) = ((((k - 1) * 32 + n') :: T).length) := by simp
  rw [← hL]
  refine pMany_ne (b := []) (c := []) (fun p q s => pItem_sim hb hc 6 p q s) (fun p hp => (pItem_in hp).2) (fun p hp => pItem_end (by rw [← hL]; exact hp)) (m := (if k = 5 then N.toNat else (2 * min N 65).toNat)) (p := ⟨1, [⟨k, N, []⟩], false⟩) ?_ ⟨rfl, rfl, rfl, Nat.le_refl 1⟩ ?_ ?_
  · split <;> omega
  · rw [hp]
  · rw [hp]
end Go.Proofs.YtobjehjfdmelhabDoor.Abs
end
section
set_option linter.unusedVariables false
set_option linter.unusedSimpArgs false
namespace Go.Proofs.YtobjehjfdmelhabDoor.Abs
open Go
theorem sizeR_range' (n : Int) : (sizeR n = (0, n) ∧ n < 24) ∨ (sizeR n = (1, 24) ∧ 24 ≤ n ∧ n < 256) ∨ (sizeR n = (2, 25) ∧ 256 ≤ n ∧ n < 65536) ∨ (sizeR n = (4, 26) ∧ 65536 ≤ n ∧ n < 4294967296) ∨ (sizeR n = (8, 27) ∧ 4294967296 ≤ n) := by
  unfold sizeR
  repeat' split
  all_goals simp
  all_goals omega
theorem putL_lt' (M A B : Int) (hA : 0 ≤ A) (hA2 : A < 9223372036854775808) (hB : 0 ≤ B) (hB2 : B < 9223372036854775808) : bytesLt (putL M A) (putL M B) = decide (A < B) := by
  have p1 : (256 : Int) ^ 1 = 256 := by decide
  have p2 : (256 : Int) ^ 2 = 65536 := by decide
  have p4 : (256 : Int) ^ 4 = 4294967296 := by decide
  have p8 : (256 : Int) ^ 8 = 18446744073709551616 := by decide
  unfold putL
  rcases sizeR_range' A with ⟨ea, ra⟩ | ⟨ea, ra⟩ | ⟨ea, ra⟩ | ⟨ea, ra⟩ | ⟨ea, ra⟩ <;> rcases sizeR_range' B with ⟨eb, rb⟩ | ⟨eb, rb⟩ | ⟨eb, rb⟩ | ⟨eb, rb⟩ | ⟨eb, rb⟩ <;> rw [ea, eb] <;>
    simp only [bytesLt] <;>
    first
    | (rw [show beAcc A 0 0 = [] from rfl, show beAcc B 0 0 = [] from rfl]
       by_cases h : A < B <;> simp [h, bytesLt])
    | (rw [beAcc_lt _ A B hA (by omega) hB (by omega)]
       by_cases h : A < B <;> simp [h])
    | (have h : A < B := by omega
       simp [h] <;> omega)
    | (have h : ¬ A < B := by omega
       simp [h] <;> omega)
/-- The pairs of a map, in a row. -/
def pairs : List (Tok × Tok) → List Tok
  | [] => []
  | p :: r => p.1 :: p.2 :: pairs r
theorem pairs_length : ∀ l : List (Tok × Tok), (pairs l).length = 2 * l.length
  | [] => rfl
  | p :: r => by simp [pairs, pairs_length r]; omega
theorem pairs_app : ∀ a b : List (Tok × Tok), pairs (a ++ b) = pairs a ++ pairs b
  | [], b => rfl
  | p :: a, b => by simp [pairs, pairs_app a b]
/-- What a plain item's bytes are. -/
def flatB (u : List Int → Bool) (t : Tok) : Option (List Int) :=
  if rBad t then none
  else if t.k = 1 then some (putL 0 t.n)
  else if t.k = 4 then if u t.b = true then some (putL 3 t.b.length ++ t.b) else none
  else none
theorem rItem_flat {u : List Int → Bool} {l : List Tok} {f k : Nat} (hk : k < l.length) {x : List Int} (h : flatB u l[k] = some x) : rItem u l f k = some (k + 1, x) := by
  rw [rItem_tok u l f k hk]
  unfold flatB at h
  unfold rTok
  split at h
  · cases h
  rename_i h0
  rw [if_neg h0]
  split at h
  · rename_i h1
    rw [if_pos h1]
    simpa using h
  rename_i h1
  rw [if_neg h1]
  split at h
  · rename_i h4
    rw [if_neg (by omega), if_neg (by omega), if_pos h4]
    split at h
    · rename_i hu
      rw [if_pos hu]
      simpa using h
    · cases h
  · cases h
/-- The keys rise. -/
def rises (u : List Int → Bool) : Option (List Int) → List (Tok × Tok) → Prop
  | _, [] => True
  | last, p :: r => ∃ x y, flatB u p.1 = some x ∧ flatB u p.2 = some y ∧ (∀ z, last = some z → bytesLt z x = true) ∧ x.length ≤ 40 ∧ y.length ≤ 40 ∧ rises u (some x) r
theorem map_rises {u : List Int → Bool} {l : List Tok} {f : Nat} : ∀ (ps : List (Tok × Tok)) (i k : Nat) (b last : List Int) (o : Option (List Int)), (∀ (j : Nat) (h : j < (pairs ps).length), ∃ h2 : k + j < l.length, l[k + j] = (pairs ps)[j]) →
    rises u o ps → (0 < i → o = some last) → b.length + 80 * ps.length ≤ 32768 → ∃ bs, rLoop (rItem u l f) true (2 * ps.length) (2 * i) k b last = some (k + 2 * ps.length, bs) ∧ bs.length ≤ b.length + 80 * ps.length
  | [], i, k, b, last, o, _, _, _, hb => ⟨b, rfl, by simp⟩
  | p :: ps, i, k, b, last, o, hl, hr, ho, hb => by
    obtain ⟨x, y, hx, hy, hz, x40, y40, hr⟩ := hr
    obtain ⟨q0, e0⟩ := hl 0 (by simp [pairs])
    obtain ⟨q1, e1⟩ := hl 1 (by simp [pairs])
    simp only [pairs, Nat.add_zero, List.getElem_cons_zero, List.getElem_cons_succ] at e0 e1 q0 q1
    have g0 := rItem_flat (u := u) (f := f) q0 (x := x) (by rw [e0]; exact hx)
    have g1 := rItem_flat (u := u) (f := f) q1 (x := y) (by rw [e1]; exact hy)
    simp only [List.length_cons] at hb
    obtain ⟨bs, h1, h2⟩ := map_rises (u := u) (l := l) (f := f) ps (i + 1) (k + 2) (b ++ x ++ y) x (some x) (fun j h => by
      obtain ⟨r1, r2⟩ := hl (j + 2) (by simp [pairs]; omega)
      refine ⟨by omega, ?_⟩
      simp only [pairs, List.getElem_cons_succ] at r2
      rw [← r2]
      congr 1
      omega) hr (fun _ => rfl) (by simp; omega)
    refine ⟨bs, ?_, by simp at h2 ⊢; omega⟩
    rw [show 2 * (p :: ps).length = 2 * ps.length + 1 + 1 by simp; omega]
    unfold rLoop
    rw [g0]
    simp only
    rw [if_neg (by omega), if_pos ⟨trivial, by omega⟩, if_neg (fun h => by
      have := hz last (ho (by omega))
      have h3 := h.2
      rw [lt_tri, this] at h3
      simp at h3)]
    unfold rLoop
    rw [g1]
    simp only
    rw [if_neg (by simp; omega), if_neg (by omega), show 2 * i + 1 + 1 = 2 * (i + 1) by omega, h1]
    simp
    omega
/-- A key that doesn't rise. -/
theorem map_falls {u : List Int → Bool} {l : List Tok} {f : Nat} : ∀ (ps : List (Tok × Tok)) (i k n : Nat) (b last : List Int) (p q : Tok × Tok) (x y : List Int), (∀ (j : Nat) (h : j < (pairs (ps ++ [p, q])).length), ∃ h2 : k + j < l.length, l[k + j] = (pairs (ps ++ [p, q]))[j]) →
    (∀ r ∈ ps ++ [p, q], ∃ x y, flatB u r.1 = some x ∧ flatB u r.2 = some y) → flatB u p.1 = some x → flatB u q.1 = some y → bytesLt x y = false → rLoop (rItem u l f) true (2 * (ps.length + 2 + n)) (2 * i) k b last = none
  | [], i, k, n, b, last, p, q, x, y, hl, hf, hp, hq, hxy => by
    obtain ⟨_, z, _, hz2⟩ := hf p (by simp)
    obtain ⟨q0, e0⟩ := hl 0 (by simp [pairs])
    obtain ⟨q1, e1⟩ := hl 1 (by simp [pairs])
    obtain ⟨q2, e2⟩ := hl 2 (by simp [pairs])
    simp only [List.nil_append, pairs, Nat.add_zero, List.getElem_cons_zero, List.getElem_cons_succ] at e0 e1 e2 q0 q1 q2
    have g0 := rItem_flat (u := u) (f := f) q0 (x := x) (by rw [e0]; exact hp)
    have g1 := rItem_flat (u := u) (f := f) q1 (x := z) (by rw [e1]; exact hz2)
    have g2 := rItem_flat (u := u) (f := f) q2 (x := y) (by rw [e2]; exact hq)
    rw [show 2 * (([] : List (Tok × Tok)).length + 2 + n) = 2 * n + 1 + 1 + 1 + 1 by simp; omega]
    unfold rLoop
    rw [g0]
    simp only
    split
    · rfl
    rw [if_pos ⟨trivial, by omega⟩]
    split
    · rfl
    unfold rLoop
    rw [g1]
    simp only
    split
    · rfl
    rw [if_neg (by omega)]
    unfold rLoop
    rw [g2]
    simp only
    split
    · rfl
    rw [if_pos ⟨trivial, by omega⟩, if_pos ⟨by omega, by rw [lt_tri, hxy]; rfl⟩]
  | r :: ps, i, k, n, b, last, p, q, x, y, hl, hf, hp, hq, hxy => by
    obtain ⟨w, z, hw, hz⟩ := hf r (by simp)
    obtain ⟨q0, e0⟩ := hl 0 (by simp [pairs])
    obtain ⟨q1, e1⟩ := hl 1 (by simp [pairs])
    simp only [List.cons_append, pairs, Nat.add_zero, List.getElem_cons_zero, List.getElem_cons_succ] at e0 e1 q0 q1
    have g0 := rItem_flat (u := u) (f := f) q0 (x := w) (by rw [e0]; exact hw)
    have g1 := rItem_flat (u := u) (f := f) q1 (x := z) (by rw [e1]; exact hz)
    have ih := fun b last => map_falls (u := u) (l := l) (f := f) ps (i + 1) (k + 2) n b last p q x y (fun j h => by
      obtain ⟨r1, r2⟩ := hl (j + 2) (by simp [pairs]; omega)
      refine ⟨by omega, ?_⟩
      simp only [List.cons_append, pairs, List.getElem_cons_succ] at r2
      rw [← r2]
      congr 1
      omega) (fun s hs => hf s (by simp at hs ⊢; exact .inr hs)) hp hq hxy
    rw [show 2 * ((r :: ps).length + 2 + n) = 2 * (ps.length + 2 + n) + 1 + 1 by simp; omega]
    unfold rLoop
    rw [g0]
    simp only
    split
    · rfl
    rw [if_pos ⟨trivial, by omega⟩]
    split
    · rfl
    unfold rLoop
    rw [g1]
    simp only
    split
    · rfl
    rw [if_neg (by omega), show 2 * i + 1 + 1 = 2 * (i + 1) by omega]
    exact ih _ _
def mapT (ps : List (Tok × Tok)) : List Tok := ⟨6, ps.length, []⟩ :: pairs ps
theorem mapT_at (ps : List (Tok × Tok)) (j : Nat) (h : j < (pairs ps).length) : ∃ h2 : 1 + j < (mapT ps).length, (mapT ps)[1 + j] = (pairs ps)[j] := by
  refine ⟨by simp [mapT]; omega, ?_⟩
  simp only [mapT, Nat.add_comm 1 j, List.getElem_cons_succ]
theorem mapT_item {u : List Int → Bool} {ps : List (Tok × Tok)} (h : ps.length ≤ 64) : rItem u (mapT ps) 6 0 = rLoop (rItem u (mapT ps) 5) true (2 * ps.length) 0 1 (putL 5 ps.length) [] := by
  rw [rItem_tok _ _ _ _ (by simp [mapT])]
  have e0 : (mapT ps)[0]'(by simp [mapT]) = ⟨6, ps.length, []⟩ := by simp [mapT]
  rw [e0]
  unfold rTok rSub
  rw [if_neg (by simp [rBad]), if_neg (by simp), if_neg (by simp), if_neg (by simp), if_neg (by simp), if_pos (by simp), if_neg (by simp), if_neg (by simp; omega), if_pos rfl]
  simp
theorem mapT_yes {u : List Int → Bool} {ps : List (Tok × Tok)} (h : ps.length ≤ 64) (hr : rises u none ps) : ∃ b, encR u (mapT ps) = (b, 0) := by
  have hp := putL_short 5 (n := (ps.length : Int)) (by omega)
  obtain ⟨bs, h1, h2⟩ := map_rises (l := mapT ps) (f := 5) ps 0 1 (putL 5 ps.length) [] none (mapT_at ps) hr (fun h => by omega) (by omega)
  refine ⟨bs, (encR_iff _ _ _).2 ⟨by simp [mapT, pairs_length]; omega, ?_, by omega⟩⟩
  rw [mapT_item h, h1]
  simp [mapT, pairs_length]
  omega
theorem mapT_no {u : List Int → Bool} {az bs : List (Tok × Tok)} {p q : Tok × Tok} {x y : List Int} (h : (az ++ [p, q] ++ bs).length ≤ 64) (hf : ∀ r ∈ az ++ [p, q], ∃ x y, flatB u r.1 = some x ∧ flatB u r.2 = some y)
    (hp : flatB u p.1 = some x) (hq : flatB u q.1 = some y) (hxy : bytesLt x y = false) : encR u (mapT (az ++ [p, q] ++ bs)) = ([], 1) := by
  refine (encR_or u _).resolve_right fun ⟨b, e⟩ => ?_
  have := ((encR_iff _ _ _).1 e).2.1
  rw [mapT_item h] at this
  have h2 := map_falls (l := mapT (az ++ [p, q] ++ bs)) (f := 5) az 0 1 bs.length (putL 5 (az ++ [p, q] ++ bs).length) [] p q x y (fun j hj => by
    obtain ⟨r1, r2⟩ := mapT_at (az ++ [p, q] ++ bs) j (by rw [pairs_app]; simp; omega)
    refine ⟨r1, ?_⟩
    rw [r2]
    have e : pairs (az ++ [p, q] ++ bs) = pairs (az ++ [p, q]) ++ pairs bs := pairs_app _ _
    simp only [e]
    rw [List.getElem_append_left hj]) hf hp hq hxy
  rw [show 2 * (az ++ [p, q] ++ bs).length = 2 * (az.length + 2 + bs.length) by simp; omega] at this
  rw [Nat.mul_zero] at h2
  rw [h2] at this
  cases this
end Go.Proofs.YtobjehjfdmelhabDoor.Abs
end
section
set_option linter.unusedVariables false
set_option linter.unusedSimpArgs false
namespace Go.Proofs.YtobjehjfdmelhabDoor.Abs
open Go
attribute [local irreducible] ifB fitP Does Weaker
def PLtt : Nat → Bool × Plan := plans [(5, (false, (takesTo [0, 1, 2, 3, 4, 5, 6, 7, 8, 9, 10, 11, 12, 13, 14, 15] (.all [(16, (takesTo [17] (.all [(18, (.all [(19, (takes [20]))]))])))]))))]
theorem twinToks_ok (l : List Tok) (hl : l.length ≤ 1000000) (hb : ∀ t ∈ l, t.b.length ≤ 1099511627776) : ACall Tryd.prog 16 [.ro l.length (toksC l)] (.own l.length 3 (toksC l)) [] := by
  refine ACall.of_does TTok Tryd.func16 rfl Tryd.call16 rfl (wpc_sound (M := MC) (PL := PLtt) (CU := noCut) TTok mixed _ _ _ ?_)
  conv => whnf
  refine Does.loop (fun c : Nat => mkSt [(0, .ro l.length (toksC l)), (3, .sl 1 0 c 3 false), (4, .int .i64 c)] [(1, toksC (l.take c))] 2 32) (fun c => c ≤ l.length) (fun c => l.length - c) ?_ 0 (Nat.zero_le _) ?_
  · intro c hc
    rcases Nat.lt_or_ge c l.length with c1 | c1
    · have ht := twin_ok l[c].b (by have := hb _ (List.getElem_mem c1); omega)
      have hlt : (toksC (l.take c)).length = c * 3 := by rw [toksC_length]; simp; omega
      refine wpc_sound (M := MC) (PL := PLtt) (CU := noCut) TTok mixed _ _ _ ?_
      conv => whnf
      repeat ((refine ifB_pos (decide_eq_true (by first | omega | rfl | (dsimp only; omega))) ?_); conv => whnf)
      refine ⟨by kernel_rfl, ?_⟩
      conv => whnf
      repeat ((first | (refine ⟨⟨?_, ?_, ?_⟩, ?_⟩; (focus omega); (focus (first | omega | (simp; done) | (simp; omega))); (focus (first | (simp; done) | (simp; omega) | (rw [toksC_length]; simp; omega)))) | (refine ⟨roLoad_ok rfl ?_, ?_⟩; (focus (simp [toksC_length]; omega)))); conv => whnf)
      refine ⟨_, tok_k c1 (by simp; omega), ?_⟩
      conv => whnf
      repeat ((first | (refine ⟨⟨?_, ?_, ?_⟩, ?_⟩; (focus omega); (focus (first | omega | (simp; done) | (simp; omega))); (focus (first | (simp; done) | (simp; omega) | (rw [toksC_length]; simp; omega)))) | (refine ⟨roLoad_ok rfl ?_, ?_⟩; (focus (simp [toksC_length]; omega)))); conv => whnf)
      refine ⟨_, tok_n c1 (by simp; omega), ?_⟩
      conv => whnf
      repeat ((first | (refine ⟨⟨?_, ?_, ?_⟩, ?_⟩; (focus omega); (focus (first | omega | (simp; done) | (simp; omega))); (focus (first | (simp; done) | (simp; omega) | (rw [toksC_length]; simp; omega)))) | (refine ⟨roLoad_ok rfl ?_, ?_⟩; (focus (simp [toksC_length]; omega)))); conv => whnf)
      refine ⟨_, tok_b c1 (by simp; omega), ?_⟩
      conv => whnf
      repeat ((first | refine ⟨pureL_bys _, ?_⟩ | refine ⟨rfl, ?_⟩); conv => whnf)
      refine ⟨_, _, ht, by first | rfl | simp [noRoIf, noRoL, noRoV, noRoL_bys], ?_⟩
      conv => whnf
      repeat ((first | (refine fit_i64 ⟨by first | omega | rfl | (dsimp only; omega), by first | omega | rfl | (dsimp only; omega)⟩ ?_) | (refine Or.inl ⟨⟨rfl, ?_⟩, ?_⟩; (focus (first | rfl | (simp; done) | (rw [toksC_length]; omega)))) | refine ⟨rfl, ?_⟩ | refine ⟨⟨rfl, rfl⟩, ?_⟩ | (refine And.intro ?_ ?_; (focus (first | (simp [limB]; done) | (simp [limB]; omega))))); conv => whnf)
      refine ⟨c + 1, by omega, by omega, Weaker.trans (Weaker.freeze 2 rfl) (weaker_of [(1, 4)] rfl rfl ⟨⟨rfl, rfl, pureL_toks _⟩, ⟨rfl, rfl, rfl, rfl, id⟩, ⟨rfl, rfl⟩, trivial⟩ ⟨lesP_toks ?_, trivial⟩)⟩
      rw [frzL_app, frzL_toks, take_tok c1, toksC_append]
      have e : ((bys l[c].b).drop 0).take (l[c].b.length * 1) = bys l[c].b := by rw [List.drop_zero, Nat.mul_one]; exact List.take_of_length_le (by simp)
      simp only [frzL, frzV, toksC, e, show Nat.beq 2 2 = true from rfl, cond_true]
    · obtain rfl : c = l.length := by omega
      rw [List.take_length]
      refine wpc_sound (M := MC) (PL := PLtt) (CU := noCut) TTok mixed _ _ _ ?_
      conv => whnf
      repeat ((first | (refine ifB_neg (decide_eq_false (by first | omega | rfl | (dsimp only; omega))) ?_) | (refine ⟨⟨rfl, rfl, rfl, ?_, pureL_toks _⟩, ?_⟩; (focus (rw [toksC_length]; omega)))); conv => whnf)
      rfl
  · exact weaker_of [] rfl rfl ⟨⟨rfl, rfl, pureL_toks _⟩, rfl, ⟨rfl, rfl⟩, trivial⟩ ⟨rfl, trivial⟩
theorem check_ok (l : List Tok) (hl : ToksOk l) (hlb : ∀ t ∈ l, t.b.length ≤ 1099511627776) : ACall Tryd.prog 17 [.ro l.length (toksC l)] (.int .i64 (encR validR l).2) [] := by
  have e := encode_ok l hl hlb
  refine ACall.of_does TTok Tryd.func17 rfl Tryd.call17 rfl (wpc_sound (M := MC) (PL := PL0) (CU := noCut) TTok mixed _ _ _ ?_)
  conv => whnf
  repeat ((first | refine ⟨rfl, ?_⟩ | (refine And.intro ?_ ?_; (focus (first | (simp only [pureL, pureV, pureL_bys, Bool.and_true, Bool.and_self]; done) | (simp only [pureL, pureV, pureL_bys, pureL_toks, Bool.and_true, Bool.and_self]; done))))); conv => whnf)
  refine ⟨_, _, e, by first | rfl | simp [noRoIf, noRoL, noRoV, noRoL_bys], ?_⟩
  conv => whnf
  repeat ((refine ⟨⟨rfl, rfl⟩, ?_⟩); conv => whnf)
  rfl
end Go.Proofs.YtobjehjfdmelhabDoor.Abs
end
section
set_option linter.unusedVariables false
set_option linter.unusedSimpArgs false
namespace Go.Proofs.YtobjehjfdmelhabDoor.Abs
open Go
attribute [local irreducible] ifB fitP Does Weaker
theorem ints_of_cells {n : Nat} : ∀ (es : List (List AV)), (∀ y ∈ es, TyL TT (n + 1) 3 y) → ∃ l : List Int, es.flatten = ints l ∧ l.length = es.length ∧ ∀ x ∈ l, -9223372036854775808 ≤ x ∧ x < 9223372036854775808
  | [], _ => ⟨[], rfl, rfl, by simp⟩
  | y :: es, h => by
    obtain ⟨l, h1, h2, h3⟩ := ints_of_cells es fun z hz => h z (by simp [hz])
    obtain ⟨s, rfl, k1, k2⟩ := h y (by simp)
    simp only [IntKind.lo, IntKind.hi] at k1 k2
    refine ⟨s :: l, by simp [h1, ints], by simp [h2], fun x hx => ?_⟩
    rcases List.mem_cons.1 hx with rfl | hx
    · exact ⟨k1, by omega⟩
    · exact h3 x hx
theorem ints_of_slice {n : Nat} {xs : List AV} (h : TyL TT (n + 2) 41 xs) : ∃ l : List Int, xs = [.ro l.length (ints l)] ∧ ((∀ x ∈ l, -9223372036854775808 ≤ x ∧ x < 9223372036854775808) ∧ l.length ≤ 9223372036854775807) := by
  obtain ⟨es, rfl, hl, he⟩ := h
  obtain ⟨l, h1, h2, h3⟩ := ints_of_cells es he
  exact ⟨l, by simp [h1, h2], h3, by omega⟩
theorem ones_part {cs : List AV} (h : cs.all AV.one = true) (a b : Nat) : ((cs.drop a).take b).all AV.one = true := by
  rw [List.all_eq_true] at h ⊢
  exact fun x hx => h x (List.mem_of_mem_drop (List.mem_of_mem_take hx))
theorem and_mask (x : Int) (m : Nat) (hm : m < 9223372036854775808) : ∃ r : Nat, bits .and .i64 x m = r ∧ r ≤ m := by
  let q : Nat := (BitVec.ofInt 64 x &&& BitVec.ofInt 64 m).toNat
  have hq : q ≤ m := by
    have e : (BitVec.ofInt 64 (m : Int)).toNat = m := by simp; omega
    simp only [q, BitVec.toNat_and]
    exact Nat.le_trans Nat.and_le_right (by omega)
  refine ⟨q, ?_, hq⟩
  show IntKind.i64.wrap (q : Int) = q
  exact wrap_i64_63 _ (by omega) (by omega)
def Up (k : List Int) : Prop := k.Pairwise (· < ·) ∧ ∀ x ∈ k, 0 ≤ x ∧ x ≤ 16777215
theorem up_ins {k : List Int} (h : Up k) {n : Int} (hn : 0 ≤ n ∧ n ≤ 16777215) {c : Nat} (hc : c ≤ k.length) (h1 : ∀ (j : Nat) (hj : j < k.length), j < c → k[j] < n) (h2 : ∀ hc : c < k.length, n < k[c]) : Up (k.take c ++ [n] ++ k.drop c) := by
  obtain ⟨hp, hb⟩ := h
  have hp' := List.pairwise_iff_getElem.1 hp
  constructor
  · rw [List.append_assoc, List.pairwise_append]
    refine ⟨hp.sublist (List.take_sublist _ _), ?_, ?_⟩
    · rw [List.singleton_append, List.pairwise_cons]
      refine ⟨fun x hx => ?_, hp.sublist (List.drop_sublist _ _)⟩
      obtain ⟨j, hj, rfl⟩ := List.mem_iff_getElem.1 hx
      simp only [List.length_drop] at hj
      rw [List.getElem_drop]
      have hcl : c < k.length := by omega
      have := h2 hcl
      rcases Nat.eq_zero_or_pos j with rfl | hj0
      · simpa using this
      · have := hp' c (c + j) hcl (by omega) (by omega)
        omega
    · intro x hx y hy
      obtain ⟨i, hi, rfl⟩ := List.mem_iff_getElem.1 hx
      simp only [List.length_take] at hi
      rw [List.getElem_take]
      have hx := h1 i (by omega) (by omega)
      rcases List.mem_append.1 hy with hy | hy
      · simp at hy; omega
      · obtain ⟨j, hj, rfl⟩ := List.mem_iff_getElem.1 hy
        simp only [List.length_drop] at hj
        rw [List.getElem_drop]
        exact hp' i (c + j) (by omega) (by omega) (by omega)
  · intro x hx
    rcases List.mem_append.1 hx with hx | hx
    · rcases List.mem_append.1 hx with hx | hx
      · exact hb x (List.mem_of_mem_take hx)
      · simp at hx; omega
    · exact hb x (List.mem_of_mem_drop hx)
/-- The row of a map: keys, values. -/
def kv (k vs : List Int) : List (Tok × Tok) := (k.zip vs).map fun p => (⟨1, p.1, []⟩, ⟨1, p.2, []⟩)
def mapK (k vs : List Int) : List Tok := ⟨6, k.length, []⟩ :: pairs (kv k vs)
theorem mapK_len (k vs : List Int) : (mapK k vs).length = 1 + 2 * min k.length vs.length := by simp [mapK, pairs_length, kv]; omega
theorem mapK_snoc {k vs : List Int} {v : Int} (h : vs.length < k.length) : mapK k (vs ++ [v]) = mapK k vs ++ [⟨1, k[vs.length], []⟩] ++ [⟨1, v, []⟩] := by
  have : kv k (vs ++ [v]) = kv k vs ++ [(⟨1, k[vs.length], []⟩, ⟨1, v, []⟩)] := by
    have e : k.zip (vs ++ [v]) = k.zip vs ++ [(k[vs.length], v)] := by
      conv => lhs; rw [← List.take_append_drop vs.length k]
      rw [List.zip_append (by simp; omega)]
      congr 1
      · conv => rhs; rw [← List.take_append_drop vs.length k]
        conv => rhs; rw [← List.append_nil vs]
        rw [List.zip_append (by simp; omega)]
        simp
      · rw [List.drop_eq_getElem_cons h, List.zip_cons_cons]
        simp
    simp [kv, e]
  rw [mapK, this, pairs_app]
  simp [mapK, pairs]
theorem lesP_app' {o : Nat → Option Nat} : ∀ {a a' b b' : List AV}, lesP o a a' → lesP o b b' → lesP o (a ++ b) (a' ++ b')
  | [], [], b, b', _, h => h
  | [], _ :: _, b, b', h, _ => by simp [lesP] at h
  | x :: a, [], b, b', h, _ => by simp [lesP] at h
  | x :: a, y :: a', b, b', h, k => by
    simp only [lesP, List.cons_append] at h ⊢
    exact ⟨h.1, lesP_app' h.2 k⟩
theorem lesP_two' {o : Nat → Option Nat} {l : List Tok} {k n k' n' : Int} : lesP o (toksC (l ++ [⟨k, n, []⟩] ++ [⟨k', n', []⟩])) (toksC l ++ [.int .i64 k, .int .i64 n, .nil, .int .i64 k', .int .i64 n', .nil]) := by
  rw [List.append_assoc, toksC_append]
  exact lesP_app' (lesP_toks rfl) ⟨⟨rfl, rfl⟩, ⟨rfl, rfl⟩, ⟨rfl, rfl⟩, ⟨rfl, rfl⟩, ⟨rfl, rfl⟩, ⟨rfl, rfl⟩, trivial⟩
theorem flat_int (u : List Int → Bool) {x : Int} (h : 0 ≤ x) : flatB u ⟨1, x, []⟩ = some (putL 0 x) := by
  unfold flatB
  rw [if_neg (by simp [rBad]; omega), if_pos rfl]
theorem kv_rises (u : List Int → Bool) : ∀ (k vs : List Int) (o : Option (List Int)), k.Pairwise (· < ·) → (∀ x ∈ k, 0 ≤ x ∧ x ≤ 16777215) → (∀ x ∈ vs, 0 ≤ x ∧ x ≤ 65535) →
    (∀ z, o = some z → ∃ a : Int, z = putL 0 a ∧ 0 ≤ a ∧ a ≤ 16777215 ∧ ∀ x ∈ k, a < x) → rises u o (kv k vs)
  | [], vs, o, _, _, _, _ => by simp [kv, rises]
  | x :: k, [], o, _, _, _, _ => by simp [kv, rises]
  | x :: k, v :: vs, o, hp, hb, hv, ho => by
    have hx := hb x (by simp)
    have hv1 := hv v (by simp)
    rw [List.pairwise_cons] at hp
    have l1 := putL_short 0 hx.1
    have l2 := putL_short 0 hv1.1
    refine ⟨putL 0 x, putL 0 v, flat_int u hx.1, flat_int u hv1.1, fun z hz => ?_, by omega, by omega, kv_rises u k vs _ hp.2 (fun y hy => hb y (by simp [hy])) (fun y hy => hv y (by simp [hy])) (fun z hz => ?_)⟩
    · obtain ⟨a, rfl, a1, a2, a3⟩ := ho z hz
      rw [putL_lt' 0 a x a1 (by omega) hx.1 (by omega)]
      exact decide_eq_true (a3 x (by simp))
    · injection hz with hz
      exact ⟨x, hz.symm, hx.1, hx.2, hp.1⟩
theorem kv_mem {k vs : List Int} (hk : ∀ x ∈ k, 0 ≤ x ∧ x ≤ 16777215) (hv : ∀ x ∈ vs, 0 ≤ x ∧ x ≤ 65535) : ∀ p ∈ kv k vs, ∃ x y : Int, p = (⟨1, x, []⟩, ⟨1, y, []⟩) ∧ (0 ≤ x ∧ x ≤ 16777215) ∧ (0 ≤ y ∧ y ≤ 65535) := by
  intro p hp
  simp only [kv, List.mem_map] at hp
  obtain ⟨⟨x, y⟩, hxy, rfl⟩ := hp
  have := List.of_mem_zip hxy
  exact ⟨x, y, rfl, hk x this.1, hv y this.2⟩
theorem pairs_mem : ∀ {ps : List (Tok × Tok)} {t : Tok}, t ∈ pairs ps → ∃ p ∈ ps, t = p.1 ∨ t = p.2
  | [], t, h => by simp [pairs] at h
  | p :: ps, t, h => by
    simp only [pairs, List.mem_cons] at h
    rcases h with rfl | rfl | h
    · exact ⟨p, by simp, .inl rfl⟩
    · exact ⟨p, by simp, .inr rfl⟩
    · obtain ⟨q, hq, h⟩ := pairs_mem h
      exact ⟨q, by simp [hq], h⟩
theorem mapT_toks {ps : List (Tok × Tok)} (hl : ps.length ≤ 64) (h : ∀ p ∈ ps, ∃ x y : Int, p = (⟨1, x, []⟩, ⟨1, y, []⟩) ∧ (0 ≤ x ∧ x ≤ 16777215) ∧ (0 ≤ y ∧ y ≤ 16777215)) : ToksOk (mapT ps) ∧ ∀ t ∈ mapT ps, t.b.length ≤ 1099511627776 := by
  have key : ∀ t ∈ mapT ps, (0 ≤ t.k ∧ t.k ≤ 6) ∧ (0 ≤ t.n ∧ t.n ≤ 16777215) ∧ t.b = [] := by
    intro t ht
    simp only [mapT, List.mem_cons] at ht
    rcases ht with rfl | ht
    · exact ⟨by simp, ⟨by simp only; omega, by simp only; omega⟩, rfl⟩
    · obtain ⟨p, hp, hh⟩ := pairs_mem ht
      obtain ⟨x, y, rfl, hx, hy⟩ := h p hp
      rcases hh with rfl | rfl
      · exact ⟨by simp, hx, rfl⟩
      · exact ⟨by simp, hy, rfl⟩
  refine ⟨fun t ht => ?_, fun t ht => ?_⟩
  · obtain ⟨a, b, c⟩ := key t ht
    exact ⟨by omega, by omega, by rw [c]; simp [Byt]⟩
  · rw [(key t ht).2.2]; simp
theorem set_pairs1 (A B : List (Tok × Tok)) (p q : Tok × Tok) (h t : Tok) : (h :: pairs (A ++ [p, q] ++ B)).set (1 + 2 * A.length) t = h :: pairs (A ++ [(t, p.2), q] ++ B) := by
  rw [Nat.add_comm 1, List.set_cons_succ, List.append_assoc, List.append_assoc, pairs_app, pairs_app, List.set_append_right _ _ (by rw [pairs_length]; omega), pairs_length, Nat.sub_self, pairs_app A]
  rfl
theorem set_pairs3 (A B : List (Tok × Tok)) (p q : Tok × Tok) (h t : Tok) : (h :: pairs (A ++ [p, q] ++ B)).set (3 + 2 * A.length) t = h :: pairs (A ++ [p, (t, q.2)] ++ B) := by
  rw [show 3 + 2 * A.length = (2 + 2 * A.length) + 1 by omega, List.set_cons_succ, List.append_assoc, List.append_assoc, pairs_app, pairs_app, List.set_append_right _ _ (by rw [pairs_length]; omega), pairs_length, Nat.add_sub_cancel, pairs_app A]
  rfl
theorem setN_tok : ∀ (L : List Tok) (j : Nat) (t : Tok), j < L.length → setN (toksC L) (3 * j) (tokC t) = toksC (L.set j t)
  | [], j, t, h => by simp at h
  | s :: L, 0, t, h => by simp [setN, tokC, toksC]
  | s :: L, j + 1, t, h => by
    have ih := setN_tok L j t (by simpa using h)
    rw [show 3 * (j + 1) = 3 * j + 1 + 1 + 1 by omega]
    simp only [setN, tokC, toksC, List.set_cons_succ] at ih ⊢
    rw [ih]
theorem tok_st {l : List Tok} {j m s : Nat} (h : j < l.length) (hm : m = 3 * j) (hs : s = 3) : takeN s ((toksC l).drop m) = some (tokC l[j]) := takeN_tok h hm hs
theorem get_ints {l : List Int} {c m : Nat} (h : c < l.length) (hm : m = c) : ((ints l).drop m)[0]? = some (.int .i64 l[c]) := by
  subst hm
  simp [ints, h]
theorem Does.weakerTo2 {P : Program} {k : Nat} {c : Code} {Q : AX → St → Prop} {st : St} {env : List (Nat × AV)} {heap : List (Nat × List AV)} {nx n : Nat} (g : List (Nat × Nat)) (hn : st.n = n) (hg : renOk k g heap nx = true)
    (he : envLe (oldOf k g) st.env env) (hh : heapLe (oldOf k g) st.heap heap) (h : Does P k c Q (mkSt env heap nx n)) : Does P k c Q st := Does.weaker (weaker_of g hn hg he hh) h
theorem whole_toks (l : List Tok) : (List.drop 0 (toksC l)).take (l.length * 3) = toksC l := by rw [List.drop_zero]; exact List.take_of_length_le (by rw [toksC_length]; omega)
def PLmaps : Nat → Bool × Plan := plans [(29, (false, (takesTo [0, 1, 2, 3, 4, 5, 6, 7, 8, 9, 10, 11, 12, 14, 15, 16, 17, 18] (.all [(13, (.all [(19, (takesTo [20] (.all [(21, (takesTo [22] (.all [(23, .done)])))])))])), (19, (.all [(13, (takesTo [20] (.all [(21, (takesTo [22] (.all [(23, .done)])))])))]))]))))]
set_option maxHeartbeats 4000000 in
theorem cborMaps_ok (keys vals : List Int) (at' : Int) (hk : (∀ x ∈ keys, -9223372036854775808 ≤ x ∧ x < 9223372036854775808) ∧ keys.length ≤ 9223372036854775807) (hv : (∀ x ∈ vals, -9223372036854775808 ≤ x ∧ x < 9223372036854775808) ∧ vals.length ≤ 9223372036854775807)
    (ha : -9223372036854775808 ≤ at' ∧ at' < 9223372036854775808) : ACall Tryd.prog 6 [.ro keys.length (ints keys), .ro vals.length (ints vals), .int .i64 at'] (.bool true) [] := by
  refine ACall.of_does TTok Tryd.func6 rfl Tryd.call6 rfl (wpc_sound (M := MC) (PL := PLmaps) (CU := cutAt [100028]) TTok mixed _ _ _ ?_)
  conv => whnf
  refine ifB_dec (fun l1 => ?_) (fun l1 => ?_)
  · conv => whnf
    repeat ((first | refine ifB_t ?_ | refine ⟨rfl, ?_⟩); conv => whnf)
    rfl
  conv => whnf
  repeat ((refine ifB_f ?_); conv => whnf)
  refine ifB_dec (fun l2 => ?_) (fun l2 => ?_)
  · conv => whnf
    repeat ((refine ⟨rfl, ?_⟩); conv => whnf)
    rfl
  conv => whnf
  refine Does.loop (fun p : Nat × List Int => mkSt [(0, .ro keys.length (ints keys)), (1, .ro vals.length (ints vals)), (2, .int .i64 at'), (7, .sl 0 0 p.2.length 1 false), (8, .int .i64 p.1)] [(0, ints p.2)] 1 167)
    (fun p => p.1 ≤ keys.length ∧ p.2.length ≤ p.1 ∧ Up p.2) (fun p => keys.length - p.1) ?_ (0, []) ⟨Nat.zero_le _, Nat.le_refl _, by simp [Up]⟩ ?_
  · rintro ⟨i, k⟩ ⟨p1, p2, p3⟩
    simp only at p1 p2 p3
    refine wpc_sound (M := MC) (PL := PL0) (CU := noCut) TTok mixed _ _ _ ?_
    conv => whnf
    refine ifB_dec (fun j1 => ?_) (fun j1 => ?_)
    · have c1 : i < keys.length := by simp only at j1; omega
      obtain ⟨n, hn, hn2⟩ := and_mask keys[i] 16777215 (by omega)
      conv => whnf
      repeat ((refine ⟨⟨?_, ?_, ?_⟩, ?_⟩; (focus omega); (focus (first | omega | (simp; done) | (simp; omega))); (focus (first | (simp; done) | (simp; omega) | (rw [toksC_length]; simp; omega)))); conv => whnf)
      refine ⟨_, get_ints c1 (by simp), ?_⟩
      conv => whnf
      rw [show ((16777215 : Nat) : Int) = 16777215 from rfl] at hn
      rw [hn]
      refine Does.loop (fun c : Nat => mkSt [(0, .ro keys.length (ints keys)), (1, .ro vals.length (ints vals)), (2, .int .i64 at'), (7, .sl 0 0 k.length 1 false), (8, .int .i64 i), (9, .int .i64 n), (10, .int .i64 c)] [(0, ints k)] 1 167)
        (fun c => c ≤ k.length ∧ ∀ (j : Nat) (hj : j < k.length), j < c → k[j] < n) (fun c => k.length - c) ?_ 0 ⟨Nat.zero_le _, fun j _ h => by omega⟩ ?_
      · rintro c ⟨r1, r2⟩
        refine wpc_sound (M := MC) (PL := PL0) (CU := noCut) TTok mixed _ _ _ ?_
        conv => whnf
        refine ifB_dec (fun j2 => ?_) (fun j2 => ?_)
        · have c2 : c < k.length := by omega
          conv => whnf
          repeat ((first | refine ifB_t ?_ | (refine And.intro (by first | omega | rfl | (dsimp only; omega)) ?_)); conv => whnf)
          refine ⟨_, get_ints c2 (by simp), ?_⟩
          conv => whnf
          repeat ((refine ifB_t ?_); conv => whnf)
          refine ifB_dec (fun j3 => ?_) (fun j3 => ?_)
          · conv => whnf
            repeat ((refine fit_i64 ⟨by first | omega | rfl | (dsimp only; omega), by first | omega | rfl | (dsimp only; omega)⟩ ?_); conv => whnf)
            refine ⟨c + 1, ⟨by omega, fun j hj hjc => ?_⟩, by omega, weaker_of [(0, 0)] rfl rfl ⟨⟨rfl, rfl, pureL_ints _⟩, ⟨rfl, rfl, pureL_ints _⟩, ⟨rfl, rfl⟩, ⟨rfl, rfl, rfl, rfl, id⟩, ⟨rfl, rfl⟩, ⟨rfl, rfl⟩, ⟨rfl, rfl⟩, trivial⟩ ⟨lesP_ints rfl, trivial⟩⟩
            rcases Nat.lt_or_ge j c with h | h
            · exact r2 j hj h
            · obtain rfl : j = c := by omega
              exact j3
          · conv => whnf
            repeat ((first | refine ifB_t ?_ | (refine ifB_pos (decide_eq_true (by first | omega | rfl | (dsimp only; omega))) ?_) | (refine And.intro (by first | omega | rfl | (dsimp only; omega)) ?_)); conv => whnf)
            refine ⟨_, get_ints c2 (by simp), ?_⟩
            conv => whnf
            repeat ((refine ifB_t ?_); conv => whnf)
            refine ifB_dec (fun j4 => ?_) (fun j4 => ?_)
            · conv => whnf
              repeat ((refine fit_i64 ⟨by first | omega | rfl | (dsimp only; omega), by first | omega | rfl | (dsimp only; omega)⟩ ?_); conv => whnf)
              refine ⟨(i + 1, k), ⟨by simp only; omega, by simp only; omega, p3⟩, by simp only; omega, weaker_of [(0, 0)] rfl rfl ⟨⟨rfl, rfl, pureL_ints _⟩, ⟨rfl, rfl, pureL_ints _⟩, ⟨rfl, rfl⟩, ⟨rfl, rfl, rfl, rfl, id⟩, ⟨rfl, rfl⟩, trivial⟩ ⟨lesP_ints rfl, trivial⟩⟩
            · conv => whnf
              repeat ((refine ⟨⟨rfl, ?_⟩, ?_⟩; (focus (first | (simp only [okB]; omega) | (simp [okB]; omega)))); conv => whnf)
              refine Or.inr ?_
              conv => whnf
              repeat ((first | (refine Or.inl ⟨⟨rfl, ?_⟩, ?_⟩; (focus (first | rfl | (simp; done) | (rw [toksC_length]; omega)))) | refine ⟨rfl, ?_⟩ | (refine ⟨⟨rfl, ?_⟩, ?_⟩; (focus (first | (simp only [okB]; omega) | (simp [okB]; omega)))) | (refine ⟨⟨rfl, rfl, ?_, ?_⟩, ?_⟩; (focus (first | (simp [lenB, offB]; done) | (simp [lenB, offB]; omega))); (focus (first | (simp [limB, lenB, offB]; done) | (simp [limB, lenB, offB]; omega)))) | (refine And.intro ?_ ?_; (focus (first | (simp [limB, lenB, offB]; done) | (simp [limB, lenB, offB]; omega)))) | refine ⟨ones_part (ones_ints _) _ _, ?_⟩); conv => whnf)
              refine Or.inr ?_
              conv => whnf
              repeat ((first | (refine fit_i64 ⟨by first | omega | rfl | (dsimp only; omega), by first | omega | rfl | (dsimp only; omega)⟩ ?_) | (refine ⟨⟨rfl, rfl, ?_, ?_⟩, ?_⟩; (focus (first | (simp [lenB, offB]; done) | (simp [lenB, offB]; omega))); (focus (first | (simp [limB, lenB, offB]; done) | (simp [limB, lenB, offB]; omega)))) | (refine And.intro ?_ ?_; (focus (first | (simp [limB, lenB, offB]; done) | (simp [limB, lenB, offB]; omega)))) | refine ⟨ones_part (ones_ints _) _ _, ?_⟩); conv => whnf)
              refine ⟨(i + 1, k.take c ++ [(n : Int)] ++ k.drop c), ⟨by simp only; omega, by simp only [List.length_append, List.length_take, List.length_drop, List.length_singleton]; omega, up_ins p3 (by omega) r1 r2 (fun _ => by omega)⟩, by simp only; omega, weaker_of [(0, 4)] rfl rfl ⟨⟨rfl, rfl, pureL_ints _⟩, ⟨rfl, rfl, pureL_ints _⟩, ⟨rfl, rfl⟩, ⟨rfl, rfl, by simp [lenB]; omega, rfl, id⟩, ⟨rfl, rfl⟩, trivial⟩ ⟨lesP_ints (by simp only [ints, lenB, offB, List.map_append, List.map_take, List.map_drop, List.map_cons, List.map_nil, Int.toNat_natCast, Nat.zero_add, Nat.zero_mul, List.drop_zero, Nat.mul_one]; rw [List.take_of_length_le (l := List.drop c _) (by simp)]), trivial⟩⟩
        · conv => whnf
          repeat ((first | refine ifB_f ?_ | (refine ifB_neg (decide_eq_false (by first | omega | rfl | (dsimp only; omega))) ?_) | (refine ⟨⟨rfl, ?_⟩, ?_⟩; (focus (first | (simp only [okB]; omega) | (simp [okB]; omega))))); conv => whnf)
          refine Or.inr ?_
          conv => whnf
          repeat ((first | (refine Or.inl ⟨⟨rfl, ?_⟩, ?_⟩; (focus (first | rfl | (simp; done) | (rw [toksC_length]; omega)))) | refine ⟨rfl, ?_⟩ | (refine ⟨⟨rfl, ?_⟩, ?_⟩; (focus (first | (simp only [okB]; omega) | (simp [okB]; omega)))) | (refine ⟨⟨rfl, rfl, ?_, ?_⟩, ?_⟩; (focus (first | (simp [lenB, offB]; done) | (simp [lenB, offB]; omega))); (focus (first | (simp [limB, lenB, offB]; done) | (simp [limB, lenB, offB]; omega)))) | (refine And.intro ?_ ?_; (focus (first | (simp [limB, lenB, offB]; done) | (simp [limB, lenB, offB]; omega)))) | refine ⟨ones_part (ones_ints _) _ _, ?_⟩); conv => whnf)
          refine Or.inr ?_
          conv => whnf
          repeat ((first | (refine fit_i64 ⟨by first | omega | rfl | (dsimp only; omega), by first | omega | rfl | (dsimp only; omega)⟩ ?_) | (refine ⟨⟨rfl, rfl, ?_, ?_⟩, ?_⟩; (focus (first | (simp [lenB, offB]; done) | (simp [lenB, offB]; omega))); (focus (first | (simp [limB, lenB, offB]; done) | (simp [limB, lenB, offB]; omega)))) | (refine And.intro ?_ ?_; (focus (first | (simp [limB, lenB, offB]; done) | (simp [limB, lenB, offB]; omega)))) | refine ⟨ones_part (ones_ints _) _ _, ?_⟩); conv => whnf)
          refine ⟨(i + 1, k.take c ++ [(n : Int)] ++ k.drop c), ⟨by simp only; omega, by simp only [List.length_append, List.length_take, List.length_drop, List.length_singleton]; omega, up_ins p3 (by omega) r1 r2 (fun h => by omega)⟩, by simp only; omega, weaker_of [(0, 4)] rfl rfl ⟨⟨rfl, rfl, pureL_ints _⟩, ⟨rfl, rfl, pureL_ints _⟩, ⟨rfl, rfl⟩, ⟨rfl, rfl, by simp [lenB]; omega, rfl, id⟩, ⟨rfl, rfl⟩, trivial⟩ ⟨lesP_ints (by simp only [ints, lenB, offB, List.map_append, List.map_take, List.map_drop, List.map_cons, List.map_nil, Int.toNat_natCast, Nat.zero_add, Nat.zero_mul, List.drop_zero, Nat.mul_one]; rw [List.take_of_length_le (l := List.drop c _) (by simp)]), trivial⟩⟩
      · exact weaker_of [(0, 0)] rfl rfl ⟨⟨rfl, rfl, pureL_ints _⟩, ⟨rfl, rfl, pureL_ints _⟩, ⟨rfl, rfl⟩, ⟨rfl, rfl, rfl, rfl, id⟩, ⟨rfl, rfl⟩, ⟨rfl, rfl⟩, ⟨rfl, rfl⟩, trivial⟩ ⟨lesP_ints rfl, trivial⟩
    · conv => whnf
      repeat ((refine ⟨⟨rfl, rfl⟩, ?_⟩); conv => whnf)
      obtain ⟨kp, kb⟩ := p3
      refine Does.loop (fun p : Nat × List Int => mkSt [(0, .ro keys.length (ints keys)), (1, .ro vals.length (ints vals)), (2, .int .i64 at'), (7, .sl 0 0 k.length 1 false), (12, .sl 1 0 (mapK k p.2).length 3 false), (13, .int .i64 p.1)] [(0, ints k), (1, toksC (mapK k p.2))] 2 167)
        (fun p => p.1 ≤ k.length ∧ p.2.length = p.1 ∧ ∀ x ∈ p.2, 0 ≤ x ∧ x ≤ 65535) (fun p => k.length - p.1) ?_ (0, []) ⟨Nat.zero_le _, rfl, by simp⟩ ?_
      · rintro ⟨c, vs⟩ ⟨r1, r2, r3⟩
        simp only at r1 r2 r3
        obtain ⟨M, hM⟩ : ∃ M, M = mapK k vs := ⟨_, rfl⟩
        have hmk := mapK_len k vs
        simp only
        rw [← hM] at hmk ⊢
        have hml : (toksC M).length = M.length * 3 := by rw [toksC_length]; omega
        refine wpc_sound (M := MC) (PL := PL0) (CU := noCut) TTok mixed _ _ _ ?_
        conv => whnf
        refine ifB_dec (fun j2 => ?_) (fun j2 => ?_)
        · have c1 : c < k.length := by omega
          have snoc := fun v => mapK_snoc (k := k) (vs := vs) (v := v) (by omega)
          rw [← hM] at snoc
          conv => whnf
          refine ifB_dec (fun j3 => ?_) (fun j3 => ?_)
          · have c2 : c < vals.length := by omega
            obtain ⟨v, hv1, hv2⟩ := and_mask vals[c] 65535 (by omega)
            rw [show ((65535 : Nat) : Int) = 65535 from rfl] at hv1
            conv => whnf
            repeat ((refine ⟨⟨?_, ?_, ?_⟩, ?_⟩; (focus omega); (focus (first | omega | (simp; done) | (simp; omega))); (focus (first | (simp; done) | (simp; omega) | (rw [toksC_length]; simp; omega)))); conv => whnf)
            refine ⟨_, get_ints c2 (by simp), ?_⟩
            conv => whnf
            repeat ((refine And.intro (by first | omega | rfl | (dsimp only; omega)) ?_); conv => whnf)
            rw [hv1]
            refine ⟨_, get_ints c1 (by simp), ?_⟩
            conv => whnf
            repeat ((first | (refine fit_i64 ⟨by first | omega | rfl | (dsimp only; omega), by first | omega | rfl | (dsimp only; omega)⟩ ?_) | (refine Or.inl ⟨⟨rfl, ?_⟩, ?_⟩; (focus (first | rfl | (simp; done) | (rw [toksC_length]; omega)))) | refine ⟨rfl, ?_⟩ | refine ⟨⟨rfl, rfl⟩, ?_⟩ | (refine And.intro ?_ ?_; (focus (first | (simp [limB, lenB, offB]; done) | (simp [limB, lenB, offB]; omega))))); conv => whnf)
            conv => whnf
            refine ⟨(c + 1, vs ++ [(v : Int)]), ⟨by simp only; omega, by simp; omega, fun x hx => ?_⟩, by simp only; omega, weaker_of [(0, 0), (1, 3)] rfl rfl ⟨⟨rfl, rfl, pureL_ints _⟩, ⟨rfl, rfl, pureL_ints _⟩, ⟨rfl, rfl⟩, ⟨rfl, rfl, rfl, rfl, id⟩, ⟨rfl, rfl, by simp only [snoc]; simp, rfl, id⟩, ⟨rfl, rfl⟩, trivial⟩ ⟨lesP_ints rfl, ?_, trivial⟩⟩
            · rcases List.mem_append.1 hx with h | h
              · exact r3 x h
              · simp at h; omega
            · simp only [snoc]
              clear snoc
              subst r2
              conv => whnf
              exact lesP_two'
          · conv => whnf
            repeat ((refine And.intro (by first | omega | rfl | (dsimp only; omega)) ?_); conv => whnf)
            refine ⟨_, get_ints c1 (by simp), ?_⟩
            conv => whnf
            repeat ((first | (refine fit_i64 ⟨by first | omega | rfl | (dsimp only; omega), by first | omega | rfl | (dsimp only; omega)⟩ ?_) | (refine Or.inl ⟨⟨rfl, ?_⟩, ?_⟩; (focus (first | rfl | (simp; done) | (rw [toksC_length]; omega)))) | refine ⟨rfl, ?_⟩ | refine ⟨⟨rfl, rfl⟩, ?_⟩ | (refine And.intro ?_ ?_; (focus (first | (simp [limB, lenB, offB]; done) | (simp [limB, lenB, offB]; omega))))); conv => whnf)
            conv => whnf
            refine ⟨(c + 1, vs ++ [0]), ⟨by simp only; omega, by simp; omega, fun x hx => ?_⟩, by simp only; omega, weaker_of [(0, 0), (1, 3)] rfl rfl ⟨⟨rfl, rfl, pureL_ints _⟩, ⟨rfl, rfl, pureL_ints _⟩, ⟨rfl, rfl⟩, ⟨rfl, rfl, rfl, rfl, id⟩, ⟨rfl, rfl, by simp only [snoc]; simp, rfl, id⟩, ⟨rfl, rfl⟩, trivial⟩ ⟨lesP_ints rfl, ?_, trivial⟩⟩
            · rcases List.mem_append.1 hx with h | h
              · exact r3 x h
              · simp at h; omega
            · simp only [snoc]
              clear snoc
              subst r2
              conv => whnf
              exact lesP_two'
        · obtain rfl : c = k.length := by omega
          have hkv : (kv k vs).length = k.length := by simp [kv, r2]
          have hMT : M = mapT (kv k vs) := by rw [hM, mapK, mapT, hkv]
          have hmem := kv_mem kb r3
          have hmem' : ∀ p ∈ kv k vs, ∃ x y : Int, p = (⟨1, x, []⟩, ⟨1, y, []⟩) ∧ (0 ≤ x ∧ x ≤ 16777215) ∧ (0 ≤ y ∧ y ≤ 16777215) := fun p hp => by
            obtain ⟨x, y, e, hx, hy⟩ := hmem p hp
            exact ⟨x, y, e, hx, by omega⟩
          obtain ⟨b, qb⟩ := mapT_yes (u := validR) (ps := kv k vs) (by omega) (kv_rises validR k vs none kp kb r3 (fun z h => by cases h))
          have tok1 := mapT_toks (by omega) hmem'
          rw [← hMT] at qb tok1
          have c1 := check_ok M tok1.1 tok1.2
          rw [qb] at c1
          dsimp only at c1
          have tw := twinToks_ok M (by omega) tok1.2
          conv => whnf
          repeat ((first | (refine Or.inl ⟨⟨rfl, ?_⟩, ?_⟩; (focus (first | rfl | (simp; done) | (rw [toksC_length]; omega)))) | refine ⟨rfl, ?_⟩ | (refine And.intro ?_ ?_; (focus (first | (simp only [pureL, pureV, pureL_bys, Bool.and_true, Bool.and_self]; done) | (simp only [pureL, pureV, pureL_bys, pureL_toks, Bool.and_true, Bool.and_self]; done))))); conv => whnf)
          refine ⟨_, _, c1, by first | rfl | simp [noRoIf, noRoL, noRoV, noRoL_bys], ?_⟩
          conv => whnf
          repeat ((refine ifB_f ?_); conv => whnf)
          refine ifB_dec (fun j3 => ?_) (fun j3 => ?_)
          · conv => whnf
            repeat ((refine ⟨rfl, ?_⟩); conv => whnf)
            refine ⟨_, _, wakes_ok, by first | rfl | simp [noRoIf, noRoL, noRoV, noRoL_bys], ?_⟩
            conv => whnf
            repeat ((refine ⟨rfl, ?_⟩); conv => whnf)
            rfl
          have w64 : IntKind.u64.wrap at' = at' % 18446744073709551616 := wrap_u64 at'
          obtain ⟨a, ha1, ha2⟩ : ∃ a : Nat, (at' % 18446744073709551616).tmod ((k.length : Int) - 1) = (a : Int) ∧ a + 1 < k.length := by
            have h0 : 0 ≤ at' % 18446744073709551616 := by omega
            have h1 := Int.tmod_nonneg ((k.length : Int) - 1) h0
            have h2 := Int.tmod_lt_of_pos (at' % 18446744073709551616) (show (0 : Int) < (k.length : Int) - 1 by omega)
            exact ⟨((at' % 18446744073709551616).tmod ((k.length : Int) - 1)).toNat, by omega, by omega⟩
          conv => whnf
          refine fit_wrap ?_
          rw [w64]
          conv => whnf
          repeat ((first | (refine fit_i64 ⟨by first | omega | rfl | (dsimp only; omega), by first | omega | rfl | (dsimp only; omega)⟩ ?_) | (refine fit_u64 ⟨by first | omega | rfl | (dsimp only; omega), by first | omega | rfl | (dsimp only; omega)⟩ ?_) | (refine And.intro (by first | omega | rfl | (dsimp only; omega)) ?_)); conv => whnf)
          rw [ha1]
          obtain ⟨A, p, q, B, hdec, hA⟩ : ∃ (A : List (Tok × Tok)) (p q : Tok × Tok) (B : List (Tok × Tok)), kv k vs = A ++ [p, q] ++ B ∧ A.length = a := by
            refine ⟨(kv k vs).take a, (kv k vs)[a], (kv k vs)[a + 1], (kv k vs).drop (a + 2), ?_, by simp; omega⟩
            rw [List.append_assoc]
            conv => lhs; rw [← List.take_append_drop a (kv k vs), List.drop_eq_getElem_cons (by omega), List.drop_eq_getElem_cons (by omega)]
            rfl
          conv => whnf
          refine Does.freeze 1 rfl (Does.weakerTo2 (env := [(2, .int .i64 a), (12, .ro M.length (toksC M))]) (heap := []) (nx := 0) (n := 167) [] rfl rfl ⟨⟨rfl, rfl⟩, ⟨rfl, whole_toks _, pureL_toks _⟩, trivial⟩ trivial (wpc_sound (M := MC) (PL := PLmaps) (CU := noCut) TTok mixed _ _ _ ?_))
          conv => whnf
          repeat ((first | refine ⟨rfl, ?_⟩ | (refine And.intro ?_ ?_; (focus (first | (simp only [pureL, pureV, pureL_bys, Bool.and_true, Bool.and_self]; done) | (simp only [pureL, pureV, pureL_bys, pureL_toks, Bool.and_true, Bool.and_self]; done))))); conv => whnf)
          refine ⟨_, _, tw, by first | rfl | simp [noRoIf, noRoL, noRoV, noRoL_bys], ?_⟩
          conv => whnf
          have hL1 : ∃ h : 1 + 2 * a < M.length, M[1 + 2 * a] = p.1 := by
            refine ⟨by omega, ?_⟩
            subst hA
            simp only [hMT, mapT, hdec, Nat.add_comm 1, List.getElem_cons_succ, List.append_assoc, pairs_app]
            rw [List.getElem_append_right (by rw [pairs_length]; omega)]
            simp [pairs_length, pairs]
          have hL3 : ∃ h : 3 + 2 * a < M.length, M[3 + 2 * a] = q.1 := by
            refine ⟨by omega, ?_⟩
            subst hA
            simp only [hMT, mapT, hdec, show 3 + 2 * A.length = (2 * A.length + 2) + 1 by omega, List.getElem_cons_succ, List.append_assoc, pairs_app]
            rw [List.getElem_append_right (by rw [pairs_length]; omega)]
            simp [pairs_length, pairs]
          obtain ⟨⟨h1l, h1⟩, ⟨h3l, h3⟩⟩ := And.intro hL1 hL3
          have ld1 : ∀ m s : Nat, m = 3 * (1 + 2 * a) → s = 3 → takeN s ((toksC M).drop m) = some (tokC p.1) := fun m s hm hs => by rw [← h1]; exact takeN_tok h1l hm hs
          have ld3 : ∀ m s : Nat, m = 3 * (3 + 2 * a) → s = 3 → takeN s ((toksC M).drop m) = some (tokC q.1) := fun m s hm hs => by rw [← h3]; exact takeN_tok h3l hm hs
          have eX : ∀ o3 : Nat, o3 = 3 * (3 + 2 * a) → setN (toksC (M.set (1 + 2 * a) q.1)) o3 (cellsA (.agg (tokC p.1))) = toksC ((M.set (1 + 2 * a) q.1).set (3 + 2 * a) p.1) := by
            intro o3 e3
            subst e3
            simp only [cellsA]
            rw [setN_tok _ _ _ (by simpa using h3l)]
          have eY : ∀ o1 : Nat, o1 = 3 * (1 + 2 * a) → setN (toksC M) o1 (cellsA (.agg (tokC q.1))) = toksC (M.set (1 + 2 * a) q.1) := by
            intro o1 e1
            subst e1
            simp only [cellsA]
            rw [setN_tok _ _ _ h1l]
          obtain ⟨px, py, rfl, hpx, hpy⟩ := hmem' p (by rw [hdec]; simp)
          obtain ⟨qx, qy, rfl, hqx, hqy⟩ := hmem' q (by rw [hdec]; simp)
          have hlt : px < qx := by
            have e1 : k[a]'(by omega) = px := by
              have h : (kv k vs)[a]'(by omega) = (⟨1, px, []⟩, ⟨1, py, []⟩) := by
                subst hA
                simp only [hdec, List.append_assoc]
                rw [List.getElem_append_right (Nat.le_refl _)]
                simp
              simp [kv] at h
              exact h.1
            have e2 : k[a + 1]'(by omega) = qx := by
              have h : (kv k vs)[a + 1]'(by omega) = (⟨1, qx, []⟩, ⟨1, qy, []⟩) := by
                subst hA
                simp only [hdec, List.append_assoc]
                rw [List.getElem_append_right (by omega)]
                simp
              simp [kv] at h
              exact h.1
            rw [← e1, ← e2]
            exact List.pairwise_iff_getElem.1 kp a (a + 1) (by omega) (by omega) (by omega)
          have hlen : A.length + 2 + B.length = k.length := by rw [← hkv, hdec]; simp; omega
          have bad : ∀ (r s : Tok × Tok) (x y x' y' : Int), r = (⟨1, x, []⟩, ⟨1, x', []⟩) → s = (⟨1, y, []⟩, ⟨1, y', []⟩) → y ≤ x → (0 ≤ x ∧ x ≤ 16777215) → (0 ≤ y ∧ y ≤ 16777215) → (0 ≤ x' ∧ x' ≤ 16777215) → (0 ≤ y' ∧ y' ≤ 16777215) →
              ∀ X : List Tok, X = mapT (A ++ [r, s] ++ B) → ACall Tryd.prog 17 [.ro M.length (toksC X)] (.int .i64 1) [] := by
            intro r s x y x' y' hr hs hyx hx hy hx' hy' X hX
            have hall : ∀ t ∈ A ++ [r, s] ++ B, ∃ x y : Int, t = (⟨1, x, []⟩, ⟨1, y, []⟩) ∧ (0 ≤ x ∧ x ≤ 16777215) ∧ (0 ≤ y ∧ y ≤ 16777215) := by
              intro t ht
              simp only [List.append_assoc, List.mem_append, List.mem_cons, List.not_mem_nil, or_false] at ht
              rcases ht with ht | (rfl | rfl) | ht
              · exact hmem' t (by rw [hdec]; simp [ht])
              · exact ⟨_, _, hr, hx, hx'⟩
              · exact ⟨_, _, hs, hy, hy'⟩
              · exact hmem' t (by rw [hdec]; simp [ht])
            have hno := mapT_no (u := validR) (az := A) (bs := B) (p := r) (q := s) (x := putL 0 x) (y := putL 0 y) (by simp; omega) (fun t ht => by
              obtain ⟨x, y, rfl, h1, h2⟩ := hall t (List.mem_append_left _ ht)
              exact ⟨_, _, flat_int _ h1.1, flat_int _ h2.1⟩) (by rw [hr]; exact flat_int _ hx.1) (by rw [hs]; exact flat_int _ hy.1) (by rw [putL_lt' 0 x y hx.1 (by omega) hy.1 (by omega)]; exact decide_eq_false (by omega))
            have tk := mapT_toks (ps := A ++ [r, s] ++ B) (by simp; omega) hall
            have := check_ok _ tk.1 tk.2
            rw [hno, ← hX] at this
            exact ACall.arg1 this (by rw [hX, hmk]; simp [mapT, pairs_length]; omega) rfl
          have cX := bad (⟨1, qx, []⟩, ⟨1, py, []⟩) (⟨1, px, []⟩, ⟨1, qy, []⟩) qx px py qy rfl rfl (by omega) hqx hpx hpy hqy ((M.set (1 + 2 * a) ⟨1, qx, []⟩).set (3 + 2 * a) ⟨1, px, []⟩) (by
            rw [hMT, mapT, hdec, ← hA, set_pairs1, set_pairs3, mapT]
            simp)
          have cY := bad (⟨1, qx, []⟩, ⟨1, py, []⟩) (⟨1, qx, []⟩, ⟨1, qy, []⟩) qx qx py qy rfl rfl (by omega) hqx hqx hpy hqy (M.set (1 + 2 * a) ⟨1, qx, []⟩) (by
            rw [hMT, mapT, hdec, ← hA, set_pairs1, mapT]
            simp)
          clear bad hlt hmem hmem' tok1 qb hL1 hL3
          simp only at ld1 ld3 eX eY
          refine ⟨by kernel_rfl, ?_⟩
          conv => whnf
          repeat' (first | (refine ifB_t ?_; (conv => whnf)) | (refine fit_i64 ⟨by first | omega | rfl | (dsimp only; omega), by first | omega | rfl | (dsimp only; omega)⟩ ?_; (conv => whnf)) | (refine ⟨rfl, ?_⟩; (conv => whnf)) | (refine And.intro (by first | omega | rfl | (dsimp only; omega)) ?_; (conv => whnf)) | (refine And.intro ?_ ?_; (focus (first | (simp only [pureL, pureV, pureL_bys, Bool.and_true, Bool.and_self]; done) | (simp only [pureL, pureV, pureL_bys, pureL_toks, Bool.and_true, Bool.and_self]; done))); (conv => whnf)) | (refine Or.inl ⟨⟨rfl, ?_⟩, ?_⟩; (focus (first | (simp [toksC_length]; done) | (simp [toksC_length]; omega))); (conv => whnf)) | (refine ⟨_, ld1 _ _ (by simp; omega) rfl, ?_⟩; conv => whnf) | (refine ⟨_, ld3 _ _ (by simp; omega) rfl, ?_⟩; conv => whnf) | (rw [eX _ (by simp; omega)]; conv => whnf) | (rw [eY _ (by simp; omega)]; conv => whnf) | (show (_ : Nat) ≤ _; simp [setN_length, toksC_length]; omega) | (refine ⟨_, _, cX, by first | rfl | simp [noRoIf, noRoL, noRoV, noRoL_bys], ?_⟩; conv => whnf) | (refine ⟨_, _, cY, by first | rfl | simp [noRoIf, noRoL, noRoV, noRoL_bys], ?_⟩; conv => whnf) | (refine ⟨_, _, tw, by first | rfl | simp [noRoIf, noRoL, noRoV, noRoL_bys], ?_⟩; conv => whnf) | (refine ⟨_, _, wakes_ok, by first | rfl | simp [noRoIf, noRoL, noRoV, noRoL_bys], ?_⟩; conv => whnf) | (rfl) | (refine ⟨_, rfl, ?_⟩; conv => whnf) | (refine And.intro ?_ ?_ <;> conv => whnf))
      · refine weaker_of [(0, 0), (1, 1)] rfl rfl ⟨⟨rfl, rfl, pureL_ints _⟩, ⟨rfl, rfl, pureL_ints _⟩, ⟨rfl, rfl⟩, ⟨rfl, rfl, rfl, rfl, id⟩, ⟨rfl, rfl, by simp [mapK, kv, pairs], rfl, nofun⟩, ⟨rfl, rfl⟩, trivial⟩ ⟨lesP_ints rfl, ?_, trivial⟩
        conv => whnf
        simp [mapK, kv, pairs]
        exact lesP_toks_nil (l := [])
  · exact weaker_of [] rfl rfl ⟨⟨rfl, rfl, pureL_ints _⟩, ⟨rfl, rfl, pureL_ints _⟩, ⟨rfl, rfl⟩, rfl, ⟨rfl, rfl⟩, trivial⟩ ⟨rfl, trivial⟩
end Go.Proofs.YtobjehjfdmelhabDoor.Abs
end
section
set_option linter.unusedVariables false
set_option linter.unusedSimpArgs false
namespace Go.Proofs.YtobjehjfdmelhabDoor.Abs
open Go
theorem bLt_irrefl : ∀ a : List Int, bytesLt a a = false
  | [] => rfl
  | x :: a => by simp [bytesLt, bLt_irrefl a]
theorem bLt_trans : ∀ {a b c : List Int}, bytesLt a b = true → bytesLt b c = true → bytesLt a c = true
  | _, [], c, h, _ => by simp [bytesLt] at h
  | _, _ :: _, [], _, h => by simp [bytesLt] at h
  | [], _ :: _, _ :: _, _, _ => rfl
  | x :: a, y :: b, z :: c, h, k => by
    simp only [bytesLt, Bool.or_eq_true, Bool.and_eq_true, decide_eq_true_eq, beq_iff_eq] at h k ⊢
    rcases h with h | ⟨rfl, h⟩ <;> rcases k with k | ⟨rfl, k⟩
    · exact .inl (by omega)
    · exact .inl h
    · exact .inl k
    · exact .inr ⟨rfl, bLt_trans h k⟩
/-- A text's bytes, where it is short. -/
def tb (s : List Int) : List Int := (96 + s.length) :: s
theorem putL_text {s : List Int} (h : s.length ≤ 20) : putL 3 s.length ++ s = tb s := by
  unfold putL sizeR
  rw [if_pos (by omega)]
  simp [tb, beAcc]
theorem tb_lt (a b : List Int) : bytesLt (tb a) (tb b) = (decide (a.length < b.length) || (decide (a.length = b.length) && bytesLt a b)) := by
  show (decide ((96 + a.length : Int) < 96 + b.length) || ((96 + (a.length : Int)) == 96 + (b.length : Int) && bytesLt a b)) = _
  rw [show decide ((96 + a.length : Int) < 96 + b.length) = decide (a.length < b.length) from decide_eq_decide.2 (by omega), show ((96 + (a.length : Int)) == 96 + (b.length : Int)) = decide (a.length = b.length) from by
    rw [show ((96 + (a.length : Int)) == 96 + (b.length : Int)) = decide ((96 + (a.length : Int)) = 96 + (b.length : Int)) from rfl]
    exact decide_eq_decide.2 (by omega)]
theorem tb_inj {a b : List Int} (h : tb a = tb b) : a = b := by
  unfold tb at h
  injection h
theorem putL0_head (n : Int) : ∃ a r, putL 0 n = a :: r ∧ a < 96 ∧ True := by
  unfold putL sizeR
  refine ⟨_, _, rfl, ?_, trivial⟩
  repeat' split
  all_goals simp
  omega
theorem int_lt_text (n : Int) (s : List Int) : bytesLt (putL 0 n) (tb s) = true := by
  obtain ⟨a, r, e, h, _⟩ := putL0_head n
  rw [e]
  unfold tb bytesLt
  rw [decide_eq_true (by omega)]
  rfl
theorem text_lt_int (n : Int) (s : List Int) : bytesLt (tb s) (putL 0 n) = false := by
  obtain ⟨a, r, e, h, _⟩ := putL0_head n
  rw [e]
  unfold tb bytesLt
  rw [decide_eq_false (by omega), show ((96 + (s.length : Int)) == a) = false by simp; omega]
  rfl
theorem flat_text {u : List Int → Bool} {s : List Int} (h : s.length ≤ 20) (hu : u s = true) : flatB u ⟨4, 0, s⟩ = some (tb s) := by
  unfold flatB
  rw [if_neg (by simp [rBad]), if_neg (by simp), if_pos rfl, if_pos hu, putL_text h]
def UpT (k : List (List Int)) : Prop := k.Pairwise (fun a b => bytesLt (tb a) (tb b) = true) ∧ ∀ x ∈ k, Byt x ∧ x.length ≤ 20 ∧ validR x = true
theorem upT_ins {k : List (List Int)} (h : UpT k) {n : List Int} (hn : Byt n ∧ n.length ≤ 20 ∧ validR n = true) {c : Nat} (hc : c ≤ k.length) (h1 : ∀ (j : Nat) (hj : j < k.length), j < c → bytesLt (tb k[j]) (tb n) = true)
    (h2 : ∀ hc : c < k.length, bytesLt (tb n) (tb k[c]) = true) : UpT (k.take c ++ [n] ++ k.drop c) := by
  obtain ⟨hp, hb⟩ := h
  have hp' := List.pairwise_iff_getElem.1 hp
  constructor
  · rw [List.append_assoc, List.pairwise_append]
    refine ⟨hp.sublist (List.take_sublist _ _), ?_, ?_⟩
    · rw [List.singleton_append, List.pairwise_cons]
      refine ⟨fun x hx => ?_, hp.sublist (List.drop_sublist _ _)⟩
      obtain ⟨j, hj, rfl⟩ := List.mem_iff_getElem.1 hx
      simp only [List.length_drop] at hj
      rw [List.getElem_drop]
      have hcl : c < k.length := by omega
      have := h2 hcl
      rcases Nat.eq_zero_or_pos j with rfl | hj0
      · simpa using this
      · exact bLt_trans this (hp' c (c + j) hcl (by omega) (by omega))
    · intro x hx y hy
      obtain ⟨i, hi, rfl⟩ := List.mem_iff_getElem.1 hx
      simp only [List.length_take] at hi
      rw [List.getElem_take]
      have hx := h1 i (by omega) (by omega)
      rcases List.mem_append.1 hy with hy | hy
      · simp at hy; subst hy; exact hx
      · obtain ⟨j, hj, rfl⟩ := List.mem_iff_getElem.1 hy
        simp only [List.length_drop] at hj
        rw [List.getElem_drop]
        exact hp' i (c + j) (by omega) (by omega) (by omega)
  · intro x hx
    rcases List.mem_append.1 hx with hx | hx
    · rcases List.mem_append.1 hx with hx | hx
      · exact hb x (List.mem_of_mem_take hx)
      · simp at hx; subst hx; exact hn
    · exact hb x (List.mem_of_mem_drop hx)
/-- Neither smaller nor the same: greater. -/
theorem upT_gt {a n : List Int} (h1 : bytesLt (tb a) (tb n) = false) (h2 : a ≠ n) : bytesLt (tb n) (tb a) = true := by
  have := lt_tri (tb a) (tb n)
  rw [h1, decide_eq_false (fun e => h2 (tb_inj e))] at this
  simp at this
  exact this
/-- The pairs: texts, where they stand. -/
def tx : List (List Int) → Nat → List (Tok × Tok)
  | [], _ => []
  | x :: k, i => (⟨4, 0, x⟩, ⟨1, i, []⟩) :: tx k (i + 1)
theorem tx_length : ∀ (k : List (List Int)) (i : Nat), (tx k i).length = k.length
  | [], _ => rfl
  | x :: k, i => by simp [tx, tx_length k]
theorem tx_app : ∀ (a b : List (List Int)) (i : Nat), tx (a ++ b) i = tx a i ++ tx b (i + a.length)
  | [], b, i => by simp [tx]
  | x :: a, b, i => by simp [tx, tx_app a b, Nat.add_assoc, Nat.add_comm 1]
def rowT (m N : Int) (k : List (List Int)) : List Tok := ⟨6, N, []⟩ :: pairs ((⟨1, m, []⟩, ⟨1, 0, []⟩) :: tx k 0)
theorem rowT_len (m N : Int) (k : List (List Int)) : (rowT m N k).length = 3 + 2 * k.length := by simp [rowT, pairs_length, pairs, tx_length]; omega
theorem rowT_snoc (m N : Int) (k : List (List Int)) (x : List Int) : rowT m N (k ++ [x]) = rowT m N k ++ [⟨4, 0, x⟩, ⟨1, k.length, []⟩] := by
  simp [rowT, tx_app, pairs, pairs_app, tx]
theorem rowT_map (m : Int) (k : List (List Int)) : rowT m (1 + k.length) k = mapT ((⟨1, m, []⟩, ⟨1, 0, []⟩) :: tx k 0) := by
  simp [rowT, mapT, tx_length]; omega
theorem tx_rises : ∀ (k : List (List Int)) (i : Nat) (o : Option (List Int)), UpT k → (∀ z, o = some z → ∀ x ∈ k, bytesLt z (tb x) = true) → rises validR o (tx k i)
  | [], i, o, _, _ => by simp [tx, rises]
  | x :: k, i, o, ⟨hp, hb⟩, ho => by
    have hx := hb x (by simp)
    rw [List.pairwise_cons] at hp
    have l2 := putL_short 0 (n := (i : Int)) (by omega)
    exact ⟨tb x, putL 0 i, flat_text hx.2.1 hx.2.2, flat_int _ (by omega), fun z hz => ho z hz x (by simp), by simp [tb]; omega, by omega, tx_rises k (i + 1) _ ⟨hp.2, fun y hy => hb y (by simp [hy])⟩ (fun z hz y hy => by
      injection hz with hz
      rw [← hz]
      exact hp.1 y hy)⟩
theorem rowT_rises (m : Int) (hm : 0 ≤ m ∧ m ≤ 65535) (k : List (List Int)) (hk : UpT k) : rises validR none ((⟨1, m, []⟩, ⟨1, 0, []⟩) :: tx k 0) := by
  have l1 := putL_short 0 hm.1
  have l2 := putL_short 0 (n := 0) (by omega)
  exact ⟨putL 0 m, putL 0 0, flat_int _ hm.1, flat_int _ (by omega), fun z hz => (by cases hz), by omega, by omega, tx_rises k 0 _ hk (fun z hz x _ => by
    injection hz with hz
    rw [← hz]
    exact int_lt_text m x)⟩
theorem tx_mem : ∀ {k : List (List Int)} {i : Nat} {p : Tok × Tok}, p ∈ tx k i → ∃ x ∈ k, ∃ j : Nat, p = (⟨4, 0, x⟩, ⟨1, j, []⟩) ∧ j < i + k.length
  | [], i, p, h => by simp [tx] at h
  | x :: k, i, p, h => by
    simp only [tx, List.mem_cons] at h
    rcases h with rfl | h
    · exact ⟨x, by simp, i, rfl, by simp⟩
    · obtain ⟨y, hy, j, e, hj⟩ := tx_mem h
      exact ⟨y, by simp [hy], j, e, by simp; omega⟩
/-- The tokens of such pairs are in range. -/
def PairOk (p : Tok × Tok) : Prop := (TokOk p.1 ∧ p.1.b.length ≤ 20) ∧ (TokOk p.2 ∧ p.2.b.length ≤ 20)
theorem tx_ok {k : List (List Int)} (hk : ∀ x ∈ k, Byt x ∧ x.length ≤ 20) {i : Nat} (hl : i + k.length ≤ 1000) : ∀ p ∈ tx k i, PairOk p := by
  intro p hp
  obtain ⟨x, hx, j, rfl, hj⟩ := tx_mem hp
  exact ⟨⟨⟨by simp, by simp, (hk x hx).1⟩, (hk x hx).2⟩, ⟨by simp, by simp only; omega, by simp [Byt]⟩, by simp⟩
theorem int_pair_ok {m n : Int} (hm : 0 ≤ m ∧ m ≤ 65535) (hn : 0 ≤ n ∧ n ≤ 65535) : PairOk (⟨1, m, []⟩, ⟨1, n, []⟩) :=
  ⟨⟨⟨by simp, by simp only; omega, by simp [Byt]⟩, by simp⟩, ⟨by simp, by simp only; omega, by simp [Byt]⟩, by simp⟩
theorem mapT_ok {ps : List (Tok × Tok)} (hl : ps.length ≤ 64) (h : ∀ p ∈ ps, PairOk p) : ToksOk (mapT ps) ∧ ∀ t ∈ mapT ps, t.b.length ≤ 1099511627776 := by
  have key : ∀ t ∈ mapT ps, TokOk t ∧ t.b.length ≤ 20 := by
    intro t ht
    simp only [mapT, List.mem_cons] at ht
    rcases ht with rfl | ht
    · exact ⟨⟨by simp, by simp only; omega, by simp [Byt]⟩, by simp⟩
    · obtain ⟨p, hp, hh⟩ := pairs_mem ht
      rcases hh with rfl | rfl
      · exact (h p hp).1
      · exact (h p hp).2
  exact ⟨fun t ht => (key t ht).1, fun t ht => by have := (key t ht).2; omega⟩
/-- The number behind the first text. -/
theorem swapT (m : Int) (hm : 0 ≤ m ∧ m ≤ 65535) (x : List Int) (k : List (List Int)) (hk : UpT (x :: k)) (hl : k.length ≤ 40) :
    encR validR (mapT ((⟨4, 0, x⟩, ⟨1, 0, []⟩) :: (⟨1, m, []⟩, ⟨1, 0, []⟩) :: tx k 1)) = ([], 1) := by
  have hx := hk.2 x (by simp)
  exact mapT_no (u := validR) (az := []) (p := (⟨4, 0, x⟩, ⟨1, 0, []⟩)) (q := (⟨1, m, []⟩, ⟨1, 0, []⟩)) (bs := tx k 1) (by simp [tx_length]; omega) (fun r hr => by
    simp at hr
    rcases hr with rfl | rfl
    · exact ⟨_, _, flat_text hx.2.1 hx.2.2, flat_int _ (by omega)⟩
    · exact ⟨_, _, flat_int _ hm.1, flat_int _ (by omega)⟩) (flat_text hx.2.1 hx.2.2) (flat_int _ hm.1) (text_lt_int m x)
def strs (l : List (List Int)) : List AV := l.map .str
theorem strs_length (l : List (List Int)) : (strs l).length = l.length := by simp [strs]
theorem pureL_strs : ∀ l, pureL (strs l) = true
  | [] => rfl
  | x :: l => by simp only [strs, List.map_cons, pureL, pureV, Bool.true_and]; exact pureL_strs l
theorem lesP_strs {o : Nat → Option Nat} {xs : List AV} : ∀ {l : List (List Int)}, xs = strs l → lesP o (strs l) xs
  | [], h => by subst h; trivial
  | x :: l, h => by
    subst h
    exact ⟨rfl, lesP_strs rfl⟩
theorem get_strs {l : List (List Int)} {c m : Nat} (h : c < l.length) (hm : m = c) : ((strs l).drop m)[0]? = some (.str l[c]) := by
  subst hm
  simp [strs, h]
theorem strs_of_cells {n : Nat} : ∀ (es : List (List AV)), (∀ y ∈ es, TyL TT (n + 1) 9 y) → ∃ l : List (List Int), es.flatten = strs l ∧ l.length = es.length ∧ ∀ t ∈ l, Byt t ∧ t.length ≤ 9223372036854775807
  | [], _ => ⟨[], rfl, rfl, by simp⟩
  | y :: es, h => by
    obtain ⟨l, h1, h2, h3⟩ := strs_of_cells es fun z hz => h z (by simp [hz])
    obtain ⟨s, rfl, k1, k2⟩ := h y (by simp)
    refine ⟨s :: l, by simp [h1, strs], by simp [h2], fun x hx => ?_⟩
    rcases List.mem_cons.1 hx with rfl | hx
    · exact ⟨k1, k2⟩
    · exact h3 x hx
theorem strs_of_slice {n : Nat} {xs : List AV} (h : TyL TT (n + 2) 43 xs) : ∃ l : List (List Int), xs = [.ro l.length (strs l)] ∧ ((∀ t ∈ l, Byt t ∧ t.length ≤ 9223372036854775807) ∧ l.length ≤ 9223372036854775807) := by
  obtain ⟨es, rfl, hl, he⟩ := h
  obtain ⟨l, h1, h2, h3⟩ := strs_of_cells es he
  exact ⟨l, by simp [h1, h2], h3, by omega⟩
end Go.Proofs.YtobjehjfdmelhabDoor.Abs
end
section
set_option linter.unusedVariables false
set_option linter.unusedSimpArgs false
namespace Go.Proofs.YtobjehjfdmelhabDoor.Abs
open Go
attribute [local irreducible] ifB fitP Does Weaker
theorem and192 : ∀ c : Fin 256, decide (bits .and .u8 (c.val : Int) 192 ≠ 128) = !uCont c.val := by decide +kernel
theorem and192' {x : Int} (h : 0 ≤ x ∧ x < 256) : decide (bits .and .u8 x 192 ≠ 128) = !uCont x := by
  have := and192 ⟨x.toNat, by omega⟩
  simp only [Int.toNat_of_nonneg h.1] at this
  exact this
theorem i64_and (k : Nat) (hk : k ≤ 63) (x : Int) (h0 : 0 ≤ x) (h1 : x < 9223372036854775808) : bits .and .i64 x (2 ^ k - 1) = x % 2 ^ k := bits_mask .i64 63 (by decide) wrap_i64_63 k hk x h0 (by simpa using h1)
theorem uVal_snoc (v : Int) (l : List Int) (c : Int) : uVal v (l ++ [c]) = uVal v l * 64 + c % 64 := by simp [uVal]
theorem uVal_take {v : Int} {l : List Int} {c : Nat} (h : c < l.length) : uVal v (l.take (c + 1)) = uVal v (l.take c) * 64 + l[c] % 64 := by
  rw [List.take_succ_eq_append_getElem h, uVal_snoc]
theorem uVal_bound {v : Int} (h0 : 0 ≤ v ∧ v < 32) : ∀ {l : List Int}, l.length ≤ 3 → 0 ≤ uVal v l ∧ uVal v l < 32 * 64 ^ l.length := by
  intro l hl
  have key : ∀ (n : Nat) (l : List Int), l.length = n → 0 ≤ uVal v l ∧ uVal v l < 32 * 64 ^ n := by
    intro n
    induction n with
    | zero => intro l h; obtain rfl := List.length_eq_zero_iff.1 h; simp [uVal]; omega
    | succ n ih =>
      intro l h
      have e : l = l.take n ++ [l[n]'(by omega)] := by
        rw [← List.take_succ_eq_append_getElem (by omega), List.take_of_length_le (by omega)]
      rw [e, uVal_snoc, Int.pow_succ]
      obtain ⟨a, b⟩ := ih (l.take n) (by simp; omega)
      omega
  exact key _ l rfl
theorem uLead_le (c : Int) (h : 0 ≤ c) : (uLead c).1 ≤ 3 ∧ 0 ≤ (uLead c).2.1 ∧ (uLead c).2.1 < 32 ∧ 0 ≤ (uLead c).2.2 ∧ (uLead c).2.2 ≤ 65536 := by
  unfold uLead
  repeat' split
  all_goals (simp only; omega)
theorem drop_cons {l : List Int} {i : Nat} (h : i < l.length) : l.drop i = l[i] :: l.drop (i + 1) := List.drop_eq_getElem_cons h
set_option maxHeartbeats 4000000 in
theorem refUtf8_ok (b : List Int) (hb : Byt b) (hl : b.length ≤ 1099511627776) : ACall Tryd.prog 29 [.ro b.length (bys b)] (.bool (validR b)) [] := by
  refine ACall.of_does TTok Tryd.func29 rfl Tryd.call29 rfl (wpc_sound (M := MC) (PL := PL0) (CU := noCut) TTok mixed _ _ _ ?_)
  conv => whnf
  refine Does.loop (fun i : Nat => mkSt [(0, .ro b.length (bys b)), (3, .int .i64 i)] [] 0 95) (fun i => i ≤ b.length ∧ validR (b.drop i) = validR b) (fun i => b.length - i) ?_ 0 ⟨Nat.zero_le _, rfl⟩ ?_
  · rintro i ⟨hi, hv⟩
    refine wpc_sound (M := MC) (PL := PL0) (CU := cutAt [6]) TTok mixed _ _ _ ?_
    conv => whnf
    refine ifB_dec (fun k1 => ?_) (fun k1 => ?_)
    · have c1 : i < b.length := by omega
      have hc := hb b[i] (List.getElem_mem c1)
      have hd := drop_cons c1
      rw [hd] at hv
      conv => whnf
      repeat ((refine ⟨⟨?_, ?_, ?_⟩, ?_⟩; (focus omega); (focus (first | omega | (simp; done) | (simp; omega))); (focus (first | (simp; done) | (simp; omega) | (rw [toksC_length]; simp; omega)))); conv => whnf)
      refine ⟨_, get_bysM c1 (by simp), ?_⟩
      conv => whnf
      repeat ((refine fit_i64 ⟨by first | omega | rfl | (dsimp only; omega), by first | omega | rfl | (dsimp only; omega)⟩ ?_); conv => whnf)
      obtain ⟨s, v, low, hu⟩ : ∃ s v low, uLead b[i] = (s, v, low) := ⟨_, _, _, rfl⟩
      have hle := uLead_le b[i] hc.1
      rw [hu] at hle
      simp only at hle
      refine Does.seqCut (α := Unit) (fun _ => mkSt [(0, .ro b.length (bys b)), (3, .int .i64 i), (4, .int .i64 v), (5, .int .i64 s), (6, .int .i64 low)] [] 0 95) (fun _ => ¬ b[i] < 128 ∧ 0 < s) ?_ ?_
      · refine wpc_sound (M := MC) (PL := PL0) (CU := noCut) TTok mixed _ _ _ ?_
        conv => whnf
        refine ifB_dec (fun k2 => ?_) (fun k2 => ?_)
        · conv => whnf
          repeat ((first | refine ifB_t ?_ | refine ifB_f ?_); conv => whnf)
          refine fit_i64 ⟨by omega, by omega⟩ ?_
          conv => whnf
          repeat ((first | refine ifB_t ?_ | refine ifB_f ?_); conv => whnf)
          rw [validR_asc k2] at hv
          refine ⟨i + 1, ⟨by omega, hv⟩, by omega, weaker_of [] rfl rfl ⟨⟨rfl, rfl, pureL_bys _⟩, ⟨rfl, rfl⟩, trivial⟩ trivial⟩
        conv => whnf
        have h31 := i64_and 5 (by decide) b[i] hc.1 (by omega)
        have h15 := i64_and 4 (by decide) b[i] hc.1 (by omega)
        have h7 := i64_and 3 (by decide) b[i] hc.1 (by omega)
        simp only [show (2 : Int) ^ 5 = 32 from rfl, show (2 : Int) ^ 4 = 16 from rfl, show (2 : Int) ^ 3 = 8 from rfl, show (32 : Int) - 1 = 31 from rfl, show (16 : Int) - 1 = 15 from rfl, show (8 : Int) - 1 = 7 from rfl] at h31 h15 h7
        have cs : (192 ≤ b[i] ∧ b[i] < 224 ∧ s = 1 ∧ v = b[i] % 32 ∧ low = 128) ∨ (224 ≤ b[i] ∧ b[i] < 240 ∧ s = 2 ∧ v = b[i] % 16 ∧ low = 2048) ∨ (240 ≤ b[i] ∧ b[i] < 248 ∧ s = 3 ∧ v = b[i] % 8 ∧ low = 65536) ∨
            (¬ (192 ≤ b[i] ∧ b[i] < 248) ∧ s = 0) := by
          unfold uLead at hu
          by_cases q1 : 192 ≤ b[i] ∧ b[i] < 224
          · rw [if_pos q1] at hu; simp only [Prod.mk.injEq] at hu; omega
          rw [if_neg q1] at hu
          by_cases q2 : 224 ≤ b[i] ∧ b[i] < 240
          · rw [if_pos q2] at hu; simp only [Prod.mk.injEq] at hu; omega
          rw [if_neg q2] at hu
          by_cases q3 : 240 ≤ b[i] ∧ b[i] < 248
          · rw [if_pos q3] at hu; simp only [Prod.mk.injEq] at hu; omega
          rw [if_neg q3] at hu; simp only [Prod.mk.injEq] at hu; omega
        have hu0 := hu
        clear hle hu
        rcases cs with ⟨q1, q2, rfl, rfl, rfl⟩ | ⟨q1, q2, rfl, rfl, rfl⟩ | ⟨q1, q2, rfl, rfl, rfl⟩ | ⟨q1, rfl⟩
        · conv => whnf
          repeat ((first | refine ifB_t ?_ | (refine ifB_pos (decide_eq_true (by first | omega | rfl | (dsimp only; omega))) ?_)); conv => whnf)
          exact ⟨(), ⟨k2, by omega⟩, weaker_of [] rfl rfl ⟨⟨rfl, rfl, pureL_bys _⟩, ⟨rfl, rfl⟩, ⟨rfl, h31⟩, ⟨rfl, rfl⟩, ⟨rfl, rfl⟩, trivial⟩ trivial⟩
        · conv => whnf
          repeat ((first | refine ifB_t ?_ | (refine ifB_neg (decide_eq_false (by first | omega | rfl | (dsimp only; omega))) ?_) | (refine ifB_pos (decide_eq_true (by first | omega | rfl | (dsimp only; omega))) ?_)); conv => whnf)
          exact ⟨(), ⟨k2, by omega⟩, weaker_of [] rfl rfl ⟨⟨rfl, rfl, pureL_bys _⟩, ⟨rfl, rfl⟩, ⟨rfl, h15⟩, ⟨rfl, rfl⟩, ⟨rfl, rfl⟩, trivial⟩ trivial⟩
        · conv => whnf
          repeat ((first | refine ifB_t ?_ | (refine ifB_neg (decide_eq_false (by first | omega | rfl | (dsimp only; omega))) ?_) | (refine ifB_pos (decide_eq_true (by first | omega | rfl | (dsimp only; omega))) ?_)); conv => whnf)
          exact ⟨(), ⟨k2, by omega⟩, weaker_of [] rfl rfl ⟨⟨rfl, rfl, pureL_bys _⟩, ⟨rfl, rfl⟩, ⟨rfl, h7⟩, ⟨rfl, rfl⟩, ⟨rfl, rfl⟩, trivial⟩ trivial⟩
        · have e : validR b = false := by
            rw [← hv, validR_big k2, hu0, if_pos (Or.inl rfl)]
          rw [e]
          refine ifB_dec (fun k3 => ?_) (fun k3 => ?_)
          · conv => whnf
            repeat ((first | refine ifB_t ?_ | (refine ifB_neg (decide_eq_false (by first | omega | rfl | (dsimp only; omega))) ?_) | (refine ifB_pos (decide_eq_true (by first | omega | rfl | (dsimp only; omega))) ?_) | refine ⟨rfl, ?_⟩); conv => whnf)
            rfl
          · conv => whnf
            repeat ((first | refine ifB_f ?_ | (refine ifB_neg (decide_eq_false (by first | omega | rfl | (dsimp only; omega))) ?_) | refine ⟨rfl, ?_⟩); conv => whnf)
            rfl
      · rintro ⟨⟩ ⟨k2, hs⟩
        refine wpc_sound (M := MC) (PL := PL0) (CU := noCut) TTok mixed _ _ _ ?_
        conv => whnf
        repeat ((refine fit_i64 ⟨by first | omega | rfl | (dsimp only; omega), by first | omega | rfl | (dsimp only; omega)⟩ ?_); conv => whnf)
        rw [validR_big k2, hu] at hv
        simp only at hv
        refine ifB_dec (fun k3 => ?_) (fun k3 => ?_)
        · rw [if_pos (by simp; omega)] at hv
          rw [← hv]
          conv => whnf
          repeat ((refine ⟨rfl, ?_⟩); conv => whnf)
          rfl
        rw [if_neg (by simp; omega)] at hv
        conv => whnf
        obtain ⟨r, hr⟩ : ∃ r, r = b.drop (i + 1) := ⟨_, rfl⟩
        rw [← hr] at hv hd
        have hrl : r.length = b.length - (i + 1) := by rw [hr]; simp
        have hsr : s ≤ r.length := by omega
        have hrb : ∀ (k : Nat) (h : k < r.length), r[k] = b[i + 1 + k]'(by omega) := by intro k h; subst hr; simp
        refine Does.loop (fun k : Nat => mkSt [(0, .ro b.length (bys b)), (3, .int .i64 i), (4, .int .i64 (uVal v (r.take k))), (5, .int .i64 s), (6, .int .i64 low), (7, .int .i64 ((k : Int) + 1))] [] 0 95)
          (fun k => k ≤ s ∧ (r.take k).all uCont = true) (fun k => s - k) ?_ 0 ⟨Nat.zero_le _, rfl⟩ ?_
        · rintro k ⟨hk, hall⟩
          have hub := uVal_bound (v := v) ⟨by omega, by omega⟩ (l := r.take k) (by simp; omega)
          have hul : (r.take k).length = k := by simp; omega
          rw [hul] at hub
          have hpow : (64 : Int) ^ k ≤ 262144 := by
            have : k = 0 ∨ k = 1 ∨ k = 2 ∨ k = 3 := by omega
            rcases this with rfl | rfl | rfl | rfl <;> decide
          obtain ⟨u, hu'⟩ : ∃ u, u = uVal v (r.take k) := ⟨_, rfl⟩
          rw [← hu'] at hub ⊢
          refine wpc_sound (M := MC) (PL := PL0) (CU := noCut) TTok mixed _ _ _ ?_
          conv => whnf
          refine ifB_dec (fun k4 => ?_) (fun k4 => ?_)
          · have ck : k < s := by omega
            have cb : i + 1 + k < b.length := by omega
            have hx := hb b[i + 1 + k] (List.getElem_mem cb)
            conv => whnf
            repeat ((first | (refine fit_i64 ⟨by first | omega | rfl | (dsimp only; omega), by first | omega | rfl | (dsimp only; omega)⟩ ?_) | (refine ⟨⟨?_, ?_, ?_⟩, ?_⟩; (focus omega); (focus (first | omega | (simp; done) | (simp; omega))); (focus (first | (simp; done) | (simp; omega) | (rw [toksC_length]; simp; omega))))); conv => whnf)
            refine ⟨_, get_bysM cb (by simp; omega), ?_⟩
            conv => whnf
            rw [and192' hx]
            cases hcont : uCont b[i + 1 + k]
            · have e : validR b = false := by
                rw [← hv]
                have : (r.take s).all uCont = false := by
                  rw [List.all_eq_false]
                  exact ⟨r[k]'(by omega), by
                    have : r[k]'(by omega) = (r.take s)[k]'(by simp; omega) := by simp
                    rw [this]; exact List.getElem_mem _, by rw [hrb k (by omega), hcont]; simp⟩
                rw [this]
                rfl
              rw [e]
              conv => whnf
              repeat ((first | refine ifB_t ?_ | refine ⟨rfl, ?_⟩); conv => whnf)
              rfl
            · have h63 := u8_and63 _ hx.1 hx.2
              have e6 : u * 2 ^ min (Int.toNat 6) IntKind.i64.bits = u * 64 := by
                have : (2 : Int) ^ min (Int.toNat 6) IntKind.i64.bits = 64 := by decide
                rw [this]
              have hor := bits_join .i64 63 (by decide) wrap_i64_63 6 (u * 64) (b[i + 1 + k] % 64) (by omega) (by omega) (by omega) (by omega) (by omega) (by omega)
              conv => whnf
              repeat ((first | refine ifB_f ?_ | (refine fit_i64 ⟨by first | omega | rfl | (dsimp only; omega), by first | omega | rfl | (dsimp only; omega)⟩ ?_) | (refine And.intro (by first | omega | rfl | (dsimp only; omega)) ?_) | (refine ⟨⟨?_, ?_, ?_⟩, ?_⟩; (focus omega); (focus (first | omega | (simp; done) | (simp; omega))); (focus (first | (simp; done) | (simp; omega) | (rw [toksC_length]; simp; omega))))); conv => whnf)
              refine ⟨_, get_bysM cb (by simp; omega), ?_⟩
              conv => whnf
              repeat ((refine fit_i64 ⟨by first | omega | rfl | (dsimp only; omega), by first | omega | rfl | (dsimp only; omega)⟩ ?_); conv => whnf)
              refine ⟨k + 1, ⟨by omega, ?_⟩, by omega, weaker_of [] rfl rfl ⟨⟨rfl, rfl, pureL_bys _⟩, ⟨rfl, rfl⟩, ⟨rfl, ?_⟩, ⟨rfl, rfl⟩, ⟨rfl, rfl⟩, ⟨rfl, by omega⟩, trivial⟩ trivial⟩
              · rw [List.take_succ_eq_append_getElem (by omega), List.all_append, hall, hrb k (by omega)]
                simp [hcont]
              · rw [e6, h63, hor, uVal_take (by omega), ← hu', hrb k (by omega)]
          · obtain rfl : k = s := by omega
            rw [hall, ← hu', Bool.true_and] at hv
            have bad : ¬ (low ≤ u ∧ u ≤ 1114111 ∧ ¬ (55296 ≤ u ∧ u ≤ 57343)) → validR b = false := by
              intro h
              rw [← hv, uRight, decide_eq_false h]
              rfl
            conv => whnf
            refine ifB_dec (fun k5 => ?_) (fun k5 => ?_)
            · rw [bad (by omega)]
              conv => whnf
              repeat ((first | refine ifB_t ?_ | refine ⟨rfl, ?_⟩); conv => whnf)
              rfl
            conv => whnf
            repeat ((refine ifB_f ?_); conv => whnf)
            refine ifB_dec (fun k6 => ?_) (fun k6 => ?_)
            · rw [bad (by omega)]
              conv => whnf
              repeat ((first | refine ifB_t ?_ | refine ⟨rfl, ?_⟩); conv => whnf)
              rfl
            conv => whnf
            repeat ((first | refine ifB_f ?_ | refine ⟨rfl, ?_⟩); conv => whnf)
            have hin := in_ok u 55296 57343
            by_cases k7 : 55296 ≤ u ∧ u ≤ 57343
            · rw [decide_eq_true k7] at hin
              rw [bad (by omega)]
              refine ⟨_, _, hin, by first | rfl | simp [noRoIf, noRoL, noRoV, noRoL_bys], ?_⟩
              conv => whnf
              repeat ((first | refine ifB_t ?_ | refine ifB_f ?_ | refine ⟨rfl, ?_⟩); conv => whnf)
              rfl
            · rw [decide_eq_false k7] at hin
              have hg : uRight low u = true := by rw [uRight]; exact decide_eq_true ⟨by omega, by omega, k7⟩
              rw [hg, Bool.true_and, hr, List.drop_drop] at hv
              refine ⟨_, _, hin, by first | rfl | simp [noRoIf, noRoL, noRoV, noRoL_bys], ?_⟩
              conv => whnf
              repeat ((first | refine ifB_f ?_ | (refine fit_i64 ⟨by first | omega | rfl | (dsimp only; omega), by first | omega | rfl | (dsimp only; omega)⟩ ?_)); conv => whnf)
              refine ⟨i + 1 + k, ⟨by omega, hv⟩, by omega, weaker_of [] rfl rfl ⟨⟨rfl, rfl, pureL_bys _⟩, ⟨rfl, by omega⟩, trivial⟩ trivial⟩
        · exact weaker_of [] rfl rfl ⟨⟨rfl, rfl, pureL_bys _⟩, ⟨rfl, rfl⟩, ⟨rfl, rfl⟩, ⟨rfl, rfl⟩, ⟨rfl, rfl⟩, ⟨rfl, rfl⟩, trivial⟩ trivial
    · rw [List.drop_of_length_le (by omega), validR_nil] at hv
      rw [← hv]
      conv => whnf
      repeat ((refine ⟨rfl, ?_⟩); conv => whnf)
      rfl
  · exact weaker_of [] rfl rfl ⟨⟨rfl, rfl, pureL_bys _⟩, ⟨rfl, rfl⟩, trivial⟩ trivial
end Go.Proofs.YtobjehjfdmelhabDoor.Abs
end
section
set_option linter.unusedVariables false
set_option linter.unusedSimpArgs false
namespace Go.Proofs.YtobjehjfdmelhabDoor.Abs
open Go
attribute [local irreducible] ifB fitP Does Weaker
def wkC (r : Option (Nat × List Int)) : List AV := match r with
  | some (a, bs) => [.int .i64 (a : Int), .own bs.length 1 (bys bs), .bool false]
  | none => [.int .i64 0, .own 0 1 [], .bool true]
def RItemOk (l : List Tok) (f : Nat) : Prop := ∀ at' : Nat, at' ≤ 1000000 → ACall Tryd.prog 21 [.ro l.length (toksC l), .int .i64 at', .int .i64 (6 - (f : Int))] (.agg (wkC (rItem validR l f at'))) []
theorem ritem_none (l : List Tok) (f : Nat) (hl : l.length ≤ 1000000) (at' : Nat) (h : l.length ≤ at') (d : Int) : ACall Tryd.prog 21 [.ro l.length (toksC l), .int .i64 at', .int .i64 d] (.agg (wkC none)) [] := by
  refine ACall.of_does TTok Tryd.func21 rfl Tryd.call21 rfl (wpc_sound (M := MC) (PL := PL0) (CU := noCut) TTok mixed _ _ _ ?_)
  conv => whnf
  repeat ((first | (refine ifB_pos (decide_eq_true (by first | omega | rfl | (dsimp only; omega))) ?_) | refine ⟨rfl, ?_⟩ | refine ⟨_, rfl, ?_⟩ | refine ⟨⟨rfl, rfl⟩, ?_⟩ | (refine ⟨⟨rfl, rfl, ?_⟩, ?_⟩; (focus (first | exact Nat.le_of_ble_eq_true rfl | (simp; done))))); conv => whnf)
  rfl
def PLri1 : Plan := (takesTo [0, 1, 2, 6] (.all [(3, (takesTo [4] (.all [(5, (.all [(7, (.all [(8, (takesTo [9] (.all [(10, .done)])))]))])), (7, (.all [(5, (.all [(8, (takesTo [9] (.all [(10, .done)])))]))]))]))), (7, (.all [(3, (takesTo [4] (.all [(5, (.all [(8, (takesTo [9] (.all [(10, .done)])))]))])))]))]))
def PLri : Nat → Bool × Plan := plans [(13, (false, PLri1)), (17, (false, PLri1))]
set_option maxHeartbeats 4000000 in
theorem ritem_at (l : List Tok) (hl : ToksOk l) (hlb : ∀ t ∈ l, t.b.length ≤ 1099511627776) (hll : l.length ≤ 1000000) (at' : Nat) (ha : at' < l.length) (f : Nat) (hf : f ≤ 6)
    (hm : (l[at'].k = 5 ∨ l[at'].k = 6) → ¬ rBad l[at'] → ACall Tryd.prog 21 [.ro l.length (toksC l), .int .i64 at', .int .i64 (6 - (f : Int))] (.agg (wkC (rItem validR l f at'))) []) :
    ACall Tryd.prog 21 [.ro l.length (toksC l), .int .i64 at', .int .i64 (6 - (f : Int))] (.agg (wkC (rItem validR l f at'))) [] := by
  have hL := pureL_toks l
  by_cases hmm : (l[at'].k = 5 ∨ l[at'].k = 6) ∧ ¬ rBad l[at']
  · exact hm hmm.1 hmm.2
  clear hm
  rw [rItem_tok _ _ _ _ ha]
  obtain ⟨t, ht⟩ : ∃ t, t = l[at'] := ⟨_, rfl⟩
  have hto : TokOk t := by rw [ht]; exact hl _ (List.getElem_mem ha)
  have htb : t.b.length ≤ 1099511627776 := by rw [ht]; exact hlb _ (List.getElem_mem ha)
  have hld : ∀ m s : Nat, m = 3 * at' → s = 3 → takeN s ((toksC l).drop m) = some (tokC t) := by
    intro m s hm hs
    rw [takeN_tok ha hm hs, ht]
  rw [← ht] at hmm ⊢
  obtain ⟨k, n, b⟩ := t
  clear ht
  simp only [rBad] at htb hmm
  replace hld : ∀ m s : Nat, m = 3 * at' → s = 3 → takeN s ((toksC l).drop m) = some [.int .i64 k, .int .i64 n, .ro b.length (bys b)] := hld
  refine ACall.of_does TTok Tryd.func21 rfl Tryd.call21 rfl (wpc_sound (M := MC) (PL := PLri) (CU := cutAt [200005]) TTok mixed _ _ _ ?_)
  conv => whnf
  repeat ((first | (refine ifB_neg (decide_eq_false (by first | omega | rfl | (dsimp only; omega))) ?_) | refine ⟨rfl, ?_⟩ | (refine ⟨⟨rfl, rfl, ?_⟩, ?_⟩; (focus (first | exact Nat.le_of_ble_eq_true rfl | (simp; done)))) | (refine ⟨⟨?_, ?_, ?_⟩, ?_⟩; (focus omega); (focus (first | omega | (simp; done) | (simp; omega))); (focus (first | (simp; done) | (simp; omega) | (rw [toksC_length]; simp; omega))))); conv => whnf)
  refine ⟨_, hld _ _ (by simp; omega) rfl, ?_⟩
  conv => whnf
  repeat ((first | refine ⟨rfl, ?_⟩ | (refine ⟨⟨rfl, rfl, ?_⟩, ?_⟩; (focus (first | exact Nat.le_of_ble_eq_true rfl | (simp; done))))); conv => whnf)
  refine Does.seqCut (α := Unit) (fun _ => mkSt [(0, .ro l.length (toksC l)), (1, .int .i64 (at' : Int)), (2, .int .i64 (6 - (f : Int))), (6, .ptr 0 0), (7, .ptr 1 0), (8, .ptr 2 0), (57, .bool (decide (rBad ⟨k, n, b⟩)))]
    [(0, [.int .i64 0, .nil, .bool false]), (1, [.int .i64 0, .nil, .bool true]), (2, [.int .i64 k, .int .i64 n, .ro b.length (bys b)])] 3 191) (fun _ => True) ?_ (fun _ _ => ?_)
  · refine wpc_sound (M := MC) (PL := PL0) (CU := noCut) TTok mixed _ _ _ ?_
    conv => whnf
    repeat' (first | (refine ifB_t ?_; (conv => whnf)) | (refine ifB_f ?_; (conv => whnf)) | (refine ifB_neg (decide_eq_false (by first | omega | rfl | (dsimp only; omega))) ?_; (conv => whnf)) | (refine ifB_pos (decide_eq_true (by first | omega | rfl | (dsimp only; omega))) ?_; (conv => whnf)) | (exact ⟨(), trivial, weaker_of [(0, 0), (1, 1), (2, 2)] rfl rfl ⟨⟨rfl, rfl, hL⟩, ⟨rfl, rfl⟩, ⟨rfl, rfl⟩, ⟨rfl, rfl⟩, ⟨rfl, rfl⟩, ⟨rfl, rfl⟩, leP_bool (by first | exact (decide_eq_true (p := rBad ⟨k, n, b⟩) (by simp only [rBad]; omega)).symm | exact (decide_eq_false (p := rBad ⟨k, n, b⟩) (by simp only [rBad]; omega)).symm | exact decide_eq_decide.2 (by simp only [rBad]; omega)), trivial⟩ ⟨⟨⟨rfl, rfl⟩, trivial, rfl, trivial⟩, ⟨⟨rfl, rfl⟩, trivial, rfl, trivial⟩, ⟨⟨rfl, rfl⟩, ⟨rfl, rfl⟩, ⟨rfl, rfl, pureL_bys _⟩, trivial⟩, trivial⟩⟩) | (refine ⟨_, rfl, ?_⟩; conv => whnf) | (refine ifB_dec (fun _ => ?_) (fun _ => ?_) <;> conv => whnf) | (refine And.intro ?_ ?_ <;> conv => whnf))
  · refine wpc_sound (M := MC) (PL := PLri) (CU := noCut) TTok mixed _ _ _ ?_
    conv => whnf
    unfold rTok
    refine ifB_bool (fun hC => ?_) (fun hC => ?_)
    · rw [if_pos (of_decide_eq_true hC)]
      conv => whnf
      repeat ((first | refine ⟨rfl, ?_⟩ | refine ⟨_, rfl, ?_⟩ | refine ⟨⟨rfl, rfl⟩, ?_⟩ | (refine ⟨⟨rfl, rfl, ?_⟩, ?_⟩; (focus (first | exact Nat.le_of_ble_eq_true rfl | (simp; done))))); conv => whnf)
      rfl
    have hC := of_decide_eq_false hC
    rw [if_neg hC]
    simp only [rBad] at hC
    conv => whnf
    repeat ((refine ⟨_, rfl, ?_⟩); conv => whnf)
    have hp2 := putL_short 2 (n := (b.length : Int)) (by omega)
    have hp3 := putL_short 3 (n := (b.length : Int)) (by omega)
    refine ifB_dec (fun k1 => ?_) (fun k1 => ?_)
    · rw [if_pos k1]
      conv => whnf
      repeat ((first | (refine fit_i64 ⟨by first | omega | rfl | (dsimp only; omega), by first | omega | rfl | (dsimp only; omega)⟩ ?_) | refine ⟨rfl, ?_⟩ | refine ⟨_, rfl, ?_⟩); conv => whnf)
      refine ⟨_, _, refHead_ok 0 n (by omega) (by omega) (by omega), by first | rfl | simp [noRoIf, noRoL, noRoV, noRoL_bys], ?_⟩
      conv => whnf
      repeat ((first | refine ⟨rfl, ?_⟩ | refine ⟨_, rfl, ?_⟩ | refine ⟨⟨rfl, rfl⟩, ?_⟩ | (refine ⟨⟨rfl, rfl, rfl, ?_, pureL_bys _⟩, ?_⟩; (focus (simp; done))) | (refine ⟨⟨rfl, rfl, ?_⟩, ?_⟩; (focus (first | exact Nat.le_of_ble_eq_true rfl | (simp; done))))); conv => whnf)
      rfl
    rw [if_neg k1]
    conv => whnf
    refine ifB_dec (fun k2 => ?_) (fun k2 => ?_)
    · rw [if_pos k2]
      conv => whnf
      repeat ((first | (refine fit_i64 ⟨by first | omega | rfl | (dsimp only; omega), by first | omega | rfl | (dsimp only; omega)⟩ ?_) | refine ⟨rfl, ?_⟩ | refine ⟨_, rfl, ?_⟩); conv => whnf)
      refine ⟨_, _, refHead_ok 1 n (by omega) (by omega) (by omega), by first | rfl | simp [noRoIf, noRoL, noRoV, noRoL_bys], ?_⟩
      conv => whnf
      repeat ((first | refine ⟨rfl, ?_⟩ | refine ⟨_, rfl, ?_⟩ | refine ⟨⟨rfl, rfl⟩, ?_⟩ | (refine ⟨⟨rfl, rfl, rfl, ?_, pureL_bys _⟩, ?_⟩; (focus (simp; done))) | (refine ⟨⟨rfl, rfl, ?_⟩, ?_⟩; (focus (first | exact Nat.le_of_ble_eq_true rfl | (simp; done))))); conv => whnf)
      rfl
    rw [if_neg k2]
    conv => whnf
    refine ifB_dec (fun k3 => ?_) (fun k3 => ?_)
    · rw [if_pos k3]
      conv => whnf
      refine ⟨by kernel_rfl, ?_⟩
      conv => whnf
      repeat' (first | (refine fit_i64 ⟨by first | omega | rfl | (dsimp only; omega), by first | omega | rfl | (dsimp only; omega)⟩ ?_; (conv => whnf)) | (refine ⟨ones_bys _, ?_⟩; (conv => whnf)) | (refine ⟨rfl, ?_⟩; (conv => whnf)) | (refine ⟨⟨rfl, rfl⟩, ?_⟩; (conv => whnf)) | (refine ⟨⟨rfl, rfl, ?_⟩, ?_⟩; (focus (first | exact Nat.le_of_ble_eq_true rfl | (simp; done))); (conv => whnf)) | (refine ⟨⟨rfl, rfl, ?_, ?_⟩, ?_⟩; (focus (first | (simp; done) | (simp; omega))); (focus (first | (simp [limB]; done) | (simp [limB]; omega))); (conv => whnf)) | (refine And.intro ?_ ?_; (focus (first | (simp [limB]; done) | (simp [limB]; omega))); (conv => whnf)) | (refine ⟨_, _, refHead_ok 2 b.length (by omega) (by omega) (by omega), by first | rfl | simp [noRoIf, noRoL, noRoV, noRoL_bys], ?_⟩; conv => whnf) | (refine ⟨⟨by simp, rfl, by rw [bys_append], by simp, pureL_bys _⟩, ?_⟩; conv => whnf) | (rfl) | (refine ⟨_, rfl, ?_⟩; conv => whnf) | (refine And.intro ?_ ?_ <;> conv => whnf))
    rw [if_neg k3]
    conv => whnf
    refine ifB_dec (fun k4 => ?_) (fun k4 => ?_)
    · rw [if_pos k4]
      have hu := refUtf8_ok b hto.2.2 htb
      cases hv : validR b
      · rw [hv] at hu
        rw [if_neg (by simp)]
        conv => whnf
        repeat ((first | refine ⟨pureL_bys _, ?_⟩ | refine ⟨rfl, ?_⟩ | refine ⟨_, rfl, ?_⟩); conv => whnf)
        refine ⟨_, _, hu, by first | rfl | simp [noRoIf, noRoL, noRoV, noRoL_bys], ?_⟩
        conv => whnf
        repeat ((first | refine ifB_t ?_ | refine ⟨rfl, ?_⟩ | refine ⟨_, rfl, ?_⟩ | refine ⟨⟨rfl, rfl⟩, ?_⟩ | (refine ⟨⟨rfl, rfl, ?_⟩, ?_⟩; (focus (first | exact Nat.le_of_ble_eq_true rfl | (simp; done))))); conv => whnf)
        rfl
      rw [hv] at hu
      rw [if_pos rfl]
      conv => whnf
      repeat ((first | refine ⟨pureL_bys _, ?_⟩ | refine ⟨rfl, ?_⟩ | refine ⟨_, rfl, ?_⟩); conv => whnf)
      refine ⟨_, _, hu, by first | rfl | simp [noRoIf, noRoL, noRoV, noRoL_bys], ?_⟩
      conv => whnf
      repeat ((refine ifB_f ?_); conv => whnf)
      refine ⟨by kernel_rfl, ?_⟩
      conv => whnf
      repeat' (first | (refine fit_i64 ⟨by first | omega | rfl | (dsimp only; omega), by first | omega | rfl | (dsimp only; omega)⟩ ?_; (conv => whnf)) | (refine ⟨ones_bys _, ?_⟩; (conv => whnf)) | (refine ⟨rfl, ?_⟩; (conv => whnf)) | (refine ⟨⟨rfl, rfl⟩, ?_⟩; (conv => whnf)) | (refine ⟨⟨rfl, rfl, ?_⟩, ?_⟩; (focus (first | exact Nat.le_of_ble_eq_true rfl | (simp; done))); (conv => whnf)) | (refine ⟨⟨rfl, rfl, ?_, ?_⟩, ?_⟩; (focus (first | (simp; done) | (simp; omega))); (focus (first | (simp [limB]; done) | (simp [limB]; omega))); (conv => whnf)) | (refine And.intro ?_ ?_; (focus (first | (simp [limB]; done) | (simp [limB]; omega))); (conv => whnf)) | (refine ⟨_, _, refHead_ok 3 b.length (by omega) (by omega) (by omega), by first | rfl | simp [noRoIf, noRoL, noRoV, noRoL_bys], ?_⟩; conv => whnf) | (refine ⟨⟨by simp, rfl, by rw [bys_append], by simp, pureL_bys _⟩, ?_⟩; conv => whnf) | (rfl) | (refine ⟨_, rfl, ?_⟩; conv => whnf) | (refine And.intro ?_ ?_ <;> conv => whnf))
    rw [if_neg k4]
    clear hp2 hp3
    have k5 : k ≠ 5 := by omega
    have k6 : k ≠ 6 := by omega
    rw [if_neg (show ¬ (k = 5 ∨ k = 6) by omega)]
    conv => whnf
    repeat ((first | (refine ifB_neg (decide_eq_false (by first | omega | rfl | (dsimp only; omega))) ?_) | refine ⟨rfl, ?_⟩ | refine ⟨_, rfl, ?_⟩ | refine ⟨⟨rfl, rfl⟩, ?_⟩ | (refine ⟨⟨rfl, rfl, ?_⟩, ?_⟩; (focus (first | exact Nat.le_of_ble_eq_true rfl | (simp; done))))); conv => whnf)
    rfl
end Go.Proofs.YtobjehjfdmelhabDoor.Abs
end
section
set_option linter.unusedVariables false
set_option linter.unusedSimpArgs false
namespace Go.Proofs.YtobjehjfdmelhabDoor.Abs
open Go
attribute [local irreducible] ifB fitP Does Weaker
def PLrm : Nat → Bool × Plan := plans [(38, (false, (takesTo [0, 2, 4] (.all [(1, (.all [(3, (takesTo [7] (.all [(5, (.all [(6, (.all [(8, (takesTo [9] (.all [(10, .done)])))]))]))]))), (5, (.all [(3, (takesTo [7] (.all [(6, (.all [(8, (takesTo [9] (.all [(10, .done)])))]))])))]))])), (3, (.all [(1, (takesTo [7] (.all [(5, (.all [(6, (.all [(8, (takesTo [9] (.all [(10, .done)])))]))]))]))), (5, (.all [(1, (takesTo [7] (.all [(6, (.all [(8, (takesTo [9] (.all [(10, .done)])))]))]))), (6, (.all [(1, (takesTo [7] (.all [(8, (takesTo [9] (.all [(10, .done)])))])))]))]))])), (5, (.all [(1, (.all [(3, (takesTo [7] (.all [(6, (.all [(8, (takesTo [9] (.all [(10, .done)])))]))])))])), (3, (.all [(1, (takesTo [7] (.all [(6, (.all [(8, (takesTo [9] (.all [(10, .done)])))]))]))), (6, (.all [(1, (takesTo [7] (.all [(8, (takesTo [9] (.all [(10, .done)])))])))]))]))]))]))))]
theorem Does.weakerTo' {P : Program} {k : Nat} {c : Code} {Q : AX → St → Prop} {st : St} {env : List (Nat × AV)} {heap : List (Nat × List AV)} {nx n : Nat} (g : List (Nat × Nat)) (hn : st.n = n) (hg : renOk k g heap nx = true)
    (he : envLe (oldOf k g) st.env env) (hh : heapLe (oldOf k g) st.heap heap) (h : Does P k c Q (mkSt env heap nx n)) : Does P k c Q st := Does.weaker (weaker_of g hn hg he hh) h
theorem whole_bys (l : List Int) : (List.drop 0 (bys l)).take (l.length * 1) = bys l := by rw [List.drop_zero, Nat.mul_one]; exact List.take_of_length_le (by simp)
theorem rItem_byt {l : List Tok} (hl : ToksOk l) {f a a' : Nat} {x : List Int} (h : rItem validR l f a = some (a', x)) (hx : x.length ≤ 32768) : Byt x := by
  have := item_fits validR l f a [] a' x h (by simpa using hx)
  have h2 := wItem_byt validR l hl f ⟨a, [], false⟩ (by simp [Byt])
  rw [this] at h2
  simpa using h2
theorem rLoop_len {g : Nat → Option (Nat × List Int)} {mp : Bool} : ∀ (n i at' : Nat) (b last : List Int) (a : Nat) (bs : List Int), rLoop g mp n i at' b last = some (a, bs) → bs.length ≤ max 32768 b.length
  | 0, i, at', b, last, a, bs, h => by
    simp only [rLoop, Option.some.injEq, Prod.mk.injEq] at h
    rw [h.2]; omega
  | n + 1, i, at', b, last, a, bs, h => by
    unfold rLoop at h
    split at h
    · cases h
    rename_i a1 x hg
    split at h
    · cases h
    split at h
    · split at h
      · cases h
      · have := rLoop_len n _ _ _ _ _ _ h
        simp only [List.length_append] at this; omega
    · have := rLoop_len n _ _ _ _ _ _ h
      simp only [List.length_append] at this; omega
theorem rItem_len {u : List Int → Bool} {l : List Tok} (hlb : ∀ t ∈ l, t.b.length ≤ 1099511627776) {f k a : Nat} {x : List Int} (h : rItem u l f k = some (a, x)) : x.length ≤ 1099511627785 := by
  by_cases hk : k < l.length
  · rw [rItem_tok u l f k hk] at h
    have hb := hlb _ (List.getElem_mem hk)
    have fin : ∀ (g : Nat → Option (Nat × List Int)) (mp : Bool) (n i at' : Nat) (M N : Int) (last : List Int), 0 ≤ N → rLoop g mp n i at' (putL M N) last = some (a, x) → x.length ≤ 1099511627785 := by
      intro g mp n i at' M N last hN h
      have h1 := rLoop_len _ _ _ _ _ _ _ h
      have h2 := putL_short M hN
      omega
    unfold rTok at h
    split at h
    · cases h
    rename_i h0
    simp only [rBad] at h0
    split at h
    · simp only [Option.some.injEq, Prod.mk.injEq] at h; obtain ⟨rfl, rfl⟩ := h; have := putL_short 0 (n := l[k].n) (by omega); omega
    split at h
    · simp only [Option.some.injEq, Prod.mk.injEq] at h; obtain ⟨rfl, rfl⟩ := h; have := putL_short 1 (n := l[k].n) (by omega); omega
    split at h
    · simp only [Option.some.injEq, Prod.mk.injEq] at h; obtain ⟨rfl, rfl⟩ := h; have := putL_short 2 (n := (l[k].b.length : Int)) (by omega); simp only [List.length_append]; omega
    split at h
    · split at h
      · simp only [Option.some.injEq, Prod.mk.injEq] at h; obtain ⟨rfl, rfl⟩ := h; have := putL_short 3 (n := (l[k].b.length : Int)) (by omega); simp only [List.length_append]; omega
      · cases h
    split at h
    · split at h
      · cases h
      split at h
      · cases h
      split at h
      · exact fin _ _ _ _ _ _ _ _ (by omega) h
      · exact fin _ _ _ _ _ _ _ _ (by omega) h
    · cases h
  · rw [rItem_none _ _ _ _ (by omega)] at h
    cases h
set_option maxHeartbeats 4000000 in
theorem ritem_many (l : List Tok) (hl : ToksOk l) (hlb : ∀ t ∈ l, t.b.length ≤ 1099511627776) (hll : l.length ≤ 1000000) (at' : Nat) (ha : at' < l.length) (f : Nat) (hf : f ≤ 6) (hi : ∀ f', f = f' + 1 → RItemOk l f')
    (hk : l[at'].k = 5 ∨ l[at'].k = 6) (hb : ¬ rBad l[at']) :
    ACall Tryd.prog 21 [.ro l.length (toksC l), .int .i64 at', .int .i64 (6 - (f : Int))] (.agg (wkC (rItem validR l f at'))) [] := by
  have hL := pureL_toks l
  rw [rItem_tok _ _ _ _ ha]
  obtain ⟨t, ht⟩ : ∃ t, t = l[at'] := ⟨_, rfl⟩
  have hto : TokOk t := by rw [ht]; exact hl _ (List.getElem_mem ha)
  have hld : ∀ m s : Nat, m = 3 * at' → s = 3 → takeN s ((toksC l).drop m) = some (tokC t) := by
    intro m s hm hs
    rw [takeN_tok ha hm hs, ht]
  rw [← ht] at hk hb ⊢
  obtain ⟨k, n, b⟩ := t
  clear ht
  obtain ⟨q1, q2, _⟩ := hto
  simp only at hk q2
  have hrt : rTok validR (rSub validR l f) (decide (f = 0)) ⟨k, n, b⟩ (at' + 1) =
      if f = 0 ∨ 64 < n then none else rLoop (rSub validR l f) (decide (k = 6)) (if k = 6 then 2 * n.toNat else n.toNat) 0 (at' + 1) (putL (k - 1) n) [] := by
    unfold rTok
    rw [if_neg hb]
    simp only
    rw [if_neg (show ¬ k = 1 by omega), if_neg (show ¬ k = 2 by omega), if_neg (show ¬ k = 3 by omega), if_neg (show ¬ k = 4 by omega), if_pos hk]
    by_cases h0 : f = 0
    · simp [h0]
    · rcases hk with rfl | rfl <;> simp [h0]
  rw [hrt]
  clear hrt
  simp only [rBad] at hb
  have hb0 : b = [] := List.length_eq_zero_iff.1 (by omega)
  subst hb0
  obtain ⟨N, rfl⟩ : ∃ N : Nat, n = N := ⟨n.toNat, by omega⟩
  replace hld : ∀ m s : Nat, m = 3 * at' → s = 3 → takeN s ((toksC l).drop m) = some [.int .i64 k, .int .i64 N, .ro 0 []] := hld
  rw [Int.toNat_natCast]
  refine ACall.of_does TTok Tryd.func21 rfl Tryd.call21 rfl (wpc_sound (M := MC) (PL := PLrm) (CU := noCut) TTok mixed _ _ _ ?_)
  conv => whnf
  repeat ((first | (refine ifB_neg (decide_eq_false (by first | omega | rfl | (dsimp only; omega))) ?_) | refine ⟨rfl, ?_⟩ | (refine ⟨⟨rfl, rfl, ?_⟩, ?_⟩; (focus (first | exact Nat.le_of_ble_eq_true rfl | (simp; done)))) | (refine ⟨⟨?_, ?_, ?_⟩, ?_⟩; (focus omega); (focus (first | omega | (simp; done) | (simp; omega))); (focus (first | (simp; done) | (simp; omega) | (rw [toksC_length]; simp; omega))))); conv => whnf)
  refine ⟨_, hld _ _ (by simp; omega) rfl, ?_⟩
  conv => whnf
  repeat ((first | refine ifB_t ?_ | refine ifB_f ?_ | (refine ifB_neg (decide_eq_false (by first | omega | rfl | (dsimp only; omega))) ?_) | (refine ifB_pos (decide_eq_true (by first | omega | rfl | (dsimp only; omega))) ?_) | refine ⟨rfl, ?_⟩ | refine ⟨_, rfl, ?_⟩ | (refine ⟨⟨rfl, rfl, ?_⟩, ?_⟩; (focus (first | exact Nat.le_of_ble_eq_true rfl | (simp; done))))); conv => whnf)
  by_cases h0 : f = 0 ∨ 64 < (N : Int)
  · rw [if_pos h0]
    rcases hk with rfl | rfl
    all_goals
      conv => whnf
      repeat' (first | (refine ifB_t ?_; (conv => whnf)) | (refine ifB_f ?_; (conv => whnf)) | (refine ifB_pos (decide_eq_true (by first | omega | rfl | (dsimp only; omega))) ?_; (conv => whnf)) | (refine ⟨rfl, ?_⟩; (conv => whnf)) | (refine ⟨⟨rfl, rfl⟩, ?_⟩; (conv => whnf)) | (refine ⟨⟨rfl, rfl, ?_⟩, ?_⟩; (focus (first | exact Nat.le_of_ble_eq_true rfl | (simp; done))); (conv => whnf)) | (rfl) | (omega) | (refine ⟨_, rfl, ?_⟩; conv => whnf) | (refine ifB_dec (fun _ => ?_) (fun _ => ?_) <;> conv => whnf) | (refine And.intro ?_ ?_ <;> conv => whnf))
  rw [if_neg h0]
  obtain ⟨f, rfl⟩ : ∃ f', f = f' + 1 := ⟨f - 1, by omega⟩
  have hi := hi f rfl
  obtain ⟨mp, hmp⟩ : ∃ mp, mp = decide (k = 6) := ⟨_, rfl⟩
  obtain ⟨items, hit⟩ : ∃ items : Nat, items = if k = 6 then 2 * N else N := ⟨_, rfl⟩
  rw [← hmp, ← hit]
  have hgo := rItem_go validR l f
  have hi' : ∀ a : Nat, a ≤ l.length → ACall Tryd.prog 21 [.ro l.length (toksC l), .int .i64 a, .int .i64 (6 - ((f + 1 : Nat) : Int) + 1)] (.agg (wkC (rItem validR l f a))) [] := by
    intro a h
    have := hi a (by omega)
    rwa [show (6 : Int) - (f : Int) = 6 - ((f + 1 : Nat) : Int) + 1 by omega] at this
  have hp4 := putL_short 4 (n := (N : Int)) (by omega)
  have hp5 := putL_short 5 (n := (N : Int)) (by omega)
  obtain ⟨R, hR⟩ : ∃ R, R = rLoop (rSub validR l (f + 1)) mp items 0 (at' + 1) (putL (k - 1) N) [] := ⟨_, rfl⟩
  rw [← hR]
  rcases hk with rfl | rfl
  · have hmp : mp = false := hmp
    subst hmp
    have hit : items = N := hit
    conv => whnf
    repeat ((first | refine ifB_t ?_ | refine ifB_f ?_ | (refine ifB_neg (decide_eq_false (by first | omega | rfl | (dsimp only; omega))) ?_) | (refine fit_i64 ⟨by first | omega | rfl | (dsimp only; omega), by first | omega | rfl | (dsimp only; omega)⟩ ?_) | refine ⟨rfl, ?_⟩ | refine ⟨_, rfl, ?_⟩); conv => whnf)
    refine ⟨_, _, refHead_ok 4 N (by omega) (by omega) (by omega), by first | rfl | simp [noRoIf, noRoL, noRoV, noRoL_bys], ?_⟩
    conv => whnf
    repeat ((first | refine ifB_f ?_ | refine ⟨rfl, ?_⟩ | refine ⟨_, rfl, ?_⟩ | (refine ⟨⟨rfl, rfl, ?_⟩, ?_⟩; (focus (first | exact Nat.le_of_ble_eq_true rfl | (simp; done))))); conv => whnf)
    refine Does.loop (fun p : Nat × Nat × List Int × List Int => mkSt [(0, .ro l.length (toksC l)), (2, .int .i64 (6 - ((f + 1 : Nat) : Int))), (6, .ptr 0 0), (7, .ptr 1 0), (8, .ptr 2 0), (9, .int .i64 items), (10, .ptr 3 0), (11, .ro p.2.2.2.length (bys p.2.2.2)), (12, .int .i64 (p.1 : Int))]
      [(0, [.int .i64 0, .nil, .bool false]), (1, [.int .i64 0, .nil, .bool true]), (2, [.int .i64 5, .int .i64 N, .ro 0 []]), (3, [.int .i64 (p.2.1 : Int), .sl 4 0 p.2.2.1.length 1 false, .bool false]), (4, bys p.2.2.1)] 5 191)
      (fun p => p.1 ≤ items ∧ p.2.1 ≤ l.length ∧ p.2.2.1.length ≤ 32768 ∧ Byt p.2.2.2 ∧ rLoop (rItem validR l f) false (items - p.1) p.1 p.2.1 p.2.2.1 p.2.2.2 = R) (fun p => items - p.1) ?_ (0, at' + 1, putL 4 N, []) ⟨Nat.zero_le _, by simp only; omega, by simp only; omega, by simp [Byt], hR.symm⟩ ?_
    · rintro ⟨i, a, bs, last⟩ ⟨p1, p2, p3, pb, p4⟩
      simp only at p1 p2 p3 pb p4
      refine wpc_sound (M := MC) (PL := PLrm) (CU := cutAt [100032]) TTok mixed _ _ _ ?_
      conv => whnf
      refine ifB_dec (fun j1 => ?_) (fun j1 => ?_)
      · have c1 : i < items := by simp only at j1; omega
        obtain ⟨m, hm⟩ : ∃ m, items - i = m + 1 := ⟨items - i - 1, by omega⟩
        rw [hm] at p4
        unfold rLoop at p4
        have hx := hi' a p2
        cases hr : rItem validR l f a with
        | none =>
          rw [hr] at p4 hx
          simp only at p4
          rw [← p4]
          conv => whnf
          repeat ((first | (refine fit_i64 ⟨by first | omega | rfl | (dsimp only; omega), by first | omega | rfl | (dsimp only; omega)⟩ ?_) | refine ⟨rfl, ?_⟩ | refine ⟨_, rfl, ?_⟩ | (refine And.intro (by first | omega | rfl | (dsimp only; omega)) ?_)); conv => whnf)
          refine ⟨_, _, hx, by first | rfl | simp [noRoIf, noRoL, noRoV, noRoL_bys], ?_⟩
          conv => whnf
          repeat ((first | refine ⟨rfl, ?_⟩ | (refine ⟨⟨rfl, rfl, ?_⟩, ?_⟩; (focus (first | exact Nat.le_of_ble_eq_true rfl | (simp; done))))); conv => whnf)
          refine wpc_sound (M := MC) (PL := PLrm) (CU := noCut) TTok mixed _ _ _ ?_
          conv => whnf
          repeat ((first | refine ifB_t ?_ | refine ⟨rfl, ?_⟩ | refine ⟨_, rfl, ?_⟩ | refine ⟨⟨rfl, rfl⟩, ?_⟩ | (refine ⟨⟨rfl, rfl, ?_⟩, ?_⟩; (focus (first | exact Nat.le_of_ble_eq_true rfl | (simp; done))))); conv => whnf)
          rfl
        | some r =>
          obtain ⟨a', x⟩ := r
          obtain ⟨g1, g2, g3⟩ := hgo _ _ _ hr
          have xl := rItem_len hlb hr
          rw [hr] at p4 hx
          simp only at p4
          simp only [wkC] at hx
          conv => whnf
          repeat ((first | (refine fit_i64 ⟨by first | omega | rfl | (dsimp only; omega), by first | omega | rfl | (dsimp only; omega)⟩ ?_) | refine ⟨rfl, ?_⟩ | refine ⟨_, rfl, ?_⟩ | (refine And.intro (by first | omega | rfl | (dsimp only; omega)) ?_)); conv => whnf)
          refine ⟨_, _, hx, by first | rfl | simp [noRoIf, noRoL, noRoV, noRoL_bys], ?_⟩
          conv => whnf
          repeat ((first | refine ⟨rfl, ?_⟩ | (refine ⟨⟨rfl, rfl, ?_⟩, ?_⟩; (focus (first | exact Nat.le_of_ble_eq_true rfl | (simp; done))))); conv => whnf)
          refine Does.freeze 5 rfl (Does.weakerTo' (env := [(0, .ro l.length (toksC l)), (2, .int .i64 (6 - ((f + 1 : Nat) : Int))), (6, .ptr 0 0), (7, .ptr 1 0), (8, .ptr 2 0), (9, .int .i64 items), (10, .ptr 3 0), (11, .ro last.length (bys last)), (12, .int .i64 (i : Int)), (13, .ptr 5 0)])
            (heap := [(0, [.int .i64 0, .nil, .bool false]), (1, [.int .i64 0, .nil, .bool true]), (2, [.int .i64 5, .int .i64 N, .ro 0 []]), (3, [.int .i64 (a : Int), .sl 4 0 bs.length 1 false, .bool false]), (4, bys bs), (5, [.int .i64 a', .ro x.length (bys x), .bool false])]) (nx := 6) (n := 191) [(0, 0), (1, 1), (2, 2), (3, 3), (4, 4), (5, 6)] rfl rfl ?_ ?_ ?_)
          · exact ⟨⟨rfl, rfl, hL⟩, ⟨rfl, rfl⟩, ⟨rfl, rfl⟩, ⟨rfl, rfl⟩, ⟨rfl, rfl⟩, ⟨rfl, rfl⟩, ⟨rfl, rfl⟩, ⟨rfl, rfl, pureL_bys _⟩, ⟨rfl, rfl⟩, ⟨rfl, rfl⟩, trivial⟩
          · exact ⟨⟨⟨rfl, rfl⟩, trivial, rfl, trivial⟩, ⟨⟨rfl, rfl⟩, trivial, rfl, trivial⟩, ⟨⟨rfl, rfl⟩, ⟨rfl, rfl⟩, ⟨rfl, rfl, rfl⟩, trivial⟩, ⟨⟨rfl, rfl⟩, ⟨rfl, rfl, rfl, rfl, id⟩, rfl, trivial⟩, lesP_bys (frzL_bys _), ⟨⟨rfl, rfl⟩, ⟨rfl, whole_bys _, pureL_bys _⟩, rfl, trivial⟩, trivial⟩
          refine wpc_sound (M := MC) (PL := PLrm) (CU := noCut) TTok mixed _ _ _ ?_
          conv => whnf
          repeat ((first | refine ifB_f ?_ | (refine fit_i64 ⟨by first | omega | rfl | (dsimp only; omega), by first | omega | rfl | (dsimp only; omega)⟩ ?_) | refine ⟨_, rfl, ?_⟩); conv => whnf)
          refine ifB_dec (fun j2 => ?_) (fun j2 => ?_)
          · rw [if_pos (by omega)] at p4
            rw [← p4]
            conv => whnf
            repeat ((first | refine ⟨rfl, ?_⟩ | refine ⟨_, rfl, ?_⟩ | refine ⟨⟨rfl, rfl⟩, ?_⟩ | (refine ⟨⟨rfl, rfl, ?_⟩, ?_⟩; (focus (first | exact Nat.le_of_ble_eq_true rfl | (simp; done))))); conv => whnf)
            rfl
          rw [if_neg (by omega)] at p4
          have xb := rItem_byt hl hr (by omega)
          rw [if_neg (by simp)] at p4
          have p5 := p4
          conv => whnf
          repeat ((first | refine ifB_f ?_ | refine ⟨_, rfl, ?_⟩); conv => whnf)
          refine ⟨by kernel_rfl, ?_⟩
          conv => whnf
          repeat' (first | (refine fit_i64 ⟨by first | omega | rfl | (dsimp only; omega), by first | omega | rfl | (dsimp only; omega)⟩ ?_; (conv => whnf)) | (refine ⟨ones_bys _, ?_⟩; (conv => whnf)) | (refine ⟨⟨rfl, rfl, ?_⟩, ?_⟩; (focus (first | exact Nat.le_of_ble_eq_true rfl | (simp; done))); (conv => whnf)) | (refine ⟨⟨rfl, rfl, ?_, ?_⟩, ?_⟩; (focus (first | (simp; done) | (simp; omega))); (focus (first | (simp [limB]; done) | (simp [limB]; omega))); (conv => whnf)) | (refine And.intro ?_ ?_; (focus (first | (simp [limB]; done) | (simp [limB]; omega))); (conv => whnf)) | (exact ⟨(i + 1, a', bs ++ x, last), ⟨by omega, g2, by simp; omega, pb, by rw [show items - (i + 1) = m by omega]; exact p5⟩, by simp only; omega, weaker_of [(0, 0), (1, 1), (2, 2), (3, 3), (4, 6)] rfl rfl ⟨⟨rfl, rfl, hL⟩, ⟨rfl, rfl⟩, ⟨rfl, rfl⟩, ⟨rfl, rfl⟩, ⟨rfl, rfl⟩, ⟨rfl, rfl⟩, ⟨rfl, rfl⟩, ⟨rfl, rfl, pureL_bys _⟩, ⟨rfl, rfl⟩, trivial⟩ ⟨⟨⟨rfl, rfl⟩, trivial, rfl, trivial⟩, ⟨⟨rfl, rfl⟩, trivial, rfl, trivial⟩, ⟨⟨rfl, rfl⟩, ⟨rfl, rfl⟩, ⟨rfl, rfl, rfl⟩, trivial⟩, ⟨⟨rfl, rfl⟩, ⟨rfl, by simp, by simp, rfl, id⟩, rfl, trivial⟩, lesP_bys (by rw [bys_append]), trivial⟩⟩) | (refine ⟨_, rfl, ?_⟩; conv => whnf) | (refine And.intro ?_ ?_ <;> conv => whnf))
      · have : items - i = 0 := by simp only at j1; omega
        rw [this] at p4
        simp only [rLoop] at p4
        rw [← p4]
        conv => whnf
        repeat ((first | refine ⟨rfl, ?_⟩ | refine ⟨_, rfl, ?_⟩ | refine ⟨⟨rfl, rfl⟩, ?_⟩ | (refine ⟨⟨rfl, rfl, rfl, ?_, pureL_bys _⟩, ?_⟩; (focus (simp; done))) | (refine ⟨⟨rfl, rfl, ?_⟩, ?_⟩; (focus (first | exact Nat.le_of_ble_eq_true rfl | (simp; done))))); conv => whnf)
        rfl
    · refine weaker_of [(0, 0), (1, 1), (2, 2), (3, 4), (4, 3)] rfl rfl ⟨⟨rfl, rfl, hL⟩, ⟨rfl, rfl⟩, ⟨rfl, rfl⟩, ⟨rfl, rfl⟩, ⟨rfl, rfl⟩, ⟨rfl, by omega⟩, ⟨rfl, rfl⟩, ⟨rfl, rfl⟩, ⟨rfl, rfl⟩, trivial⟩ ⟨⟨⟨rfl, rfl⟩, trivial, rfl, trivial⟩, ⟨⟨rfl, rfl⟩, trivial, rfl, trivial⟩, ⟨⟨rfl, rfl⟩, ⟨rfl, rfl⟩, ⟨rfl, rfl, rfl⟩, trivial⟩, ⟨⟨rfl, rfl⟩, ⟨rfl, rfl, rfl, rfl, id⟩, rfl, trivial⟩, lesP_bys rfl, trivial⟩
  · have hmp : mp = true := hmp
    subst hmp
    have hit : items = 2 * N := hit
    conv => whnf
    repeat ((first | refine ifB_t ?_ | refine ifB_f ?_ | (refine ifB_neg (decide_eq_false (by first | omega | rfl | (dsimp only; omega))) ?_) | (refine fit_i64 ⟨by first | omega | rfl | (dsimp only; omega), by first | omega | rfl | (dsimp only; omega)⟩ ?_) | refine ⟨rfl, ?_⟩ | refine ⟨_, rfl, ?_⟩); conv => whnf)
    refine ⟨_, _, refHead_ok 4 N (by omega) (by omega) (by omega), by first | rfl | simp [noRoIf, noRoL, noRoV, noRoL_bys], ?_⟩
    conv => whnf
    repeat ((first | refine ifB_t ?_ | (refine fit_i64 ⟨by first | omega | rfl | (dsimp only; omega), by first | omega | rfl | (dsimp only; omega)⟩ ?_) | refine ⟨rfl, ?_⟩ | refine ⟨_, rfl, ?_⟩ | (refine ⟨⟨rfl, rfl, ?_⟩, ?_⟩; (focus (first | exact Nat.le_of_ble_eq_true rfl | (simp; done))))); conv => whnf)
    refine ⟨_, _, refHead_ok 5 N (by omega) (by omega) (by omega), by first | rfl | simp [noRoIf, noRoL, noRoV, noRoL_bys], ?_⟩
    conv => whnf
    repeat ((refine ⟨⟨rfl, rfl, ?_⟩, ?_⟩; (focus (first | exact Nat.le_of_ble_eq_true rfl | (simp; done)))); conv => whnf)
    refine Does.loop (fun p : Nat × Nat × List Int × List Int => mkSt [(0, .ro l.length (toksC l)), (2, .int .i64 (6 - ((f + 1 : Nat) : Int))), (6, .ptr 0 0), (7, .ptr 1 0), (8, .ptr 2 0), (9, .int .i64 items), (10, .ptr 3 0), (11, .ro p.2.2.2.length (bys p.2.2.2)), (12, .int .i64 (p.1 : Int))]
      [(0, [.int .i64 0, .nil, .bool false]), (1, [.int .i64 0, .nil, .bool true]), (2, [.int .i64 6, .int .i64 N, .ro 0 []]), (3, [.int .i64 (p.2.1 : Int), .sl 4 0 p.2.2.1.length 1 false, .bool false]), (4, bys p.2.2.1)] 5 191)
      (fun p => p.1 ≤ items ∧ p.2.1 ≤ l.length ∧ p.2.2.1.length ≤ 32768 ∧ Byt p.2.2.2 ∧ rLoop (rItem validR l f) true (items - p.1) p.1 p.2.1 p.2.2.1 p.2.2.2 = R) (fun p => items - p.1) ?_ (0, at' + 1, putL 5 N, []) ⟨Nat.zero_le _, by simp only; omega, by simp only; omega, by simp [Byt], hR.symm⟩ ?_
    · rintro ⟨i, a, bs, last⟩ ⟨p1, p2, p3, pb, p4⟩
      simp only at p1 p2 p3 pb p4
      refine wpc_sound (M := MC) (PL := PLrm) (CU := cutAt [100032]) TTok mixed _ _ _ ?_
      conv => whnf
      refine ifB_dec (fun j1 => ?_) (fun j1 => ?_)
      · have c1 : i < items := by simp only at j1; omega
        obtain ⟨m, hm⟩ : ∃ m, items - i = m + 1 := ⟨items - i - 1, by omega⟩
        rw [hm] at p4
        unfold rLoop at p4
        have hx := hi' a p2
        cases hr : rItem validR l f a with
        | none =>
          rw [hr] at p4 hx
          simp only at p4
          rw [← p4]
          conv => whnf
          repeat ((first | (refine fit_i64 ⟨by first | omega | rfl | (dsimp only; omega), by first | omega | rfl | (dsimp only; omega)⟩ ?_) | refine ⟨rfl, ?_⟩ | refine ⟨_, rfl, ?_⟩ | (refine And.intro (by first | omega | rfl | (dsimp only; omega)) ?_)); conv => whnf)
          refine ⟨_, _, hx, by first | rfl | simp [noRoIf, noRoL, noRoV, noRoL_bys], ?_⟩
          conv => whnf
          repeat ((first | refine ⟨rfl, ?_⟩ | (refine ⟨⟨rfl, rfl, ?_⟩, ?_⟩; (focus (first | exact Nat.le_of_ble_eq_true rfl | (simp; done))))); conv => whnf)
          refine wpc_sound (M := MC) (PL := PLrm) (CU := noCut) TTok mixed _ _ _ ?_
          conv => whnf
          repeat ((first | refine ifB_t ?_ | refine ⟨rfl, ?_⟩ | refine ⟨_, rfl, ?_⟩ | refine ⟨⟨rfl, rfl⟩, ?_⟩ | (refine ⟨⟨rfl, rfl, ?_⟩, ?_⟩; (focus (first | exact Nat.le_of_ble_eq_true rfl | (simp; done))))); conv => whnf)
          rfl
        | some r =>
          obtain ⟨a', x⟩ := r
          obtain ⟨g1, g2, g3⟩ := hgo _ _ _ hr
          have xl := rItem_len hlb hr
          rw [hr] at p4 hx
          simp only at p4
          simp only [wkC] at hx
          conv => whnf
          repeat ((first | (refine fit_i64 ⟨by first | omega | rfl | (dsimp only; omega), by first | omega | rfl | (dsimp only; omega)⟩ ?_) | refine ⟨rfl, ?_⟩ | refine ⟨_, rfl, ?_⟩ | (refine And.intro (by first | omega | rfl | (dsimp only; omega)) ?_)); conv => whnf)
          refine ⟨_, _, hx, by first | rfl | simp [noRoIf, noRoL, noRoV, noRoL_bys], ?_⟩
          conv => whnf
          repeat ((first | refine ⟨rfl, ?_⟩ | (refine ⟨⟨rfl, rfl, ?_⟩, ?_⟩; (focus (first | exact Nat.le_of_ble_eq_true rfl | (simp; done))))); conv => whnf)
          refine Does.freeze 5 rfl (Does.weakerTo' (env := [(0, .ro l.length (toksC l)), (2, .int .i64 (6 - ((f + 1 : Nat) : Int))), (6, .ptr 0 0), (7, .ptr 1 0), (8, .ptr 2 0), (9, .int .i64 items), (10, .ptr 3 0), (11, .ro last.length (bys last)), (12, .int .i64 (i : Int)), (13, .ptr 5 0)])
            (heap := [(0, [.int .i64 0, .nil, .bool false]), (1, [.int .i64 0, .nil, .bool true]), (2, [.int .i64 6, .int .i64 N, .ro 0 []]), (3, [.int .i64 (a : Int), .sl 4 0 bs.length 1 false, .bool false]), (4, bys bs), (5, [.int .i64 a', .ro x.length (bys x), .bool false])]) (nx := 6) (n := 191) [(0, 0), (1, 1), (2, 2), (3, 3), (4, 4), (5, 6)] rfl rfl ?_ ?_ ?_)
          · exact ⟨⟨rfl, rfl, hL⟩, ⟨rfl, rfl⟩, ⟨rfl, rfl⟩, ⟨rfl, rfl⟩, ⟨rfl, rfl⟩, ⟨rfl, rfl⟩, ⟨rfl, rfl⟩, ⟨rfl, rfl, pureL_bys _⟩, ⟨rfl, rfl⟩, ⟨rfl, rfl⟩, trivial⟩
          · exact ⟨⟨⟨rfl, rfl⟩, trivial, rfl, trivial⟩, ⟨⟨rfl, rfl⟩, trivial, rfl, trivial⟩, ⟨⟨rfl, rfl⟩, ⟨rfl, rfl⟩, ⟨rfl, rfl, rfl⟩, trivial⟩, ⟨⟨rfl, rfl⟩, ⟨rfl, rfl, rfl, rfl, id⟩, rfl, trivial⟩, lesP_bys (frzL_bys _), ⟨⟨rfl, rfl⟩, ⟨rfl, whole_bys _, pureL_bys _⟩, rfl, trivial⟩, trivial⟩
          refine wpc_sound (M := MC) (PL := PLrm) (CU := noCut) TTok mixed _ _ _ ?_
          conv => whnf
          repeat ((first | refine ifB_f ?_ | (refine fit_i64 ⟨by first | omega | rfl | (dsimp only; omega), by first | omega | rfl | (dsimp only; omega)⟩ ?_) | refine ⟨_, rfl, ?_⟩); conv => whnf)
          refine ifB_dec (fun j2 => ?_) (fun j2 => ?_)
          · rw [if_pos (by omega)] at p4
            rw [← p4]
            conv => whnf
            repeat ((first | refine ⟨rfl, ?_⟩ | refine ⟨_, rfl, ?_⟩ | refine ⟨⟨rfl, rfl⟩, ?_⟩ | (refine ⟨⟨rfl, rfl, ?_⟩, ?_⟩; (focus (first | exact Nat.le_of_ble_eq_true rfl | (simp; done))))); conv => whnf)
            rfl
          rw [if_neg (by omega)] at p4
          have xb := rItem_byt hl hr (by omega)
          have tm : (i : Int).tmod 2 = (i : Int) % 2 := Int.tmod_eq_emod_of_nonneg (by omega)
          conv => whnf
          repeat ((first | refine ifB_t ?_ | refine ⟨_, rfl, ?_⟩ | (refine And.intro (by first | omega | rfl | (dsimp only; omega)) ?_)); conv => whnf)
          rw [tm]
          refine ifB_dec (fun j3 => ?_) (fun j3 => ?_)
          · rw [if_pos ⟨trivial, by omega⟩] at p4
            conv => whnf
            refine ifB_dec (fun j4 => ?_) (fun j4 => ?_)
            · conv => whnf
              repeat ((first | refine ifB_t ?_ | refine ⟨_, rfl, ?_⟩ | (refine And.intro ?_ ?_; (focus (first | (simp [limB]; done) | (simp [limB]; omega))))); conv => whnf)
              refine ⟨x, ⟨rfl, xb⟩, ?_⟩
              conv => whnf
              repeat ((first | refine ifB_t ?_ | (refine And.intro ?_ ?_; (focus (first | (simp [limB]; done) | (simp [limB]; omega))))); conv => whnf)
              refine ⟨last, ⟨rfl, pb⟩, ?_⟩
              conv => whnf
              repeat ((refine ifB_t ?_); conv => whnf)
              refine ifB_bool (fun hc => ?_) (fun hc => ?_)
              · rw [if_pos ⟨by omega, hc⟩] at p4
                rw [← p4]
                conv => whnf
                repeat ((first | refine ⟨rfl, ?_⟩ | refine ⟨_, rfl, ?_⟩ | refine ⟨⟨rfl, rfl⟩, ?_⟩ | (refine ⟨⟨rfl, rfl, ?_⟩, ?_⟩; (focus (first | exact Nat.le_of_ble_eq_true rfl | (simp; done))))); conv => whnf)
                rfl
              · rw [if_neg (fun h => by rw [hc] at h; simp at h)] at p4
                have p5 := p4
                conv => whnf
                repeat ((refine ⟨_, rfl, ?_⟩); conv => whnf)
                refine ⟨by kernel_rfl, ?_⟩
                conv => whnf
                repeat' (first | (refine fit_i64 ⟨by first | omega | rfl | (dsimp only; omega), by first | omega | rfl | (dsimp only; omega)⟩ ?_; (conv => whnf)) | (refine ⟨ones_bys _, ?_⟩; (conv => whnf)) | (refine ⟨⟨rfl, rfl, ?_⟩, ?_⟩; (focus (first | exact Nat.le_of_ble_eq_true rfl | (simp; done))); (conv => whnf)) | (refine ⟨⟨rfl, rfl, ?_, ?_⟩, ?_⟩; (focus (first | (simp; done) | (simp; omega))); (focus (first | (simp [limB]; done) | (simp [limB]; omega))); (conv => whnf)) | (refine And.intro ?_ ?_; (focus (first | (simp [limB]; done) | (simp [limB]; omega))); (conv => whnf)) | (exact ⟨(i + 1, a', bs ++ x, x), ⟨by omega, g2, by simp; omega, xb, by rw [show items - (i + 1) = m by omega]; exact p5⟩, by simp only; omega, weaker_of [(0, 0), (1, 1), (2, 2), (3, 3), (4, 6)] rfl rfl ⟨⟨rfl, rfl, hL⟩, ⟨rfl, rfl⟩, ⟨rfl, rfl⟩, ⟨rfl, rfl⟩, ⟨rfl, rfl⟩, ⟨rfl, rfl⟩, ⟨rfl, rfl⟩, ⟨rfl, rfl, pureL_bys _⟩, ⟨rfl, rfl⟩, trivial⟩ ⟨⟨⟨rfl, rfl⟩, trivial, rfl, trivial⟩, ⟨⟨rfl, rfl⟩, trivial, rfl, trivial⟩, ⟨⟨rfl, rfl⟩, ⟨rfl, rfl⟩, ⟨rfl, rfl, rfl⟩, trivial⟩, ⟨⟨rfl, rfl⟩, ⟨rfl, by simp, by simp, rfl, id⟩, rfl, trivial⟩, lesP_bys (by rw [bys_append]), trivial⟩⟩) | (refine ⟨_, rfl, ?_⟩; conv => whnf) | (refine And.intro ?_ ?_ <;> conv => whnf))
            · rw [if_neg (by omega)] at p4
              have p5 := p4
              conv => whnf
              repeat ((first | refine ifB_f ?_ | refine ⟨_, rfl, ?_⟩); conv => whnf)
              refine ⟨by kernel_rfl, ?_⟩
              conv => whnf
              repeat' (first | (refine fit_i64 ⟨by first | omega | rfl | (dsimp only; omega), by first | omega | rfl | (dsimp only; omega)⟩ ?_; (conv => whnf)) | (refine ⟨ones_bys _, ?_⟩; (conv => whnf)) | (refine ⟨⟨rfl, rfl, ?_⟩, ?_⟩; (focus (first | exact Nat.le_of_ble_eq_true rfl | (simp; done))); (conv => whnf)) | (refine ⟨⟨rfl, rfl, ?_, ?_⟩, ?_⟩; (focus (first | (simp; done) | (simp; omega))); (focus (first | (simp [limB]; done) | (simp [limB]; omega))); (conv => whnf)) | (refine And.intro ?_ ?_; (focus (first | (simp [limB]; done) | (simp [limB]; omega))); (conv => whnf)) | (exact ⟨(i + 1, a', bs ++ x, x), ⟨by omega, g2, by simp; omega, xb, by rw [show items - (i + 1) = m by omega]; exact p5⟩, by simp only; omega, weaker_of [(0, 0), (1, 1), (2, 2), (3, 3), (4, 6)] rfl rfl ⟨⟨rfl, rfl, hL⟩, ⟨rfl, rfl⟩, ⟨rfl, rfl⟩, ⟨rfl, rfl⟩, ⟨rfl, rfl⟩, ⟨rfl, rfl⟩, ⟨rfl, rfl⟩, ⟨rfl, rfl, pureL_bys _⟩, ⟨rfl, rfl⟩, trivial⟩ ⟨⟨⟨rfl, rfl⟩, trivial, rfl, trivial⟩, ⟨⟨rfl, rfl⟩, trivial, rfl, trivial⟩, ⟨⟨rfl, rfl⟩, ⟨rfl, rfl⟩, ⟨rfl, rfl, rfl⟩, trivial⟩, ⟨⟨rfl, rfl⟩, ⟨rfl, by simp, by simp, rfl, id⟩, rfl, trivial⟩, lesP_bys (by rw [bys_append]), trivial⟩⟩) | (refine ⟨_, rfl, ?_⟩; conv => whnf) | (refine And.intro ?_ ?_ <;> conv => whnf))
          · rw [if_neg (by omega)] at p4
            have p5 := p4
            conv => whnf
            refine ⟨by kernel_rfl, ?_⟩
            conv => whnf
            repeat' (first | (refine fit_i64 ⟨by first | omega | rfl | (dsimp only; omega), by first | omega | rfl | (dsimp only; omega)⟩ ?_; (conv => whnf)) | (refine ⟨ones_bys _, ?_⟩; (conv => whnf)) | (refine ⟨⟨rfl, rfl, ?_⟩, ?_⟩; (focus (first | exact Nat.le_of_ble_eq_true rfl | (simp; done))); (conv => whnf)) | (refine ⟨⟨rfl, rfl, ?_, ?_⟩, ?_⟩; (focus (first | (simp; done) | (simp; omega))); (focus (first | (simp [limB]; done) | (simp [limB]; omega))); (conv => whnf)) | (refine And.intro ?_ ?_; (focus (first | (simp [limB]; done) | (simp [limB]; omega))); (conv => whnf)) | (exact ⟨(i + 1, a', bs ++ x, last), ⟨by omega, g2, by simp; omega, pb, by rw [show items - (i + 1) = m by omega]; exact p5⟩, by simp only; omega, weaker_of [(0, 0), (1, 1), (2, 2), (3, 3), (4, 6)] rfl rfl ⟨⟨rfl, rfl, hL⟩, ⟨rfl, rfl⟩, ⟨rfl, rfl⟩, ⟨rfl, rfl⟩, ⟨rfl, rfl⟩, ⟨rfl, rfl⟩, ⟨rfl, rfl⟩, ⟨rfl, rfl, pureL_bys _⟩, ⟨rfl, rfl⟩, trivial⟩ ⟨⟨⟨rfl, rfl⟩, trivial, rfl, trivial⟩, ⟨⟨rfl, rfl⟩, trivial, rfl, trivial⟩, ⟨⟨rfl, rfl⟩, ⟨rfl, rfl⟩, ⟨rfl, rfl, rfl⟩, trivial⟩, ⟨⟨rfl, rfl⟩, ⟨rfl, by simp, by simp, rfl, id⟩, rfl, trivial⟩, lesP_bys (by rw [bys_append]), trivial⟩⟩) | (refine ⟨_, rfl, ?_⟩; conv => whnf) | (refine And.intro ?_ ?_ <;> conv => whnf))
      · have : items - i = 0 := by simp only at j1; omega
        rw [this] at p4
        simp only [rLoop] at p4
        rw [← p4]
        conv => whnf
        repeat ((first | refine ⟨rfl, ?_⟩ | refine ⟨_, rfl, ?_⟩ | refine ⟨⟨rfl, rfl⟩, ?_⟩ | (refine ⟨⟨rfl, rfl, rfl, ?_, pureL_bys _⟩, ?_⟩; (focus (simp; done))) | (refine ⟨⟨rfl, rfl, ?_⟩, ?_⟩; (focus (first | exact Nat.le_of_ble_eq_true rfl | (simp; done))))); conv => whnf)
        rfl
    · refine weaker_of [(0, 0), (1, 1), (2, 2), (3, 4), (4, 5)] rfl rfl ⟨⟨rfl, rfl, hL⟩, ⟨rfl, rfl⟩, ⟨rfl, rfl⟩, ⟨rfl, rfl⟩, ⟨rfl, rfl⟩, ⟨rfl, by omega⟩, ⟨rfl, rfl⟩, ⟨rfl, rfl⟩, ⟨rfl, rfl⟩, trivial⟩ ⟨⟨⟨rfl, rfl⟩, trivial, rfl, trivial⟩, ⟨⟨rfl, rfl⟩, trivial, rfl, trivial⟩, ⟨⟨rfl, rfl⟩, ⟨rfl, rfl⟩, ⟨rfl, rfl, rfl⟩, trivial⟩, ⟨⟨rfl, rfl⟩, ⟨rfl, rfl, rfl, rfl, id⟩, rfl, trivial⟩, lesP_bys rfl, trivial⟩
end Go.Proofs.YtobjehjfdmelhabDoor.Abs
end
section
set_option linter.unusedVariables false
set_option linter.unusedSimpArgs false
namespace Go.Proofs.YtobjehjfdmelhabDoor.Abs
open Go
attribute [local irreducible] ifB fitP Does Weaker
def PLtxt : Nat → Bool × Plan := plans [(11, (true, takes [0, 1, 2, 3, 4, 5, 6, 7, 8, 9, 10, 11, 12, 13, 14, 15, 16, 17, 18, 19, 20, 21, 22, 23, 24, 25, 26, 27, 28, 29, 30, 31, 32, 33, 34, 35, 36, 37, 38, 39, 40])), (13, (true, takes [0, 1, 2, 3, 4, 5, 6, 7, 8, 9, 10, 11, 12, 13, 14])), (15, (false, (takesTo [0, 1, 2, 3, 5, 6, 7] (.all [(4, (.all [(8, (.all [(9, (.all [(10, (takes [11]))]))]))])), (8, (.all [(4, (.all [(9, (.all [(10, (takes [11]))]))])), (9, (.all [(4, (.all [(10, (takes [11]))]))]))]))])))), (29, (false, (takesTo [0, 1, 2, 3, 5, 6] (.all [(4, (.all [(7, (takesTo [8] (.all [(9, (takesTo [10] (.all [(11, .done)])))])))])), (7, (.all [(4, (takesTo [8] (.all [(9, (takesTo [10] (.all [(11, .done)])))])))]))]))))]
theorem frzL_strs {i : Nat} {zs : List AV} : ∀ l : List (List Int), frzL i zs (strs l) = strs l
  | [] => rfl
  | x :: l => congrArg (AV.str x :: ·) (frzL_strs l)
theorem ones_strs : ∀ l : List (List Int), (strs l).all AV.one = true
  | [] => rfl
  | x :: l => ones_strs l
set_option maxHeartbeats 4000000 in
theorem cborTexts_ok (keys : List (List Int)) (n : Int) (hk : (∀ t ∈ keys, Byt t ∧ t.length ≤ 9223372036854775807) ∧ keys.length ≤ 9223372036854775807) (hn : -9223372036854775808 ≤ n ∧ n < 9223372036854775808) :
    ACall Tryd.prog 7 [.ro keys.length (strs keys), .int .i64 n] (.bool true) [] := by
  refine ACall.of_does TTok Tryd.func7 rfl Tryd.call7 rfl (wpc_sound (M := MC) (PL := PLtxt) (CU := cutAt [100022, 100023]) TTok mixed _ _ _ ?_)
  conv => whnf
  refine ifB_dec (fun l1 => ?_) (fun l1 => ?_)
  · conv => whnf
    repeat ((refine ⟨rfl, ?_⟩); conv => whnf)
    rfl
  conv => whnf
  refine Does.loop (fun p : Nat × List (List Int) => mkSt [(0, .ro keys.length (strs keys)), (1, .int .i64 n), (5, .sl 0 0 p.2.length 1 false), (6, .int .i64 p.1)] [(0, strs p.2)] 1 190)
    (fun p => p.1 ≤ keys.length ∧ p.2.length ≤ p.1 ∧ UpT p.2) (fun p => keys.length - p.1) ?_ (0, []) ⟨Nat.zero_le _, Nat.le_refl _, by simp [UpT]⟩ ?_
  · rintro ⟨i, k⟩ ⟨p1, p2, p3⟩
    simp only at p1 p2 p3
    have hsl := strs_length keys
    have hsk := strs_length k
    refine wpc_sound (M := MC) (PL := PLtxt) (CU := noCut) TTok mixed _ _ _ ?_
    conv => whnf
    refine ifB_dec (fun j1 => ?_) (fun j1 => ?_)
    · have c1 : i < keys.length := by simp only at j1; omega
      obtain ⟨s, hs⟩ : ∃ s, keys[i] = s := ⟨_, rfl⟩
      have hsb := hk.1 keys[i] (List.getElem_mem c1)
      have ld := fun m (hm : m = i) => get_strs c1 hm
      rw [hs] at hsb ld
      conv => whnf
      repeat ((refine And.intro (by first | omega | rfl | (dsimp only; omega)) ?_); conv => whnf)
      refine ⟨_, ld _ (by simp), ?_⟩
      conv => whnf
      refine ifB_dec (fun j2 => ?_) (fun j2 => ?_)
      · conv => whnf
        repeat ((first | refine ifB_t ?_ | (refine And.intro (by first | omega | rfl | (dsimp only; omega)) ?_)); conv => whnf)
        refine ⟨_, ld _ (by simp), ?_⟩
        conv => whnf
        repeat ((first | (refine ifB_pos (decide_eq_true (by first | omega | rfl | (dsimp only; omega))) ?_) | refine ⟨rfl, ?_⟩); conv => whnf)
        rfl
      have hsn : s.length ≤ 20 := by omega
      have u1 := utf8_ok s hsb.1 (by omega)
      conv => whnf
      repeat ((first | refine ifB_f ?_ | (refine And.intro (by first | omega | rfl | (dsimp only; omega)) ?_)); conv => whnf)
      refine ⟨_, ld _ (by simp), ?_⟩
      conv => whnf
      repeat ((first | refine ifB_f ?_ | refine ⟨pureL_bys _, ?_⟩ | (refine Or.inl ⟨⟨rfl, ?_⟩, ?_⟩; (focus (first | rfl | (simp; done) | (rw [toksC_length]; omega)))) | refine ⟨rfl, ?_⟩); conv => whnf)
      refine ⟨_, _, u1, by first | rfl | simp [noRoIf, noRoL, noRoV, noRoL_bys], ?_⟩
      conv => whnf
      repeat ((refine ifB_f ?_); conv => whnf)
      cases hv : validR s
      · conv => whnf
        repeat ((first | refine ifB_t ?_ | (refine And.intro (by first | omega | rfl | (dsimp only; omega)) ?_)); conv => whnf)
        refine ⟨_, ld _ (by simp), ?_⟩
        conv => whnf
        repeat ((first | (refine ifB_neg (decide_eq_false (by first | omega | rfl | (dsimp only; omega))) ?_) | (refine fit_i64 ⟨by first | omega | rfl | (dsimp only; omega), by first | omega | rfl | (dsimp only; omega)⟩ ?_)); conv => whnf)
        conv => whnf
        exact ⟨(i + 1, k), ⟨by simp only; omega, by simp only; omega, p3⟩, by simp only; omega, weaker_of [(0, 0)] rfl rfl ⟨⟨rfl, rfl, pureL_strs _⟩, ⟨rfl, rfl⟩, ⟨rfl, rfl, rfl, rfl, id⟩, ⟨rfl, rfl⟩, trivial⟩ ⟨lesP_strs rfl, trivial⟩⟩
      conv => whnf
      repeat ((refine ifB_f ?_); conv => whnf)
      refine Does.loop (fun c : Nat => mkSt [(0, .ro keys.length (strs keys)), (1, .int .i64 n), (5, .sl 0 0 k.length 1 false), (6, .int .i64 i), (7, .int .i64 c)] [(0, strs k)] 1 190)
        (fun c => c ≤ k.length ∧ ∀ (j : Nat) (hj : j < k.length), j < c → bytesLt (tb k[j]) (tb s) = true) (fun c => k.length - c) ?_ 0 ⟨Nat.zero_le _, fun j _ h => by omega⟩ ?_
      · rintro c ⟨r1, r2⟩
        refine wpc_sound (M := MC) (PL := PLtxt) (CU := cutAt [100022, 100023]) TTok mixed _ _ _ ?_
        conv => whnf
        refine ⟨by kernel_rfl, ?_⟩
        conv => whnf
        refine ifB_dec (fun j3 => ?_) (fun j3 => ?_)
        · have c2 : c < k.length := by omega
          obtain ⟨a, ha⟩ : ∃ a, k[c] = a := ⟨_, rfl⟩
          have ldk := fun m (hm : m = c) => get_strs c2 hm
          have htb := tb_lt a s
          rw [ha] at ldk
          conv => whnf
          repeat ((first | refine ifB_t ?_ | (refine And.intro (by first | omega | rfl | (dsimp only; omega)) ?_)); conv => whnf)
          refine ⟨_, ldk _ (by simp), ?_⟩
          conv => whnf
          repeat ((first | refine ifB_t ?_ | (refine And.intro (by first | omega | rfl | (dsimp only; omega)) ?_)); conv => whnf)
          refine ⟨_, ld _ (by simp), ?_⟩
          conv => whnf
          repeat ((refine ifB_t ?_); conv => whnf)
          refine ifB_dec (fun j4 => ?_) (fun j4 => ?_)
          · have lt1 : bytesLt (tb a) (tb s) = true := by rw [htb, decide_eq_true (by omega)]; rfl
            conv => whnf
            repeat ((first | refine ifB_t ?_ | (refine fit_i64 ⟨by first | omega | rfl | (dsimp only; omega), by first | omega | rfl | (dsimp only; omega)⟩ ?_)); conv => whnf)
            conv => whnf
            refine ⟨c + 1, ⟨by omega, fun j hj hjc => ?_⟩, by omega, weaker_of [(0, 0)] rfl rfl ⟨⟨rfl, rfl, pureL_strs _⟩, ⟨rfl, rfl⟩, ⟨rfl, rfl, rfl, rfl, id⟩, ⟨rfl, rfl⟩, ⟨rfl, rfl⟩, trivial⟩ ⟨lesP_strs rfl, trivial⟩⟩
            rcases Nat.lt_or_ge j c with h | h
            · exact r2 j hj h
            · obtain rfl : j = c := by omega
              rw [ha, lt1]
          · conv => whnf
            repeat ((first | refine ifB_f ?_ | (refine And.intro (by first | omega | rfl | (dsimp only; omega)) ?_)); conv => whnf)
            refine ⟨_, ldk _ (by simp), ?_⟩
            conv => whnf
            repeat ((first | refine ifB_f ?_ | (refine And.intro (by first | omega | rfl | (dsimp only; omega)) ?_)); conv => whnf)
            refine ⟨_, ld _ (by simp), ?_⟩
            conv => whnf
            repeat ((refine ifB_f ?_); conv => whnf)
            refine ifB_dec (fun j6 => ?_) (fun j6 => ?_)
            · have hl : a.length = s.length := by omega
              conv => whnf
              repeat ((first | refine ifB_t ?_ | (refine And.intro (by first | omega | rfl | (dsimp only; omega)) ?_)); conv => whnf)
              refine ⟨_, ldk _ (by simp), ?_⟩
              conv => whnf
              repeat ((first | refine ifB_t ?_ | (refine And.intro (by first | omega | rfl | (dsimp only; omega)) ?_)); conv => whnf)
              refine ⟨_, ld _ (by simp), ?_⟩
              conv => whnf
              repeat ((first | refine ifB_t ?_ | refine ifB_f ?_); conv => whnf)
              refine ifB_bool (fun j7 => ?_) (fun j7 => ?_)
              · have lt1 : bytesLt (tb a) (tb s) = true := by rw [htb, j7, decide_eq_true hl]; simp
                conv => whnf
                repeat ((refine fit_i64 ⟨by first | omega | rfl | (dsimp only; omega), by first | omega | rfl | (dsimp only; omega)⟩ ?_); conv => whnf)
                refine ⟨c + 1, ⟨by omega, fun j hj hjc => ?_⟩, by omega, weaker_of [(0, 0)] rfl rfl ⟨⟨rfl, rfl, pureL_strs _⟩, ⟨rfl, rfl⟩, ⟨rfl, rfl, rfl, rfl, id⟩, ⟨rfl, rfl⟩, ⟨rfl, rfl⟩, trivial⟩ ⟨lesP_strs rfl, trivial⟩⟩
                rcases Nat.lt_or_ge j c with h | h
                · exact r2 j hj h
                · obtain rfl : j = c := by omega
                  rw [ha, lt1]
              · have lt0 : bytesLt (tb a) (tb s) = false := by rw [htb, j7, decide_eq_false (by omega)]; simp
                conv => whnf
                refine ⟨by kernel_rfl, ?_⟩
                conv => whnf
                repeat ((first | refine ifB_t ?_ | (refine ifB_pos (decide_eq_true (by first | omega | rfl | (dsimp only; omega))) ?_) | (refine And.intro (by first | omega | rfl | (dsimp only; omega)) ?_)); conv => whnf)
                refine ⟨_, ldk _ (by simp), ?_⟩
                conv => whnf
                repeat ((first | refine ifB_t ?_ | (refine And.intro (by first | omega | rfl | (dsimp only; omega)) ?_)); conv => whnf)
                refine ⟨_, ld _ (by simp), ?_⟩
                conv => whnf
                repeat ((refine ifB_t ?_); conv => whnf)
                refine ifB_dec (fun j5 => ?_) (fun j5 => ?_)
                · conv => whnf
                  repeat ((refine fit_i64 ⟨by first | omega | rfl | (dsimp only; omega), by first | omega | rfl | (dsimp only; omega)⟩ ?_); conv => whnf)
                  exact ⟨(i + 1, k), ⟨by simp only; omega, by simp only; omega, p3⟩, by simp only; omega, weaker_of [(0, 0)] rfl rfl ⟨⟨rfl, rfl, pureL_strs _⟩, ⟨rfl, rfl⟩, ⟨rfl, rfl, rfl, rfl, id⟩, ⟨rfl, rfl⟩, trivial⟩ ⟨lesP_strs rfl, trivial⟩⟩
                · have gt := upT_gt lt0 j5
                  have gtc : bytesLt (tb s) (tb k[c]) = true := by rw [ha]; exact gt
                  conv => whnf
                  refine ⟨by kernel_rfl, ?_⟩
                  conv => whnf
                  repeat' (first | (refine fit_i64 ⟨by first | omega | rfl | (dsimp only; omega), by first | omega | rfl | (dsimp only; omega)⟩ ?_; (conv => whnf)) | (refine Or.inl ⟨⟨rfl, ?_⟩, ?_⟩; (focus (first | rfl | (simp; done) | (rw [toksC_length]; omega))); (conv => whnf)) | (refine ⟨rfl, ?_⟩; (conv => whnf)) | (refine And.intro (by first | omega | rfl | (dsimp only; omega)) ?_; (conv => whnf)) | (refine ⟨⟨rfl, ?_⟩, ?_⟩; (focus (first | (simp only [okB]; omega) | (simp [okB]; omega))); (conv => whnf)) | (refine ⟨⟨rfl, rfl, ?_, ?_⟩, ?_⟩; (focus (first | (simp [lenB, offB]; done) | (simp [lenB, offB]; omega))); (focus (first | (simp [limB, lenB, offB]; done) | (simp [limB, lenB, offB]; omega))); (conv => whnf)) | (refine And.intro ?_ ?_; (focus (first | (simp [limB, lenB, offB]; done) | (simp [limB, lenB, offB]; omega))); (conv => whnf)) | (refine ⟨_, ld _ (by simp), ?_⟩; conv => whnf) | (refine Or.inr ?_; conv => whnf) | (exact ones_part (ones_strs _) _ _) | (exact ⟨(i + 1, k.take c ++ [s] ++ k.drop c), ⟨by simp only; omega, by simp only [List.length_append, List.length_take, List.length_drop, List.length_singleton]; omega, upT_ins p3 ⟨hsb.1, hsn, hv⟩ r1 r2 (fun _ => gtc)⟩, by simp only; omega, weaker_of [(0, 4)] rfl rfl ⟨⟨rfl, rfl, pureL_strs _⟩, ⟨rfl, rfl⟩, ⟨rfl, rfl, by simp [lenB]; omega, rfl, id⟩, ⟨rfl, rfl⟩, trivial⟩ ⟨lesP_strs (by simp only [strs, lenB, offB, List.map_append, List.map_take, List.map_drop, List.map_cons, List.map_nil, Int.toNat_natCast, Nat.zero_add, Nat.zero_mul, List.drop_zero, Nat.mul_one]; rw [List.take_of_length_le (l := List.drop c _) (by simp)]), trivial⟩⟩) | (refine ⟨_, rfl, ?_⟩; conv => whnf) | (refine And.intro ?_ ?_ <;> conv => whnf))
            · have lt0 : bytesLt (tb a) (tb s) = false := by rw [htb, decide_eq_false (by omega), decide_eq_false (by omega)]; rfl
              conv => whnf
              repeat ((first | refine ifB_t ?_ | refine ifB_f ?_); conv => whnf)
              refine ⟨by kernel_rfl, ?_⟩
              conv => whnf
              repeat ((first | refine ifB_t ?_ | (refine ifB_pos (decide_eq_true (by first | omega | rfl | (dsimp only; omega))) ?_) | (refine And.intro (by first | omega | rfl | (dsimp only; omega)) ?_)); conv => whnf)
              refine ⟨_, ldk _ (by simp), ?_⟩
              conv => whnf
              repeat ((first | refine ifB_t ?_ | (refine And.intro (by first | omega | rfl | (dsimp only; omega)) ?_)); conv => whnf)
              refine ⟨_, ld _ (by simp), ?_⟩
              conv => whnf
              repeat ((refine ifB_t ?_); conv => whnf)
              refine ifB_dec (fun j5 => ?_) (fun j5 => ?_)
              · conv => whnf
                repeat ((refine fit_i64 ⟨by first | omega | rfl | (dsimp only; omega), by first | omega | rfl | (dsimp only; omega)⟩ ?_); conv => whnf)
                exact ⟨(i + 1, k), ⟨by simp only; omega, by simp only; omega, p3⟩, by simp only; omega, weaker_of [(0, 0)] rfl rfl ⟨⟨rfl, rfl, pureL_strs _⟩, ⟨rfl, rfl⟩, ⟨rfl, rfl, rfl, rfl, id⟩, ⟨rfl, rfl⟩, trivial⟩ ⟨lesP_strs rfl, trivial⟩⟩
              · have gt := upT_gt lt0 j5
                have gtc : bytesLt (tb s) (tb k[c]) = true := by rw [ha]; exact gt
                conv => whnf
                refine ⟨by kernel_rfl, ?_⟩
                conv => whnf
                repeat' (first | (refine fit_i64 ⟨by first | omega | rfl | (dsimp only; omega), by first | omega | rfl | (dsimp only; omega)⟩ ?_; (conv => whnf)) | (refine Or.inl ⟨⟨rfl, ?_⟩, ?_⟩; (focus (first | rfl | (simp; done) | (rw [toksC_length]; omega))); (conv => whnf)) | (refine ⟨rfl, ?_⟩; (conv => whnf)) | (refine And.intro (by first | omega | rfl | (dsimp only; omega)) ?_; (conv => whnf)) | (refine ⟨⟨rfl, ?_⟩, ?_⟩; (focus (first | (simp only [okB]; omega) | (simp [okB]; omega))); (conv => whnf)) | (refine ⟨⟨rfl, rfl, ?_, ?_⟩, ?_⟩; (focus (first | (simp [lenB, offB]; done) | (simp [lenB, offB]; omega))); (focus (first | (simp [limB, lenB, offB]; done) | (simp [limB, lenB, offB]; omega))); (conv => whnf)) | (refine And.intro ?_ ?_; (focus (first | (simp [limB, lenB, offB]; done) | (simp [limB, lenB, offB]; omega))); (conv => whnf)) | (refine ⟨_, ld _ (by simp), ?_⟩; conv => whnf) | (refine Or.inr ?_; conv => whnf) | (exact ones_part (ones_strs _) _ _) | (exact ⟨(i + 1, k.take c ++ [s] ++ k.drop c), ⟨by simp only; omega, by simp only [List.length_append, List.length_take, List.length_drop, List.length_singleton]; omega, upT_ins p3 ⟨hsb.1, hsn, hv⟩ r1 r2 (fun _ => gtc)⟩, by simp only; omega, weaker_of [(0, 4)] rfl rfl ⟨⟨rfl, rfl, pureL_strs _⟩, ⟨rfl, rfl⟩, ⟨rfl, rfl, by simp [lenB]; omega, rfl, id⟩, ⟨rfl, rfl⟩, trivial⟩ ⟨lesP_strs (by simp only [strs, lenB, offB, List.map_append, List.map_take, List.map_drop, List.map_cons, List.map_nil, Int.toNat_natCast, Nat.zero_add, Nat.zero_mul, List.drop_zero, Nat.mul_one]; rw [List.take_of_length_le (l := List.drop c _) (by simp)]), trivial⟩⟩) | (refine ⟨_, rfl, ?_⟩; conv => whnf) | (refine And.intro ?_ ?_ <;> conv => whnf))
        · conv => whnf
          repeat ((refine ifB_f ?_); conv => whnf)
          refine ⟨by kernel_rfl, ?_⟩
          conv => whnf
          repeat ((first | refine ifB_f ?_ | (refine ifB_neg (decide_eq_false (by first | omega | rfl | (dsimp only; omega))) ?_)); conv => whnf)
          refine ⟨by kernel_rfl, ?_⟩
          conv => whnf
          repeat' (first | (refine fit_i64 ⟨by first | omega | rfl | (dsimp only; omega), by first | omega | rfl | (dsimp only; omega)⟩ ?_; (conv => whnf)) | (refine Or.inl ⟨⟨rfl, ?_⟩, ?_⟩; (focus (first | rfl | (simp; done) | (rw [toksC_length]; omega))); (conv => whnf)) | (refine ⟨rfl, ?_⟩; (conv => whnf)) | (refine And.intro (by first | omega | rfl | (dsimp only; omega)) ?_; (conv => whnf)) | (refine ⟨⟨rfl, ?_⟩, ?_⟩; (focus (first | (simp only [okB]; omega) | (simp [okB]; omega))); (conv => whnf)) | (refine ⟨⟨rfl, rfl, ?_, ?_⟩, ?_⟩; (focus (first | (simp [lenB, offB]; done) | (simp [lenB, offB]; omega))); (focus (first | (simp [limB, lenB, offB]; done) | (simp [limB, lenB, offB]; omega))); (conv => whnf)) | (refine And.intro ?_ ?_; (focus (first | (simp [limB, lenB, offB]; done) | (simp [limB, lenB, offB]; omega))); (conv => whnf)) | (refine ⟨_, ld _ (by simp), ?_⟩; conv => whnf) | (refine Or.inr ?_; conv => whnf) | (exact ones_part (ones_strs _) _ _) | (exact ⟨(i + 1, k.take c ++ [s] ++ k.drop c), ⟨by simp only; omega, by simp only [List.length_append, List.length_take, List.length_drop, List.length_singleton]; omega, upT_ins p3 ⟨hsb.1, hsn, hv⟩ r1 r2 (fun h => by omega)⟩, by simp only; omega, weaker_of [(0, 4)] rfl rfl ⟨⟨rfl, rfl, pureL_strs _⟩, ⟨rfl, rfl⟩, ⟨rfl, rfl, by simp [lenB]; omega, rfl, id⟩, ⟨rfl, rfl⟩, trivial⟩ ⟨lesP_strs (by simp only [strs, lenB, offB, List.map_append, List.map_take, List.map_drop, List.map_cons, List.map_nil, Int.toNat_natCast, Nat.zero_add, Nat.zero_mul, List.drop_zero, Nat.mul_one]; rw [List.take_of_length_le (l := List.drop c _) (by simp)]), trivial⟩⟩) | (refine ⟨_, rfl, ?_⟩; conv => whnf) | (refine And.intro ?_ ?_ <;> conv => whnf))
      · exact weaker_of [(0, 0)] rfl rfl ⟨⟨rfl, rfl, pureL_strs _⟩, ⟨rfl, rfl⟩, ⟨rfl, rfl, rfl, rfl, id⟩, ⟨rfl, rfl⟩, ⟨rfl, rfl⟩, trivial⟩ ⟨lesP_strs rfl, trivial⟩
    · obtain ⟨m, hm, hm2⟩ := and_mask n 65535 (by omega)
      rw [show ((65535 : Nat) : Int) = 65535 from rfl] at hm
      obtain ⟨N, hN⟩ : ∃ N : Int, N = 1 + k.length := ⟨_, rfl⟩
      conv => whnf
      repeat ((first | (refine fit_i64 ⟨by first | omega | rfl | (dsimp only; omega), by first | omega | rfl | (dsimp only; omega)⟩ ?_) | refine ⟨⟨rfl, rfl⟩, ?_⟩); conv => whnf)
      rw [hm]
      refine Does.loop (fun c : Nat => mkSt [(0, .ro keys.length (strs keys)), (1, .int .i64 n), (5, .sl 0 0 k.length 1 false), (9, .sl 1 0 (3 + 2 * c) 3 false), (10, .int .i64 c)] [(0, strs k), (1, toksC (rowT m N (k.take c)))] 2 190)
        (fun c => c ≤ k.length) (fun c => k.length - c) ?_ 0 (Nat.zero_le _) ?_
      · intro c hc
        have hrl := rowT_len m N (k.take c)
        obtain ⟨R, hR⟩ : ∃ R, R = rowT m N (k.take c) := ⟨_, rfl⟩
        rw [← hR] at hrl ⊢
        have htl : (k.take c).length = c := by simp; omega
        rw [htl] at hrl
        have hRl : (toksC R).length = (3 + 2 * c) * 3 := by rw [toksC_length]; omega
        refine wpc_sound (M := MC) (PL := PLtxt) (CU := cutAt [100022, 100023]) TTok mixed _ _ _ ?_
        conv => whnf
        refine ifB_dec (fun j2 => ?_) (fun j2 => ?_)
        · have c2 : c < k.length := by omega
          obtain ⟨a, ha⟩ : ∃ a, k[c] = a := ⟨_, rfl⟩
          have ldk := fun m (hm : m = c) => get_strs c2 hm
          have hab := p3.2 k[c] (List.getElem_mem c2)
          rw [ha] at ldk hab
          have snoc : rowT m N (k.take (c + 1)) = R ++ [⟨4, 0, a⟩, ⟨1, c, []⟩] := by
            have e : k.take (c + 1) = k.take c ++ [a] := by rw [← ha, List.take_succ_eq_append_getElem c2]
            rw [e, rowT_snoc, htl, hR]
          conv => whnf
          repeat ((refine And.intro (by first | omega | rfl | (dsimp only; omega)) ?_); conv => whnf)
          refine ⟨_, ldk _ (by simp), ?_⟩
          conv => whnf
          repeat ((first | (refine fit_i64 ⟨by first | omega | rfl | (dsimp only; omega), by first | omega | rfl | (dsimp only; omega)⟩ ?_) | (refine Or.inl ⟨⟨rfl, ?_⟩, ?_⟩; (focus (first | rfl | (simp; done) | (rw [toksC_length]; omega)))) | refine ⟨rfl, ?_⟩ | refine ⟨⟨rfl, rfl⟩, ?_⟩ | (refine And.intro ?_ ?_; (focus (first | (simp [limB, lenB, offB]; done) | (simp [limB, lenB, offB]; omega))))); conv => whnf)
          conv => whnf
          refine ⟨c + 1, by omega, by omega, Weaker.trans (Weaker.freeze 2 rfl) (weaker_of [(0, 0), (1, 4)] rfl rfl ⟨⟨rfl, rfl, pureL_strs _⟩, ⟨rfl, rfl⟩, ⟨rfl, rfl, rfl, rfl, id⟩, ⟨rfl, by omega, by omega, rfl, id⟩, ⟨rfl, rfl⟩, trivial⟩ ⟨lesP_strs (frzL_strs _), ?_, trivial⟩)⟩
          rw [snoc]
          clear snoc
          conv => whnf
          rw [frzL_app, frzL_toks, toksC_append]
          exact lesP_app' (lesP_toks rfl) ⟨⟨rfl, rfl⟩, ⟨rfl, rfl⟩, ⟨rfl, whole_bys a, pureL_bys _⟩, ⟨rfl, rfl⟩, ⟨rfl, rfl⟩, ⟨rfl, rfl⟩, trivial⟩
        · obtain rfl : c = k.length := by omega
          rw [List.take_length] at hR
          rw [hN, rowT_map] at hR
          have hps := rowT_rises m (by omega) k p3
          have hpo : ∀ p ∈ ((⟨1, m, []⟩, ⟨1, 0, []⟩) :: tx k 0 : List (Tok × Tok)), PairOk p := by
            intro p hp
            rcases List.mem_cons.1 hp with rfl | hp
            · exact int_pair_ok (by omega) (by omega)
            · exact tx_ok (fun x hx => ⟨(p3.2 x hx).1, (p3.2 x hx).2.1⟩) (by omega) p hp
          obtain ⟨o1, o2⟩ := mapT_ok (by simp [tx_length]; omega) hpo
          obtain ⟨b, q1⟩ := mapT_yes (by simp [tx_length]; omega) hps
          rw [← hR] at o1 o2 q1
          have hRlen : R.length = 3 + 2 * k.length := hrl
          have n1 := encR_len q1
          have e1 := encode_ok R o1 o2
          have d1 := decode_ok b (by have := encR_byt R o1; rw [q1] at this; exact this) (by omega)
          rw [decR_enc o1 q1] at d1
          rw [q1] at e1
          dsimp only at e1 d1
          have k1 := toks_ok R R o2 (by omega)
          rw [decide_eq_true rfl] at k1
          have tw := twinToks_ok R (by omega) o2
          have wR : (List.drop 0 (toksC R)).take ((3 + 2 * k.length) * 3) = toksC R := by rw [← hRlen]; exact whole_toks R
          conv => whnf
          refine Does.freeze 1 rfl (Does.weakerTo' (env := [(5, .sl 0 0 k.length 1 false), (9, .ro R.length (toksC R))]) (heap := [(0, strs k)]) (nx := 1) (n := 190) [(0, 0)] rfl rfl
            ⟨⟨rfl, rfl, rfl, rfl, id⟩, ⟨hRlen.symm, wR, pureL_toks _⟩, trivial⟩ ⟨lesP_strs (frzL_strs _), trivial⟩ (wpc_sound (M := MC) (PL := PLtxt) (CU := noCut) TTok mixed _ _ _ ?_))
          conv => whnf
          repeat ((first | refine ⟨rfl, ?_⟩ | (refine And.intro ?_ ?_; (focus (first | (simp only [pureL, pureV, pureL_bys, Bool.and_true, Bool.and_self]; done) | (simp only [pureL, pureV, pureL_bys, pureL_toks, Bool.and_true, Bool.and_self]; done))))); conv => whnf)
          refine ⟨_, _, e1, by first | rfl | simp [noRoIf, noRoL, noRoV, noRoL_bys], ?_⟩
          conv => whnf
          conv => whnf
          refine Does.freeze 1 rfl (Does.weakerTo' (env := [(5, .sl 0 0 k.length 1 false), (9, .ro R.length (toksC R)), (11, .ro b.length (bys b)), (12, .int .i64 0)]) (heap := [(0, strs k)]) (nx := 1) (n := 190) [(0, 0)] rfl rfl
            ⟨⟨rfl, rfl, rfl, rfl, id⟩, ⟨rfl, rfl, pureL_toks _⟩, ⟨rfl, whole_bys _, pureL_bys _⟩, ⟨rfl, rfl⟩, trivial⟩ ⟨lesP_strs (frzL_strs _), trivial⟩ (wpc_sound (M := MC) (PL := PLtxt) (CU := noCut) TTok mixed _ _ _ ?_))
          conv => whnf
          repeat ((first | refine ⟨pureL_bys _, ?_⟩ | refine ⟨rfl, ?_⟩); conv => whnf)
          refine ⟨_, _, d1, by first | rfl | simp [noRoIf, noRoL, noRoV, noRoL_bys], ?_⟩
          conv => whnf
          repeat ((first | refine ifB_f ?_ | (refine Or.inl ⟨⟨rfl, ?_⟩, ?_⟩; (focus (first | rfl | (simp; done) | (rw [toksC_length]; omega)))) | refine ⟨rfl, ?_⟩ | (refine And.intro ?_ ?_; (focus (first | (simp only [pureL, pureV, pureL_bys, Bool.and_true, Bool.and_self]; done) | (simp only [pureL, pureV, pureL_bys, pureL_toks, Bool.and_true, Bool.and_self]; done))))); conv => whnf)
          conv => whnf
          refine ⟨_, _, k1, by first | rfl | simp [noRoIf, noRoL, noRoV, noRoL_bys], ?_⟩
          conv => whnf
          repeat ((refine ifB_f ?_); conv => whnf)
          refine ifB_dec (fun j4 => ?_) (fun j4 => ?_)
          · conv => whnf
            repeat ((refine ⟨rfl, ?_⟩); conv => whnf)
            refine ⟨_, _, wakes_ok, by first | rfl | simp [noRoIf, noRoL, noRoV, noRoL_bys], ?_⟩
            conv => whnf
            repeat ((refine ⟨rfl, ?_⟩); conv => whnf)
            rfl
          obtain ⟨x, k', hk'⟩ : ∃ x k', k = x :: k' := by
            cases k with
            | nil => simp at j4
            | cons x k' => exact ⟨x, k', rfl⟩
          have hlk : k.length = 1 + k'.length := by rw [hk']; simp; omega
          have hR2 : R = ⟨6, (2 + k'.length : Nat), []⟩ :: ⟨1, m, []⟩ :: ⟨1, 0, []⟩ :: ⟨4, 0, x⟩ :: ⟨1, 0, []⟩ :: pairs (tx k' 1) := by
            rw [hR, hk']
            simp [mapT, tx, tx_length, pairs]
            omega
          have hX : (R.set 1 ⟨4, 0, x⟩).set 3 ⟨1, m, []⟩ = mapT ((⟨4, 0, x⟩, ⟨1, 0, []⟩) :: (⟨1, m, []⟩, ⟨1, 0, []⟩) :: tx k' 1) := by
            rw [hR2]
            simp [mapT, tx_length, pairs]
            omega
          have hsw := swapT m (by omega) x k' (by rw [← hk']; exact p3) (by omega)
          have cX : ACall Tryd.prog 17 [.ro R.length (toksC ((R.set 1 ⟨4, 0, x⟩).set 3 ⟨1, m, []⟩))] (.int .i64 1) [] := by
            have hx := p3.2 x (by rw [hk']; simp)
            obtain ⟨o3, o4⟩ := mapT_ok (ps := (⟨4, 0, x⟩, ⟨1, 0, []⟩) :: (⟨1, m, []⟩, ⟨1, 0, []⟩) :: tx k' 1) (by simp [tx_length]; omega) (by
              intro p hp
              simp only [List.mem_cons] at hp
              rcases hp with rfl | rfl | hp
              · exact ⟨⟨⟨by simp, by simp, hx.1⟩, hx.2.1⟩, ⟨by simp, by simp, by simp [Byt]⟩, by simp⟩
              · exact int_pair_ok (by omega) (by omega)
              · exact tx_ok (fun y hy => by have := p3.2 y (by rw [hk']; simp [hy]); exact ⟨this.1, this.2.1⟩) (by omega) p hp)
            have := check_ok _ o3 o4
            rw [hsw] at this
            rw [hX]
            exact ACall.arg1 this (by rw [hRlen, hlk]; simp [mapT, pairs_length, tx_length]; omega) rfl
          obtain ⟨h1l, h1⟩ : ∃ h : 1 < R.length, R[1] = ⟨1, m, []⟩ := ⟨by omega, by simp [hR2]⟩
          obtain ⟨h3l, h3⟩ : ∃ h : 3 < R.length, R[3] = ⟨4, 0, x⟩ := ⟨by omega, by simp [hR2]⟩
          have hRl2 : (toksC R).length = R.length * 3 := by rw [toksC_length]; omega
          have ld1 : ∀ m' s : Nat, m' = 3 * 1 → s = 3 → takeN s ((toksC R).drop m') = some (tokC ⟨1, m, []⟩) := fun m' s hm hs => by rw [← h1]; exact takeN_tok h1l hm hs
          have ld3 : ∀ m' s : Nat, m' = 3 * 3 → s = 3 → takeN s ((toksC R).drop m') = some (tokC ⟨4, 0, x⟩) := fun m' s hm hs => by rw [← h3]; exact takeN_tok h3l hm hs
          have eXY : ∀ (o1 o3 : Nat) (v1 v3 : List AV), o1 = 3 * 1 → o3 = 3 * 3 → v1 = tokC ⟨4, 0, x⟩ → v3 = tokC ⟨1, m, []⟩ → setN (setN (toksC R) o1 v1) o3 v3 = toksC ((R.set 1 ⟨4, 0, x⟩).set 3 ⟨1, m, []⟩) := by
            intro o1 o3 v1 v3 e1 e3 e4 e5
            subst e1 e3 e4 e5
            rw [setN_tok _ _ _ h1l, setN_tok _ _ _ (by simpa using h3l)]
          have lX : (toksC ((R.set 1 ⟨4, 0, x⟩).set 3 ⟨1, m, []⟩)).length = R.length * 3 := by rw [toksC_length]; simp; omega
          clear hsw hX hR2 hps hpo
          conv => whnf
          repeat ((first | refine ⟨rfl, ?_⟩ | (refine And.intro ?_ ?_; (focus (first | (simp only [pureL, pureV, pureL_bys, Bool.and_true, Bool.and_self]; done) | (simp only [pureL, pureV, pureL_bys, pureL_toks, Bool.and_true, Bool.and_self]; done))))); conv => whnf)
          refine ⟨_, _, tw, by first | rfl | simp [noRoIf, noRoL, noRoV, noRoL_bys], ?_⟩
          conv => whnf
          conv => whnf
          refine ⟨by kernel_rfl, ?_⟩
          conv => whnf
          repeat' (first | (refine ifB_t ?_; (conv => whnf)) | (refine ⟨rfl, ?_⟩; (conv => whnf)) | (refine And.intro (by first | omega | rfl | (dsimp only; omega)) ?_; (conv => whnf)) | (refine And.intro ?_ ?_; (focus (first | (simp only [pureL, pureV, pureL_bys, Bool.and_true, Bool.and_self]; done) | (simp only [pureL, pureV, pureL_bys, pureL_toks, Bool.and_true, Bool.and_self]; done))); (conv => whnf)) | (refine Or.inl ⟨⟨rfl, ?_⟩, ?_⟩; (focus (first | (simp [toksC_length]; done) | (simp [toksC_length]; omega))); (conv => whnf)) | (refine ⟨_, ld1 _ _ (by simp; omega) rfl, ?_⟩; conv => whnf) | (refine ⟨_, ld3 _ _ (by simp; omega) rfl, ?_⟩; conv => whnf) | (refine ⟨_, ld1 _ _ rfl rfl, ?_⟩; conv => whnf) | (refine ⟨_, ld3 _ _ rfl rfl, ?_⟩; conv => whnf) | (rw [eXY _ _ _ _ (by rfl) (by rfl) (by rfl) (by rfl)]; exact pureL_toks _) | (rw [eXY _ _ _ _ (by rfl) (by rfl) (by rfl) (by rfl)]; refine Or.inl (And.intro (And.intro rfl lX) ?_); conv => whnf) | (rw [eXY _ _ _ _ (by rfl) (by rfl) (by rfl) (by rfl)]; conv => whnf) | (show (_ : Nat) ≤ _; simp [setN_length, toksC_length]; omega) | (refine ⟨_, _, cX, by first | rfl | simp [noRoIf, noRoL, noRoV, noRoL_bys], ?_⟩; conv => whnf) | (refine ⟨_, _, wakes_ok, by first | rfl | simp [noRoIf, noRoL, noRoV, noRoL_bys], ?_⟩; conv => whnf) | (rfl) | (refine ⟨_, rfl, ?_⟩; conv => whnf) | (refine And.intro ?_ ?_ <;> conv => whnf))
      · refine weaker_of [(0, 0), (1, 1)] rfl rfl ⟨⟨rfl, rfl, pureL_strs _⟩, ⟨rfl, rfl⟩, ⟨rfl, rfl, rfl, rfl, id⟩, ⟨rfl, rfl, rfl, rfl, nofun⟩, ⟨rfl, rfl⟩, trivial⟩ ⟨lesP_strs rfl, ?_, trivial⟩
        conv => whnf
        exact ⟨⟨rfl, rfl⟩, ⟨rfl, hN.symm⟩, ⟨rfl, rfl⟩, ⟨rfl, rfl⟩, ⟨rfl, rfl⟩, ⟨rfl, rfl⟩, ⟨rfl, rfl⟩, ⟨rfl, rfl⟩, ⟨rfl, rfl⟩, trivial⟩
  · exact weaker_of [] rfl rfl ⟨⟨rfl, rfl, pureL_strs _⟩, ⟨rfl, rfl⟩, rfl, ⟨rfl, rfl⟩, trivial⟩ ⟨rfl, trivial⟩
end Go.Proofs.YtobjehjfdmelhabDoor.Abs
end
section
set_option linter.unusedVariables false
namespace Go.Proofs.YtobjehjfdmelhabDoor.Abs
open Go Go.Shelf Go.Lib
theorem first_eq : ∀ c : Fin 256, firstT c.val = utf8First.getD c.val 0 := by decide +kernel
theorem acc_eq : ∀ i : Fin 16, accLo i.val = utf8Ranges.getD (2 * i.val) 0 ∧ accHi i.val = utf8Ranges.getD (2 * i.val + 1) 0 := by decide +kernel
theorem tabOk_of {W : World} (h : Lib.Utf8Tabs 0 1 W) : TabOk (env0 W) := by
  obtain ⟨h1, h2⟩ := h
  have l1 : utf8First.length = 256 := by decide +kernel
  have l2 : utf8Ranges.length = 32 := by decide +kernel
  have s0 : 0 < W.heap.size := World.block_lt_of_cell? _ _ (h1 0 (by omega))
  have s1 : 1 < W.heap.size := World.block_lt_of_cell? _ _ (h2 0 (by omega)).1
  intro g k l hg
  unfold tabs at hg
  by_cases g0 : g = 0
  · subst g0
    simp only [Nat.beq_refl, cond_true, Option.some.injEq, Prod.mk.injEq] at hg
    obtain ⟨rfl, rfl⟩ := hg
    refine ⟨s0, fun hv => hv, fun j x hx => ?_⟩
    have hj : j < 256 := by rw [← l1]; exact (List.getElem?_eq_some_iff.1 hx).1
    have := h1 j hj
    have e := first_eq ⟨j, hj⟩
    simp only at e
    rw [e, List.getD_eq_getElem?_getD, hx] at this
    exact this
  · have hb : Nat.beq g 0 = false := by
      cases hh : Nat.beq g 0
      · rfl
      · exact absurd (Nat.eq_of_beq_eq_true hh) g0
    rw [hb, cond_false] at hg
    by_cases g1 : g = 1
    · subst g1
      simp only [Nat.beq_refl, cond_true, Option.some.injEq, Prod.mk.injEq] at hg
      obtain ⟨rfl, rfl⟩ := hg
      refine ⟨s1, fun hv => hv, fun j x hx => ?_⟩
      have hj : j < 32 := by rw [← l2]; exact (List.getElem?_eq_some_iff.1 hx).1
      have e := acc_eq ⟨j / 2, by omega⟩
      obtain ⟨q1, q2⟩ := h2 (j / 2) (by omega)
      simp only at e
      rw [e.1] at q1
      rw [e.2] at q2
      rcases Nat.mod_two_eq_zero_or_one j with hm | hm
      · have ej : 2 * (j / 2) = j := by omega
        rw [ej, List.getD_eq_getElem?_getD, hx] at q1
        exact q1
      · have ej : 2 * (j / 2) + 1 = j := by omega
        rw [ej, List.getD_eq_getElem?_getD, hx] at q2
        exact q2
    · have hb : Nat.beq g 1 = false := by
        cases hh : Nat.beq g 1
        · rfl
        · exact absurd (Nat.eq_of_beq_eq_true hh) g1
      rw [hb, cond_false] at hg
      cases hg
/-- The numbers of this program's types and tables. -/
def utRen : Ren := ⟨fun x => x, fun n => if n = 5 then 5 else if n = 119 then 66 else if n = 138 then 68 else 69, fun n => if n = 3 then 0 else 1⟩
theorem tabOk_of_laid {W : World} (hL : laidMet Tryd.prog [("unicode/utf8.acceptRanges", Rows.laid_unicode_utf8_acceptRanges), ("unicode/utf8.first", Rows.laid_unicode_utf8_first)] W) : TabOk (env0 W) := by
  have e1 : Rows.laid_unicode_utf8_first = Lib.firstData := Pinned.utf8First_eq
  have e2 : (Rows.laid_unicode_utf8_acceptRanges : DataW Unit) = Lib.acceptData := by kernel_rfl
  rw [e1, e2] at hL
  exact tabOk_of (utf8Tabs_of_readsT (P := Tryd.prog) (ρ := utRen) ⟨by kernel_rfl, by kernel_rfl, by kernel_rfl, by kernel_rfl⟩ ⟨by kernel_rfl, by kernel_rfl, by kernel_rfl, by kernel_rfl, by kernel_rfl, by kernel_rfl, by kernel_rfl⟩
    (Lib.laidMet.reads hL (.tail _ (.head _))) (Lib.laidMet.reads hL (.head _)))
end Go.Proofs.YtobjehjfdmelhabDoor.Abs
end
section
namespace Go.Proofs.YtobjehjfdmelhabDoor.cborTexts
open Go Go.ChangeShapes Go.WideShapes Go.ChangeAt Go.RowKit Go.Proofs.YtobjehjfdmelhabDoor.Abs
set_option linter.unusedVariables false
set_option linter.unusedSimpArgs false
theorem own : ownKnob Tryd.prog.godebug = none := by kernel_rfl
theorem laidOut : laidOutB Tryd.prog = true := by kernel_rfl
noncomputable def laidWorld (os : Os) : World := World.laidAll Tryd.prog os Rows.cborTextsRow.laid
theorem laid_met (os : Os) (args : Array Value) : laidMetH Tryd.prog Rows.cborTextsRow.laid ((laidWorld os).forCall (fun _ _ => 0) ⟨#[], args, []⟩).memory := by
  rw [MakeChecks.laidMetH_plain _ _ _ (by kernel_rfl)]
  exact laidMet_laidAll args (by kernel_rfl) (by kernel_rfl)
set_option maxRecDepth 100000 in
theorem lifted (os : Os) (started : os.Started) (H : Type) (enc : TypeId × Value → H) :
    ReturnsInHanded {} Tryd.checked os 7 .any (fun w args => (Rows.cborTextsSpec.pre enc Tryd.prog Tryd.f7 [] false w args ∧ laidMetH Tryd.prog Rows.cborTextsRow.laid w) ∧ sizedMet enc Tryd.prog Tryd.f7 (OpenSpec.ofChange Rows.cborTextsSpec) false w args)
      (Rows.cborTextsSpec.post enc Tryd.prog Tryd.f7 false true false false) := by
  refine returnsInHanded_of_change_and (C := Tryd.checked) (X := fun w _ => laidMetH Tryd.prog Rows.cborTextsRow.laid w) (fun _ _ _ hh h => h.of_heap hh) own started (by kernel_rfl) Tryd.func7
    (ChangeSpec.witness_shaped (enc := enc) (C := Tryd.checked) (os := os) (X := fun w _ => laidMetH Tryd.prog Rows.cborTextsRow.laid w) false (laidWorld os) #[.slice none 0 0, .int .i64 0] 8 (World.laidAll_os _ _ _) (World.shaped_of_RefB (by kernel_rfl) (by kernel_rfl)) (by kernel_rfl) (by kernel_rfl) (by kernel_rfl) (laid_met os _)) ?_
  intro W base args ds gs before hval0 hW _ _ hL _
  have hval : ∀ (j : Nat) t v, Tryd.f7.params[j]? = some t → args[j]? = some v → Value.okWide Tryd.prog W .any base t v := hval0
  have hW' := hW
  obtain ⟨p, q, hA0, hV, rfl, hfz, hnd⟩ := hW
  have hA : DataW.TrodAll enc Tryd.prog W 0 (fun _ => true) true Tryd.f7.params.toList args.toList ds p := hA0
  rw [Tryd.params7] at hA hval
  rw [MakeChecks.laidMetH_plain _ _ _ (by kernel_rfl)] at hL
  have htab : TabOk (env0 W) := tabOk_of_laid hL
  obtain ⟨v0, vs0, d0, ds0, p0, q0, hargs, rfl, rfl, h0, r0⟩ := trodAll_cons hA
  obtain ⟨v1, vs1, d1, ds1, p1, q1, rfl, rfl, rfl, h1, r1⟩ := trodAll_cons r0
  obtain ⟨rfl, rfl, rfl⟩ := trodAll_nil r1
  obtain rfl : args = #[v0, v1] := by cases args; simp_all
  obtain ⟨rfl, rfl⟩ := trodVars_none hV
  obtain ⟨a0, len0, cap0, rfl⟩ := okWide_slice Tryd.underlying43 (hval 0 43 v0 rfl rfl)
  have k0 := h0
  have lt0 : ∀ x ∈ p0, x.block < W.heap.size := by obtain ⟨m, hm⟩ := k0; exact DataW.trod_lt m _ _ _ hm
  obtain ⟨x0, w0, t0⟩ := (by obtain ⟨fuel, hf⟩ := h0; exact open_any TTok 4 fuel 43 _ _ (by kernel_rfl) hf : ∃ xs, RepL (env0 W) xs (Value.cells _).toList ∧ TyL TT 4 43 xs)
  obtain ⟨l0, rfl, b0⟩ := strs_of_slice t0
  have w0 := rep_one w0 rfl
  obtain ⟨a1, rfl, rfl, rfl, w1⟩ := open_int Tryd.underlying3 (hval 1 3 v1 rfl rfl) h1
  clear hA0 hval0
  refine (ACall.row (cborTexts_ok l0 a1 b0 (wf_i64 w1)) (by simp [pureL, pureV, pureL_bys, pureL_ints, pureL_toks, pureL_strs]) (W := W) (vals := [.slice a0 len0 cap0, .int .i64 a1]) (by simp only [RepL]; exact ⟨_, _, rfl, w0, ⟨_, _, rfl, rep_int _ _ _, rfl⟩⟩) htab).mono fun e W' ⟨he, bel⟩ => ?_
  subst he
  exact ⟨_, rfl, _, _, _, [], _, [], hW', trodAll_mk1 (shut_bool Tryd.underlying4 _), (trodAll_cons_mk (Below.trod laidOut (by kernel_rfl) (of_decide_eq_true (by kernel_rfl)) k0 bel lt0) (trodAll_cons_mk (shut_int Tryd.underlying3 w1) trodAll_mk0)), rfl, bel.frame _, fun h => by cases h⟩
theorem over : Rows.cborTextsRow.holds Tryd.pinned (OpenSpec.ofChange Rows.cborTextsSpec) :=
  OpenClaim.holds_of_wide 7 Tryd.f7 rfl rfl rfl rfl rfl rfl rfl ⟨rfl, rfl, rfl, rfl, rfl⟩ rfl rfl rfl rfl rfl (by kernel_rfl) Tryd.func7 (by kernel_rfl)
    (of_decide_eq_true (by kernel_rfl)) (by unfold Func.isWrapper; first | (rw [if_pos (by decide +kernel)]; kernel_rfl) | (rw [if_neg (by decide +kernel)]; exact ⟨rfl, rfl⟩))
    (fun os started H enc _ => lifted os started H enc)
/-- The tied card. -/
theorem card : Claim7.holds Tryd.pinned (.plain (OpenSpec.ofChange Rows.cborTextsSpec)) Rows.cborTextsCard :=
  Claim7.holds_tied_plain_at .later [] [.data, .pinned] true (true, "a8387c4bb88e1ed4b066c2297a440e9d280a4f3fb25a543b380fcf612291c486") false
    over (fun _ h => by cases h) (by kernel_rfl) (fun _ h => by cases h) cborTexts_row_tie rfl ⟨rfl, rfl⟩ (by kernel_rfl) rfl
    (fun f fn hf hfn => by
      obtain rfl : f = 7 := Option.some.inj ((show Tryd.prog.funcNamed "codicil/codicillaw10.CborTexts" = some 7 by kernel_rfl).symm.trans hf) |>.symm
      obtain rfl : fn = Tryd.f7 := (Option.some.inj (Tryd.func7.symm.trans hfn)).symm
      exact ⟨by kernel_rfl, fun j t ht => by
        rw [Tryd.params7] at ht
        have hm : t ∈ [43, 3] := by simpa using Array.mem_of_getElem? ht
        have hall : ([43, 3].all fun u => !Tryd.prog.wantsStandIn u) = true := by kernel_rfl
        exact (show Tryd.prog.wantsStandIn t = false by simpa using List.all_eq_true.1 hall t hm)⟩)
    (by kernel_rfl)
end Go.Proofs.YtobjehjfdmelhabDoor.cborTexts
namespace Go.Proofs.YtobjehjfdmelhabDoor
/-- The law CborTexts. -/
theorem cborTexts_holds : Rows.CborTextsCardSaid := cborTexts.card
end Go.Proofs.YtobjehjfdmelhabDoor
end
