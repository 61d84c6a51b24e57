/- Texts CT to X4, merged. -/
import Derived.Test.YtobjehjfdmelhabDoorRows
import Derived.Test.YtobjehjfdmelhabDoorProg
import Derived.Lib.LaidU8T
import Derived.PinnedBridge
import Derived.Test.YtobjehjfdmelhabDoorCards
import Derived.Test.YtobjehjfdmelhabDoorTie
import Derived.WalkKit
import Derived.ProofKit
import Derived.OpenShut
import Derived.ShutString
import Derived.ChangeOld
import Derived.Below
import Derived.SizedLaws
import Derived.Carry
import Derived.ChangeSlices
import Derived.LaidMore
import Derived.Stop.Joined
import Derived.SevenTiedAt
import Derived.Lay
import Derived.Test.YtobjehjfdmelhabDoorK3
section
set_option linter.unusedVariables false
set_option linter.unusedSimpArgs false
namespace Go.Proofs.YtobjehjfdmelhabDoor.Abs
open Go
def rLoop (g : Nat → Option (Nat × List Int)) (mp : Bool) : Nat → Nat → Nat → List Int → List Int → Option (Nat × List Int)
  | 0, _, at', b, _ => some (at', b)
  | n + 1, i, at', b, last =>
    match g at' with
    | none => none
    | some (a, x) =>
      if 32768 < b.length + x.length then none
      else if mp = true ∧ i % 2 = 0 then
        if 0 < i ∧ (bytesLt x last || decide (x = last)) = true then none else rLoop g mp n (i + 1) a (b ++ x) x
      else rLoop g mp n (i + 1) a (b ++ x) last
def rBad (t : Tok) : Prop := ((t.k = 3 ∨ t.k = 4) ∧ t.n ≠ 0) ∨ (¬ (t.k = 3 ∨ t.k = 4) ∧ 0 < t.b.length) ∨ t.n < 0
instance (t : Tok) : Decidable (rBad t) := by unfold rBad; infer_instance
/-- An item from a token on: where the next one is, the bytes; f: how deep arrays may still be. -/
def rItem (u : List Int → Bool) (l : List Tok) : Nat → Nat → Option (Nat × List Int)
  | f, at' =>
    if h : l.length ≤ at' then none
    else
      let t := l[at']'(by omega)
      if rBad t then none
      else if t.k = 1 then some (at' + 1, putL 0 t.n)
      else if t.k = 2 then some (at' + 1, putL 1 t.n)
      else if t.k = 3 then some (at' + 1, putL 2 t.b.length ++ t.b)
      else if t.k = 4 then if u t.b = true then some (at' + 1, putL 3 t.b.length ++ t.b) else none
      else if t.k = 5 ∨ t.k = 6 then
        match f with
        | 0 => none
        | f + 1 =>
          if 64 < t.n then none
          else if t.k = 6 then rLoop (rItem u l f) true (2 * t.n.toNat) 0 (at' + 1) (putL 5 t.n) []
          else rLoop (rItem u l f) false t.n.toNat 0 (at' + 1) (putL 4 t.n) []
      else none
theorem lt_tri : ∀ (a b : List Int), (bytesLt a b || decide (a = b)) = !bytesLt b a
  | [], [] => by simp [bytesLt]
  | [], _ :: _ => by simp [bytesLt]
  | _ :: _, [] => by simp [bytesLt]
  | x :: a, y :: b => by
    have ih := lt_tri a b
    simp only [bytesLt]
    by_cases h1 : x < y
    · have h2 : ¬ y < x := by omega
      have h3 : ¬ y = x := by omega
      simp [h1, h2, h3]
    · by_cases h2 : y < x
      · have h3 : ¬ x = y := by omega
        simp [h1, h2, h3]
      · obtain rfl : x = y := by omega
        simpa using ih
theorem cmp_ge {a b : List Int} : decide (0 ≤ cmpI a b) = !bytesLt a b := by
  unfold cmpI
  cases bytesLt a b with
  | true => simp
  | false => by_cases h : a = b <;> simp [h]
/-- What a loop goes over. -/
theorem rLoop_grow {g : Nat → Option (Nat × List Int)} {mp : Bool} : ∀ (n i at' : Nat) (b last : List Int) (a : Nat) (bs : List Int), rLoop g mp n i at' b last = some (a, bs) → b <+: bs
  | 0, i, at', b, last, a, bs, h => by
    simp only [rLoop, Option.some.injEq, Prod.mk.injEq] at h
    rw [h.2]
    exact List.prefix_refl _
  | n + 1, i, at', b, last, a, bs, h => by
    unfold rLoop at h
    split at h
    · cases h
    rename_i a' x hg
    split at h
    · cases h
    split at h
    · split at h
      · cases h
      · exact (List.prefix_append _ _).trans (rLoop_grow n _ _ _ _ _ _ h)
    · exact (List.prefix_append _ _).trans (rLoop_grow n _ _ _ _ _ _ h)
/-- A step of the writer that does what a step of the reckoning does. -/
def Fits (W' : W → W) (g : Nat → Option (Nat × List Int)) : Prop :=
  ∀ (at' : Nat) (out : List Int) (a : Nat) (bs : List Int), g at' = some (a, bs) → out.length + bs.length ≤ 32768 → W' ⟨at', out, false⟩ = ⟨a, out ++ bs, false⟩
theorem arr_fits {w : W → W} {g : Nat → Option (Nat × List Int)} (H : Fits w g) : ∀ (n i at' : Nat) (out b last : List Int) (a : Nat) (bs : List Int), rLoop g false n i at' b last = some (a, bs) → out.length + bs.length ≤ 32768 →
    wArr w n ⟨at', out ++ b, false⟩ = ⟨a, out ++ bs, false⟩
  | 0, i, at', out, b, last, a, bs, h, hl => by
    simp only [rLoop, Option.some.injEq, Prod.mk.injEq] at h
    rw [h.1, h.2]
    rfl
  | n + 1, i, at', out, b, last, a, bs, h, hl => by
    unfold rLoop at h
    split at h
    · cases h
    rename_i a' x hg
    split at h
    · cases h
    rw [if_neg (by simp)] at h
    have hp := (rLoop_grow _ _ _ _ _ _ _ h).length_le
    simp only [List.length_append] at hp
    have e := H at' (out ++ b) a' x hg (by simp; omega)
    rw [wArr, if_neg (by simp), e, List.append_assoc]
    exact arr_fits H n _ _ out (b ++ x) last a bs h hl
theorem map_fits {w : W → W} {g : Nat → Option (Nat × List Int)} (H : Fits w g) : ∀ (n i at' : Nat) (out b last : List Int) (from' to' : Nat) (a : Nat) (bs : List Int), rLoop g true (2 * n) (2 * i) at' b last = some (a, bs) → out.length + bs.length ≤ 32768 →
    (0 < i → to' ≤ (out ++ b).length ∧ last = ((out ++ b).drop from').take (to' - from')) → wMap w n i from' to' ⟨at', out ++ b, false⟩ = ⟨a, out ++ bs, false⟩
  | 0, i, at', out, b, last, from', to', a, bs, h, hl, _ => by
    simp only [Nat.mul_zero, rLoop, Option.some.injEq, Prod.mk.injEq] at h
    rw [h.1, h.2]
    rfl
  | n + 1, i, at', out, b, last, from', to', a, bs, h, hl, hk => by
    rw [show 2 * (n + 1) = 2 * n + 1 + 1 by omega] at h
    unfold rLoop at h
    split at h
    · cases h
    rename_i a' x hg
    split at h
    · cases h
    rw [if_pos ⟨rfl, by omega⟩] at h
    split at h
    · cases h
    rename_i hlt
    unfold rLoop at h
    split at h
    · cases h
    rename_i a2 y hg2
    split at h
    · cases h
    rw [if_neg (by omega)] at h
    have hp := (rLoop_grow _ _ _ _ _ _ _ h).length_le
    simp only [List.length_append] at hp
    have e := H at' (out ++ b) a' x hg (by simp; omega)
    have e2 := H a' (out ++ b ++ x) a2 y hg2 (by simp; omega)
    have hcond : ¬ (((w ⟨at', out ++ b, false⟩).bad || (decide (0 < i) && decide (0 ≤ cmpI (((w ⟨at', out ++ b, false⟩).out.drop from').take (to' - from')) ((w ⟨at', out ++ b, false⟩).out.drop (out ++ b).length)))) = true) := by
      rw [e]
      simp only [Bool.false_or]
      by_cases hi : 0 < i
      · obtain ⟨k1, k2⟩ := hk hi
        have d1 : ((out ++ b ++ x).drop from').take (to' - from') = last := by
          rw [k2]
          by_cases hf : from' ≤ (out ++ b).length
          · rw [List.drop_append_of_le_length hf, List.take_append_of_le_length (by simp; simp at k1; omega)]
          · rw [show to' - from' = 0 by omega]; simp
        have d2 : (out ++ b ++ x).drop (out ++ b).length = x := by simp
        rw [d1, d2, cmp_ge]
        have : ¬ (bytesLt x last || decide (x = last)) = true := fun hh => hlt ⟨by omega, hh⟩
        rw [lt_tri] at this
        simpa [hi] using this
      · simp [hi]
    rw [wMap, if_neg (by simp), if_neg hcond, e, e2]
    have hout : out ++ b ++ x ++ y = out ++ (b ++ x ++ y) := by simp [List.append_assoc]
    simp only
    rw [hout]
    refine map_fits H n (i + 1) a2 out (b ++ x ++ y) x _ _ a bs (by rw [show 2 * (i + 1) = 2 * i + 1 + 1 by omega]; exact h) hl (fun _ => ⟨?_, ?_⟩)
    · simp
    · rw [show out ++ (b ++ x ++ y) = out ++ b ++ (x ++ y) by simp [List.append_assoc], List.drop_left, show (out ++ b ++ x).length - (out ++ b).length = x.length by simp; omega]
      simp
theorem wHead_yes {M n : Int} (hM : 0 ≤ M ∧ M < 8) (hn : 0 ≤ n) (at' : Nat) (out : List Int) : wHead M n ⟨at', out, false⟩ = ⟨at', out ++ putL M n, false⟩ := by
  simp only [wHead, putS]
  rw [if_neg (by omega)]
  simp
theorem item_fits1 (u : List Int → Bool) (l : List Tok) (f : Nat) (ih : ∀ f', f = f' + 1 → Fits (wItem u l f') (rItem u l f')) : Fits (wItem u l f) (rItem u l f) := by
    intro at' out a bs h hl
    unfold rItem at h
    split at h
    · cases h
    rename_i hat
    simp only at h
    split at h
    · cases h
    rename_i hbad
    have hat' : at' < l.length := by omega
    have hb : ∀ t : Tok, ¬ rBad t → (t.k = 3 ∨ t.k = 4 → t.n = 0) ∧ (¬ (t.k = 3 ∨ t.k = 4) → t.b = []) ∧ 0 ≤ t.n := by
      intro t ht
      simp only [rBad] at ht
      exact ⟨by omega, fun hk => List.length_eq_zero_iff.1 (by omega), by omega⟩
    obtain ⟨hb1, hb2, hb3⟩ := hb _ hbad
    unfold wItem
    rw [dif_neg (show ¬ (l.length ≤ (⟨at', out, false⟩ : W).at' ∨ 32768 < (⟨at', out, false⟩ : W).out.length) by simp only; omega)]
    simp only
    split at h
    · rename_i k1
      rw [if_pos k1]
      simp only [Option.some.injEq, Prod.mk.injEq] at h
      obtain ⟨rfl, rfl⟩ := h
      rw [wNumber, hb2 (by omega)]
      simp only [List.length_nil, Int.natCast_zero, Int.lt_irrefl, decide_false, Bool.or_false]
      exact wHead_yes (by omega) hb3 _ _
    rename_i k1; rw [if_neg k1]
    split at h
    · rename_i k2
      rw [if_pos k2]
      simp only [Option.some.injEq, Prod.mk.injEq] at h
      obtain ⟨rfl, rfl⟩ := h
      rw [wNumber, hb2 (by omega)]
      simp only [List.length_nil, Int.natCast_zero, Int.lt_irrefl, decide_false, Bool.or_false]
      exact wHead_yes (by omega) hb3 _ _
    rename_i k2; rw [if_neg k2]
    split at h
    · rename_i k3
      rw [if_pos (.inl k3)]
      simp only [Option.some.injEq, Prod.mk.injEq] at h
      obtain ⟨rfl, rfl⟩ := h
      simp only [List.length_append] at hl
      have n4 : ¬ l[at'].k = 4 := by omega
      rw [wBytes, if_neg (by simp [n4, hb1 (.inl k3)]; omega), if_neg n4]
      rw [wHead_yes (by omega) (by omega)]
      simp
    rename_i k3
    split at h
    · rename_i k4
      rw [if_pos (.inr k4)]
      split at h
      case isFalse => cases h
      rename_i hu
      simp only [Option.some.injEq, Prod.mk.injEq] at h
      obtain ⟨rfl, rfl⟩ := h
      simp only [List.length_append] at hl
      rw [wBytes, if_neg (by simp [k4, hu, hb1 (.inr k4)]; omega), if_pos k4]
      rw [wHead_yes (by omega) (by omega)]
      simp
    rename_i k4
    rw [if_neg (by omega)]
    split at h
    case isFalse => cases h
    rename_i k5
    rw [if_pos k5]
    cases f with
    | zero => cases h
    | succ f =>
      simp only at h ⊢
      split at h
      · cases h
      rename_i hn
      rw [if_neg (by simp [wManyBad, hb2 (by omega)]; omega)]
      have ih := ih f rfl
      split at h
      · rename_i k6
        rw [if_neg (by omega), wHead_yes (by omega) hb3]
        exact map_fits ih _ 0 _ out _ [] 0 0 a bs h hl (fun hh => absurd hh (by omega))
      · rename_i k6
        rw [if_pos (by omega), wHead_yes (by omega) hb3]
        exact arr_fits ih _ 0 _ out _ [] a bs h hl
theorem item_fits (u : List Int → Bool) (l : List Tok) : ∀ f : Nat, Fits (wItem u l f) (rItem u l f)
  | 0 => item_fits1 u l 0 (fun f' h => by omega)
  | f + 1 => item_fits1 u l (f + 1) (fun f' h => by obtain rfl : f = f' := by omega
                                                    exact item_fits u l f)
/-- And the other way round. -/
def Back (W' : W → W) (g : Nat → Option (Nat × List Int)) : Prop :=
  ∀ (w : W), (W' w).bad = false → (W' w).out.length ≤ 32768 → ∃ bs, (W' w).out = w.out ++ bs ∧ g w.at' = some ((W' w).at', bs)
theorem arr_back {w : W → W} {g : Nat → Option (Nat × List Int)} (hm : Mono w) (H : Back w g) : ∀ (n i : Nat) (v : W) (out b last : List Int), v.out = out ++ b → (wArr w n v).bad = false → (wArr w n v).out.length ≤ 32768 →
    ∃ bs, (wArr w n v).out = out ++ bs ∧ rLoop g false n i v.at' b last = some ((wArr w n v).at', bs)
  | 0, i, v, out, b, last, hv, h1, h2 => ⟨b, hv, rfl⟩
  | n + 1, i, v, out, b, last, hv, h1, h2 => by
    have hb := (wArr_mono w hm (n + 1) v h1).1
    rw [wArr, if_neg (by simp [hb])] at h1 h2 ⊢
    obtain ⟨k1, k2⟩ := wArr_mono w hm n _ h1
    have k3 := k2.length_le
    obtain ⟨x, hx, hg⟩ := H v k1 (by omega)
    obtain ⟨bs, e1, e2⟩ := arr_back hm H n (i + 1) (w v) out (b ++ x) last (by rw [hx, hv, List.append_assoc]) h1 h2
    refine ⟨bs, e1, ?_⟩
    rw [hx, hv] at k3
    simp only [List.length_append] at k3
    unfold rLoop
    rw [hg]
    simp only
    rw [if_neg (by omega), if_neg (by simp)]
    exact e2
theorem map_back {w : W → W} {g : Nat → Option (Nat × List Int)} (hm : Mono w) (H : Back w g) : ∀ (n i : Nat) (v : W) (out b last : List Int) (from' to' : Nat), v.out = out ++ b →
    (0 < i → to' ≤ (out ++ b).length ∧ last = ((out ++ b).drop from').take (to' - from')) → (wMap w n i from' to' v).bad = false → (wMap w n i from' to' v).out.length ≤ 32768 →
    ∃ bs, (wMap w n i from' to' v).out = out ++ bs ∧ rLoop g true (2 * n) (2 * i) v.at' b last = some ((wMap w n i from' to' v).at', bs)
  | 0, i, v, out, b, last, from', to', hv, hk, h1, h2 => ⟨b, hv, rfl⟩
  | n + 1, i, v, out, b, last, from', to', hv, hk, h1, h2 => by
    have hb := (wMap_mono w hm (n + 1) i from' to' v h1).1
    rw [wMap, if_neg (by simp [hb])] at h1 h2 ⊢
    split at h1
    · simp at h1
    rename_i hc
    rw [if_neg hc] at h2 ⊢
    obtain ⟨k1, k2⟩ := wMap_mono w hm n _ _ _ _ h1
    obtain ⟨k3, k4⟩ := hm _ k1
    have k5 := k2.length_le
    have k6 := k4.length_le
    obtain ⟨x, hx, hg⟩ := H v k3 (by omega)
    obtain ⟨y, hy, hg2⟩ := H (w v) k1 (by omega)
    have hvl : v.out.length = (out ++ b).length := by rw [hv]
    obtain ⟨bs, e1, e2⟩ := map_back hm H n (i + 1) (w (w v)) out (b ++ x ++ y) x v.out.length (w v).out.length (by rw [hy, hx, hv]; simp [List.append_assoc]) (fun _ => ⟨by rw [hx, hv]; simp, by
      rw [hx, hv, show out ++ (b ++ x ++ y) = out ++ b ++ (x ++ y) by simp [List.append_assoc], List.drop_left, show (out ++ b ++ x).length - (out ++ b).length = x.length by simp; omega]
      simp⟩) h1 h2
    refine ⟨bs, e1, ?_⟩
    have hlt : ¬ (0 < 2 * i ∧ (bytesLt x last || decide (x = last)) = true) := by
      rintro ⟨q1, q2⟩
      obtain ⟨p1, p2⟩ := hk (by omega)
      apply hc
      rw [k3, Bool.false_or, hx, hv]
      have d1 : ((out ++ b ++ x).drop from').take (to' - from') = last := by
        rw [p2]
        by_cases hf : from' ≤ (out ++ b).length
        · rw [List.drop_append_of_le_length hf, List.take_append_of_le_length (by simp; simp at p1; omega)]
        · rw [show to' - from' = 0 by omega]; simp
      have d2 : (out ++ b ++ x).drop (out ++ b).length = x := by simp
      rw [d1, d2, cmp_ge]
      rw [lt_tri] at q2
      simp only [Bool.not_eq_true'] at q2
      simp [q2]
      omega
    have k7 : (w (w v)).out.length ≤ 32768 := by omega
    rw [hy, hx, hv] at k7
    simp only [List.length_append] at k7
    rw [show 2 * (n + 1) = 2 * n + 1 + 1 by omega]
    unfold rLoop
    rw [hg]
    simp only
    rw [if_neg (by omega), if_pos ⟨trivial, by omega⟩, if_neg hlt]
    unfold rLoop
    rw [hg2]
    simp only
    rw [if_neg (by simp; omega), if_neg (by omega)]
    rw [show 2 * i + 1 + 1 = 2 * (i + 1) by omega]
    exact e2
theorem item_back1 (u : List Int → Bool) (l : List Tok) (f : Nat) (ih : ∀ f', f = f' + 1 → Back (wItem u l f') (rItem u l f')) : Back (wItem u l f) (rItem u l f) := by
    intro w h hl
    have hw := (wItem_mono u l f w h).1
    obtain ⟨at', out, bad⟩ := w
    simp only at hw
    subst hw
    unfold wItem at h hl ⊢
    split at h
    · simp at h
    rename_i hh
    rw [dif_neg hh] at hl ⊢
    simp only at hh h hl ⊢
    have hat : ¬ l.length ≤ at' := by omega
    unfold rItem
    rw [dif_neg hat]
    simp only
    have num : ∀ (M : Int) (t : Tok), 0 ≤ M ∧ M < 8 → ¬ (t.k = 3 ∨ t.k = 4) → (wNumber M t ⟨at' + 1, out, false⟩).bad = false → ¬ rBad t ∧ wNumber M t ⟨at' + 1, out, false⟩ = ⟨at' + 1, out ++ putL M t.n, false⟩ := by
      intro M t hM hk hn
      unfold wNumber at hn ⊢
      obtain ⟨q1, q2, q3⟩ := wHead_ok hn hM
      simp only [Bool.false_or, decide_eq_false_iff_not] at q3
      refine ⟨by simp only [rBad]; omega, by rw [q2]⟩
    split at h
    · rename_i k1
      rw [if_pos k1] at hl ⊢
      obtain ⟨q1, q2⟩ := num 0 _ (by omega) (by omega) h
      rw [q2, if_neg q1, if_pos k1]
      exact ⟨_, rfl, rfl⟩
    rename_i k1; rw [if_neg k1] at hl ⊢
    split at h
    · rename_i k2
      rw [if_pos k2] at hl ⊢
      obtain ⟨q1, q2⟩ := num 1 _ (by omega) (by omega) h
      rw [q2, if_neg q1, if_neg k1, if_pos k2]
      exact ⟨_, rfl, rfl⟩
    rename_i k2; rw [if_neg k2] at hl ⊢
    split at h
    · rename_i k3
      rw [if_pos k3] at hl ⊢
      obtain ⟨q1, q2, q3, q4⟩ := wBytes_ok h
      have nb : ¬ rBad l[at'] := by simp only [rBad]; omega
      rw [q4, if_neg nb, if_neg k1, if_neg k2]
      by_cases k4 : l[at'].k = 4
      · rw [if_neg (show ¬ l[at'].k = 3 by omega), if_pos k4, if_pos k4, if_pos (q3 k4)]
        exact ⟨_, by simp, rfl⟩
      · rw [if_pos (show l[at'].k = 3 by omega), if_neg k4]
        exact ⟨_, by simp, rfl⟩
    rename_i k3; rw [if_neg k3] at hl ⊢
    split at h
    case isFalse => simp at h
    rename_i k5
    rw [if_pos k5] at hl ⊢
    cases f with
    | zero => simp at h
    | succ f =>
      simp only at h hl ⊢
      split at h
      · simp at h
      rename_i hb
      rw [if_neg hb] at hl ⊢
      have ih := ih f rfl
      have hmo := wItem_mono u l f
      have hb' : l[at'].b.length = 0 ∧ 0 ≤ l[at'].n ∧ ¬ 64 < l[at'].n := by
        simp only [wManyBad, Bool.or_eq_true, decide_eq_true_eq, not_or] at hb
        omega
      have nb : ¬ rBad l[at'] := by simp only [rBad]; omega
      rw [if_neg nb, if_neg k1, if_neg k2, if_neg (show ¬ l[at'].k = 3 by omega), if_neg (show ¬ l[at'].k = 4 by omega), if_pos k5, if_neg hb'.2.2]
      split at h
      · rename_i k6
        rw [if_pos k6] at hl ⊢
        rw [if_neg (show ¬ l[at'].k = 6 by omega)]
        rw [wHead_yes (by omega) hb'.2.1] at h hl ⊢
        exact arr_back hmo ih _ 0 _ out _ [] rfl h hl
      · rename_i k6
        rw [if_neg k6] at hl ⊢
        rw [if_pos (show l[at'].k = 6 by omega)]
        rw [wHead_yes (by omega) hb'.2.1] at h hl ⊢
        exact map_back hmo ih _ 0 _ out _ [] 0 0 rfl (fun hh => absurd hh (by omega)) h hl
theorem item_back (u : List Int → Bool) (l : List Tok) : ∀ f : Nat, Back (wItem u l f) (rItem u l f)
  | 0 => item_back1 u l 0 (fun f' h => by omega)
  | f + 1 => item_back1 u l (f + 1) (fun f' h => by obtain rfl : f = f' := by omega
                                                    exact item_back u l f)
/-- What a row's bytes are, by the reckoning. -/
theorem encR_iff (u : List Int → Bool) (l : List Tok) (a : List Int) : encR u l = (a, 0) ↔ l.length ≤ 600 ∧ rItem u l 6 0 = some (l.length, a) ∧ a.length ≤ 32768 := by
  constructor
  · intro h
    obtain ⟨h1, h2, h3⟩ := encR_yes h
    obtain ⟨bs, e1, e2⟩ := item_back u l 6 ⟨0, [], false⟩ (by rw [h2]) (by rw [h2]; exact h3)
    rw [h2] at e1 e2
    simp only [List.nil_append] at e1
    subst e1
    exact ⟨h1, e2, h3⟩
  · rintro ⟨h1, h2, h3⟩
    have := item_fits u l 6 0 [] l.length a h2 (by simpa using h3)
    unfold encR
    rw [if_neg (by omega), this]
    simp
    omega
end Go.Proofs.YtobjehjfdmelhabDoor.Abs
end
section
set_option linter.unusedVariables false
set_option linter.unusedSimpArgs false
namespace Go.Proofs.YtobjehjfdmelhabDoor.Abs
open Go
def shf (p : Nat) (r : Nat × List Int) : Nat × List Int := (p + r.1, r.2)
theorem rLoop_shift {g g' : Nat → Option (Nat × List Int)} {mp : Bool} {p : Nat} (H : ∀ k, g' (p + k) = (g k).map (shf p)) : ∀ (n i at' : Nat) (b last : List Int), rLoop g' mp n i (p + at') b last = (rLoop g mp n i at' b last).map (shf p)
  | 0, i, at', b, last => rfl
  | n + 1, i, at', b, last => by
    unfold rLoop
    rw [H at']
    cases hg : g at' with
    | none => rfl
    | some r =>
      obtain ⟨a, x⟩ := r
      simp only [Option.map_some, shf]
      split
      · rfl
      split
      · split
        · rfl
        · exact rLoop_shift H n _ _ _ _
      · exact rLoop_shift H n _ _ _ _
theorem rLoop_imp {g g' : Nat → Option (Nat × List Int)} {mp : Bool} (H : ∀ k r, g k = some r → g' k = some r) : ∀ (n i at' : Nat) (b last : List Int) (r : Nat × List Int), rLoop g mp n i at' b last = some r → rLoop g' mp n i at' b last = some r
  | 0, i, at', b, last, r, h => h
  | n + 1, i, at', b, last, r, h => by
    unfold rLoop at h ⊢
    split at h
    · cases h
    rename_i a x hg
    rw [H _ _ hg]
    simp only
    split at h
    · cases h
    rename_i h1
    rw [if_neg h1]
    split at h
    · rename_i h2
      rw [if_pos h2]
      split at h
      · cases h
      · rename_i h3
        rw [if_neg h3]
        exact rLoop_imp H n _ _ _ _ _ h
    · rename_i h2
      rw [if_neg h2]
      exact rLoop_imp H n _ _ _ _ _ h
theorem rLoop_split {g : Nat → Option (Nat × List Int)} {mp : Bool} (m : Nat) : ∀ (n i at' : Nat) (b last : List Int) (r : Nat × List Int), rLoop g mp (n + m) i at' b last = some r →
    ∃ a' b' last', rLoop g mp n i at' b last = some (a', b') ∧ rLoop g mp m (i + n) a' b' last' = some r
  | 0, i, at', b, last, r, h => ⟨at', b, last, rfl, by rw [Nat.zero_add] at h; exact h⟩
  | n + 1, i, at', b, last, r, h => by
    rw [show n + 1 + m = n + m + 1 by omega] at h
    unfold rLoop at h
    split at h
    · cases h
    rename_i a x hg
    split at h
    · cases h
    rename_i h1
    rw [show i + (n + 1) = i + 1 + n by omega]
    split at h
    · rename_i h2
      split at h
      · cases h
      · rename_i h3
        obtain ⟨a', b', l', k1, k2⟩ := rLoop_split m n _ _ _ _ _ h
        refine ⟨a', b', l', ?_, k2⟩
        unfold rLoop
        rw [hg]
        simp only
        rw [if_neg h1, if_pos h2, if_neg h3]
        exact k1
    · rename_i h2
      obtain ⟨a', b', l', k1, k2⟩ := rLoop_split m n _ _ _ _ _ h
      refine ⟨a', b', l', ?_, k2⟩
      unfold rLoop
      rw [hg]
      simp only
      rw [if_neg h1, if_neg h2]
      exact k1
/-- On goes every step. -/
def Gos (g : Nat → Option (Nat × List Int)) (L : Nat) : Prop := ∀ k a x, g k = some (a, x) → k < a ∧ a ≤ L ∧ 0 < x.length
theorem rLoop_go {g : Nat → Option (Nat × List Int)} {mp : Bool} {L : Nat} (H : Gos g L) : ∀ (n i at' : Nat) (b last : List Int) (a : Nat) (bs : List Int), rLoop g mp n i at' b last = some (a, bs) → at' + n ≤ a ∧ (at' ≤ L → a ≤ L) ∧ b.length + n ≤ bs.length
  | 0, i, at', b, last, a, bs, h => by
    simp only [rLoop, Option.some.injEq, Prod.mk.injEq] at h
    rw [h.1, h.2]
    exact ⟨Nat.le_refl _, fun h => h, Nat.le_refl _⟩
  | n + 1, i, at', b, last, a, bs, h => by
    unfold rLoop at h
    split at h
    · cases h
    rename_i a1 x hg
    obtain ⟨q1, q2, q3⟩ := H _ _ _ hg
    have fin : ∀ lst, rLoop g mp n (i + 1) a1 (b ++ x) lst = some (a, bs) → at' + (n + 1) ≤ a ∧ (at' ≤ L → a ≤ L) ∧ b.length + (n + 1) ≤ bs.length := by
      intro lst hh
      obtain ⟨p1, p2, p3⟩ := rLoop_go H n _ _ _ _ _ _ hh
      simp only [List.length_append] at p3
      exact ⟨by omega, fun _ => p2 q2, by omega⟩
    split at h
    · cases h
    split at h
    · split at h
      · cases h
      · exact fin _ h
    · exact fin _ h
theorem putL_pos (M n : Int) : 0 < (putL M n).length := by simp [putL]
theorem rItem_go (u : List Int → Bool) (l : List Tok) : ∀ f : Nat, Gos (rItem u l f) l.length
  | 0 => fun k a x h => by
    unfold rItem at h
    split at h
    · cases h
    simp only at h
    have p0 := putL_pos
    split at h
    · cases h
    split at h
    · simp only [Option.some.injEq, Prod.mk.injEq] at h; obtain ⟨rfl, rfl⟩ := h; exact ⟨by omega, by omega, p0 _ _⟩
    split at h
    · simp only [Option.some.injEq, Prod.mk.injEq] at h; obtain ⟨rfl, rfl⟩ := h; exact ⟨by omega, by omega, p0 _ _⟩
    split at h
    · simp only [Option.some.injEq, Prod.mk.injEq] at h; obtain ⟨rfl, rfl⟩ := h; exact ⟨by omega, by omega, by simp only [List.length_append]; have := p0 2 (l[k].b.length : Int); omega⟩
    split at h
    · split at h
      · simp only [Option.some.injEq, Prod.mk.injEq] at h; obtain ⟨rfl, rfl⟩ := h; exact ⟨by omega, by omega, by simp only [List.length_append]; have := p0 3 (l[k].b.length : Int); omega⟩
      · cases h
    split at h
    · cases h
    · cases h
  | f + 1 => fun k a x h => by
    unfold rItem at h
    split at h
    · cases h
    simp only at h
    have p0 := putL_pos
    split at h
    · cases h
    split at h
    · simp only [Option.some.injEq, Prod.mk.injEq] at h; obtain ⟨rfl, rfl⟩ := h; exact ⟨by omega, by omega, p0 _ _⟩
    split at h
    · simp only [Option.some.injEq, Prod.mk.injEq] at h; obtain ⟨rfl, rfl⟩ := h; exact ⟨by omega, by omega, p0 _ _⟩
    split at h
    · simp only [Option.some.injEq, Prod.mk.injEq] at h; obtain ⟨rfl, rfl⟩ := h; exact ⟨by omega, by omega, by simp only [List.length_append]; have := p0 2 (l[k].b.length : Int); omega⟩
    split at h
    · split at h
      · simp only [Option.some.injEq, Prod.mk.injEq] at h; obtain ⟨rfl, rfl⟩ := h; exact ⟨by omega, by omega, by simp only [List.length_append]; have := p0 3 (l[k].b.length : Int); omega⟩
      · cases h
    split at h
    · split at h
      · cases h
      have ih := rItem_go u l f
      split at h
      · obtain ⟨q1, q2, q3⟩ := rLoop_go ih _ _ _ _ _ _ _ h
        exact ⟨by omega, q2 (by omega), by have := p0 5 l[k].n; omega⟩
      · obtain ⟨q1, q2, q3⟩ := rLoop_go ih _ _ _ _ _ _ _ h
        exact ⟨by omega, q2 (by omega), by have := p0 4 l[k].n; omega⟩
    · cases h
/-- What an item is, of its token and of what stands behind. -/
def rTok (u : List Int → Bool) (g : Nat → Option (Nat × List Int)) (z : Bool) (t : Tok) (k : Nat) : Option (Nat × List Int) :=
  if rBad t then none
  else if t.k = 1 then some (k, putL 0 t.n)
  else if t.k = 2 then some (k, putL 1 t.n)
  else if t.k = 3 then some (k, putL 2 t.b.length ++ t.b)
  else if t.k = 4 then if u t.b = true then some (k, putL 3 t.b.length ++ t.b) else none
  else if t.k = 5 ∨ t.k = 6 then
    if z = true then none
    else if 64 < t.n then none
    else if t.k = 6 then rLoop g true (2 * t.n.toNat) 0 k (putL 5 t.n) []
    else rLoop g false t.n.toNat 0 k (putL 4 t.n) []
  else none
def rSub (u : List Int → Bool) (l : List Tok) : Nat → Nat → Option (Nat × List Int)
  | 0 => fun _ => none
  | f + 1 => rItem u l f
theorem rItem_tok (u : List Int → Bool) (l : List Tok) (f k : Nat) (hk : k < l.length) : rItem u l f k = rTok u (rSub u l f) (decide (f = 0)) l[k] (k + 1) := by
  cases f with
  | zero =>
    unfold rItem rTok rSub
    rw [dif_neg (by omega)]
    simp
  | succ f =>
    unfold rItem rTok rSub
    rw [dif_neg (by omega)]
    simp
theorem rItem_none (u : List Int → Bool) (l : List Tok) (f k : Nat) (hk : l.length ≤ k) : rItem u l f k = none := by
  unfold rItem
  rw [dif_pos hk]
theorem rTok_shift {u : List Int → Bool} {g g' : Nat → Option (Nat × List Int)} {z : Bool} {p : Nat} (H : ∀ k, g' (p + k) = (g k).map (shf p)) (t : Tok) (k : Nat) : rTok u g' z t (p + k) = (rTok u g z t k).map (shf p) := by
  unfold rTok
  split
  · rfl
  split
  · rfl
  split
  · rfl
  split
  · rfl
  split
  · split <;> rfl
  split
  · split
    · rfl
    split
    · rfl
    split
    · exact rLoop_shift H _ _ _ _ _
    · exact rLoop_shift H _ _ _ _ _
  · rfl
theorem rTok_imp {u : List Int → Bool} {g g' : Nat → Option (Nat × List Int)} {z z' : Bool} (hz : z' = true → z = true) (H : ∀ k r, g k = some r → g' k = some r) (t : Tok) (k : Nat) (r : Nat × List Int) (h : rTok u g z t k = some r) : rTok u g' z' t k = some r := by
  unfold rTok at h ⊢
  split at h
  · cases h
  rename_i h0; rw [if_neg h0]
  split at h
  · rename_i h1; rw [if_pos h1]; exact h
  rename_i h1; rw [if_neg h1]
  split at h
  · rename_i h2; rw [if_pos h2]; exact h
  rename_i h2; rw [if_neg h2]
  split at h
  · rename_i h3; rw [if_pos h3]; exact h
  rename_i h3; rw [if_neg h3]
  split at h
  · rename_i h4; rw [if_pos h4]; exact h
  rename_i h4; rw [if_neg h4]
  split at h
  · rename_i h5
    rw [if_pos h5]
    split at h
    · cases h
    rename_i h6
    rw [if_neg (fun e => h6 (hz e))]
    split at h
    · cases h
    rename_i h7
    rw [if_neg h7]
    split at h
    · rename_i h8; rw [if_pos h8]; exact rLoop_imp H _ _ _ _ _ _ h
    · rename_i h8; rw [if_neg h8]; exact rLoop_imp H _ _ _ _ _ _ h
  · cases h
theorem rItem_shift (u : List Int → Bool) (pre l : List Tok) : ∀ (f k : Nat), rItem u (pre ++ l) f (pre.length + k) = (rItem u l f k).map (shf pre.length)
  | f, k => by
    by_cases hk : k < l.length
    · rw [rItem_tok u (pre ++ l) f (pre.length + k) (by simp; omega), rItem_tok u l f k hk]
      have e : (pre ++ l)[pre.length + k]'(by simp; omega) = l[k] := by simp [List.getElem_append_right]
      rw [e, show pre.length + k + 1 = pre.length + (k + 1) by omega]
      cases f with
      | zero => exact rTok_shift (fun k => rfl) _ _
      | succ f => exact rTok_shift (fun k => rItem_shift u pre l f k) _ _
    · rw [rItem_none _ _ _ _ (by simp; omega), rItem_none _ _ _ _ (by omega)]
      rfl
theorem rItem_ext (u : List Int → Bool) (l q : List Tok) : ∀ (f k : Nat) (r : Nat × List Int), rItem u l f k = some r → rItem u (l ++ q) f k = some r
  | f, k, r, h => by
    by_cases hk : k < l.length
    · rw [rItem_tok u l f k hk] at h
      rw [rItem_tok u (l ++ q) f k (by simp; omega)]
      have e : (l ++ q)[k]'(by simp; omega) = l[k] := by simp [List.getElem_append_left, hk]
      rw [e]
      cases f with
      | zero => exact rTok_imp (fun h => h) (fun k r h => h) _ _ _ h
      | succ f => exact rTok_imp (fun h => h) (fun k r h => rItem_ext u l q f k r h) _ _ _ h
    · rw [rItem_none _ _ _ _ (by omega)] at h
      cases h
theorem rItem_deep (u : List Int → Bool) (l : List Tok) : ∀ (f k : Nat) (r : Nat × List Int), rItem u l f k = some r → rItem u l (f + 1) k = some r
  | f, k, r, h => by
    by_cases hk : k < l.length
    · rw [rItem_tok u l f k hk] at h
      rw [rItem_tok u l (f + 1) k hk]
      cases f with
      | zero => exact rTok_imp (fun h => by simp at h) (fun k r h => by cases h) _ _ _ h
      | succ f => exact rTok_imp (fun h => by simp at h) (fun k r h => rItem_deep u l f k r h) _ _ _ h
    · rw [rItem_none _ _ _ _ (by omega)] at h
      cases h
/-- An array of three: its head, and theirs. -/
theorem inside3 {u : List Int → Bool} {a b c : List Tok} {x y z s : List Int} (ha : encR u a = (x, 0)) (hb : encR u b = (y, 0)) (hc : encR u c = (z, 0)) (h : encR u ([⟨5, 3, []⟩] ++ a ++ b ++ c) = (s, 0)) : s = [131] ++ x ++ y ++ z := by
  rw [encR_iff] at ha hb hc h
  obtain ⟨_, ha, _⟩ := ha
  obtain ⟨_, hb, _⟩ := hb
  obtain ⟨_, hc, _⟩ := hc
  obtain ⟨_, h, _⟩ := h
  have place : ∀ (pre l post : List Tok) (w : List Int), rItem u l 6 0 = some (l.length, w) → ∀ r, rItem u (pre ++ l ++ post) 5 pre.length = some r → r = (pre.length + l.length, w) := by
    intro pre l post w hw r hr
    have h1 := rItem_ext u (pre ++ l) post 6 pre.length (pre.length + l.length, w) (by
      have := rItem_shift u pre l 6 0
      rw [hw] at this
      simpa [shf] using this)
    have h2 := rItem_deep _ _ _ _ _ hr
    rw [h1] at h2
    exact (Option.some.inj h2).symm
  rw [rItem_tok _ _ _ _ (by simp)] at h
  have e0 : ([⟨5, 3, []⟩] ++ a ++ b ++ c : List Tok)[0]'(by simp) = ⟨5, 3, []⟩ := by simp
  rw [e0] at h
  have ep : putL 4 3 = [131] := by decide
  unfold rTok rSub at h
  rw [if_neg (by simp [rBad]), if_neg (by simp), if_neg (by simp), if_neg (by simp), if_neg (by simp), if_pos (by simp), if_neg (by simp), if_neg (by simp), if_neg (by simp)] at h
  simp only [ep, show (3 : Int).toNat = 3 from rfl] at h
  unfold rLoop at h
  split at h
  · cases h
  rename_i a1 x1 h1
  split at h
  · cases h
  rw [if_neg (by simp)] at h
  unfold rLoop at h
  split at h
  · cases h
  rename_i a2 x2 h2
  split at h
  · cases h
  rw [if_neg (by simp)] at h
  unfold rLoop at h
  split at h
  · cases h
  rename_i a3 x3 h3
  split at h
  · cases h
  rw [if_neg (by simp)] at h
  simp only [rLoop, Option.some.injEq, Prod.mk.injEq] at h
  have k1 := place [⟨5, 3, []⟩] a (b ++ c) x ha (a1, x1) (by simpa [List.append_assoc] using h1)
  simp only [Prod.mk.injEq, List.length_singleton] at k1
  obtain ⟨rfl, rfl⟩ := k1
  have k2 := place ([⟨5, 3, []⟩] ++ a) b c y hb (a2, x2) (by simpa [List.append_assoc, Nat.add_comm] using h2)
  simp only [Prod.mk.injEq, List.length_append, List.length_singleton] at k2
  obtain ⟨rfl, rfl⟩ := k2
  have k3 := place ([⟨5, 3, []⟩] ++ a ++ b) c [] z hc (a3, x3) (by
    rw [show ([⟨5, 3, []⟩] ++ a ++ b : List Tok).length = 1 + a.length + b.length by simp; omega]
    simpa using h3)
  simp only [Prod.mk.injEq] at k3
  rw [← h.2, k3.2]
end Go.Proofs.YtobjehjfdmelhabDoor.Abs
end
section
set_option linter.unusedVariables false
set_option linter.unusedSimpArgs false
namespace Go.Proofs.YtobjehjfdmelhabDoor.Abs
open Go
attribute [local irreducible] ifB fitP Does Weaker
def wkC (r : Option (Nat × List Int)) : List AV := match r with
  | some (a, bs) => [.int .i64 (a : Int), .own bs.length 1 (bys bs), .bool false]
  | none => [.int .i64 0, .own 0 1 [], .bool true]
def RItemOk (l : List Tok) (f : Nat) : Prop := ∀ at' : Nat, at' ≤ 1000000 → ACall Tryd.prog 21 [.ro l.length (toksC l), .int .i64 at', .int .i64 (6 - (f : Int))] (.agg (wkC (rItem validR l f at'))) []
theorem ritem_none (l : List Tok) (f : Nat) (hl : l.length ≤ 1000000) (at' : Nat) (h : l.length ≤ at') (d : Int) : ACall Tryd.prog 21 [.ro l.length (toksC l), .int .i64 at', .int .i64 d] (.agg (wkC none)) [] := by
  refine ACall.of_does TTok Tryd.func21 rfl Tryd.call21 rfl (wpc_sound (M := MC) (PL := PL0) (CU := noCut) TTok mixed _ _ _ ?_)
  conv => whnf
  repeat ((first | (refine ifB_pos (decide_eq_true (by first | omega | rfl | (dsimp only; omega))) ?_) | refine ⟨rfl, ?_⟩ | refine ⟨_, rfl, ?_⟩ | refine ⟨⟨rfl, rfl⟩, ?_⟩ | (refine ⟨⟨rfl, rfl, ?_⟩, ?_⟩; (focus (first | exact Nat.le_of_ble_eq_true rfl | (simp; done))))); conv => whnf)
  rfl
def PLri1 : Plan := (takesTo [0, 1, 2, 6] (.all [(3, (takesTo [4] (.all [(5, (.all [(7, (.all [(8, (takesTo [9] (.all [(10, .done)])))]))])), (7, (.all [(5, (.all [(8, (takesTo [9] (.all [(10, .done)])))]))]))]))), (7, (.all [(3, (takesTo [4] (.all [(5, (.all [(8, (takesTo [9] (.all [(10, .done)])))]))])))]))]))
def PLri : Nat → Bool × Plan := plans [(13, (false, PLri1)), (17, (false, PLri1))]
set_option maxHeartbeats 4000000 in
theorem ritem_at (l : List Tok) (hl : ToksOk l) (hlb : ∀ t ∈ l, t.b.length ≤ 1099511627776) (hll : l.length ≤ 1000000) (at' : Nat) (ha : at' < l.length) (f : Nat) (hf : f ≤ 6)
    (hm : (l[at'].k = 5 ∨ l[at'].k = 6) → ¬ rBad l[at'] → ACall Tryd.prog 21 [.ro l.length (toksC l), .int .i64 at', .int .i64 (6 - (f : Int))] (.agg (wkC (rItem validR l f at'))) []) :
    ACall Tryd.prog 21 [.ro l.length (toksC l), .int .i64 at', .int .i64 (6 - (f : Int))] (.agg (wkC (rItem validR l f at'))) [] := by
  have hL := pureL_toks l
  by_cases hmm : (l[at'].k = 5 ∨ l[at'].k = 6) ∧ ¬ rBad l[at']
  · exact hm hmm.1 hmm.2
  clear hm
  rw [rItem_tok _ _ _ _ ha]
  obtain ⟨t, ht⟩ : ∃ t, t = l[at'] := ⟨_, rfl⟩
  have hto : TokOk t := by rw [ht]; exact hl _ (List.getElem_mem ha)
  have htb : t.b.length ≤ 1099511627776 := by rw [ht]; exact hlb _ (List.getElem_mem ha)
  have hld : ∀ m s : Nat, m = 3 * at' → s = 3 → takeN s ((toksC l).drop m) = some (tokC t) := by
    intro m s hm hs
    rw [takeN_tok ha hm hs, ht]
  rw [← ht] at hmm ⊢
  obtain ⟨k, n, b⟩ := t
  clear ht
  simp only [rBad] at htb hmm
  replace hld : ∀ m s : Nat, m = 3 * at' → s = 3 → takeN s ((toksC l).drop m) = some [.int .i64 k, .int .i64 n, .ro b.length (bys b)] := hld
  refine ACall.of_does TTok Tryd.func21 rfl Tryd.call21 rfl (wpc_sound (M := MC) (PL := PLri) (CU := cutAt [200005]) TTok mixed _ _ _ ?_)
  conv => whnf
  repeat ((first | (refine ifB_neg (decide_eq_false (by first | omega | rfl | (dsimp only; omega))) ?_) | refine ⟨rfl, ?_⟩ | (refine ⟨⟨rfl, rfl, ?_⟩, ?_⟩; (focus (first | exact Nat.le_of_ble_eq_true rfl | (simp; done)))) | (refine ⟨⟨?_, ?_, ?_⟩, ?_⟩; (focus omega); (focus (first | omega | (simp; done) | (simp; omega))); (focus (first | (simp; done) | (simp; omega) | (rw [toksC_length]; simp; omega))))); conv => whnf)
  refine ⟨_, hld _ _ (by simp; omega) rfl, ?_⟩
  conv => whnf
  repeat ((first | refine ⟨rfl, ?_⟩ | (refine ⟨⟨rfl, rfl, ?_⟩, ?_⟩; (focus (first | exact Nat.le_of_ble_eq_true rfl | (simp; done))))); conv => whnf)
  refine Does.seqCut (α := Unit) (fun _ => mkSt [(0, .ro l.length (toksC l)), (1, .int .i64 (at' : Int)), (2, .int .i64 (6 - (f : Int))), (6, .ptr 0 0), (7, .ptr 1 0), (8, .ptr 2 0), (57, .bool (decide (rBad ⟨k, n, b⟩)))]
    [(0, [.int .i64 0, .nil, .bool false]), (1, [.int .i64 0, .nil, .bool true]), (2, [.int .i64 k, .int .i64 n, .ro b.length (bys b)])] 3 191) (fun _ => True) ?_ (fun _ _ => ?_)
  · refine wpc_sound (M := MC) (PL := PL0) (CU := noCut) TTok mixed _ _ _ ?_
    conv => whnf
    repeat' (first | (refine ifB_t ?_; (conv => whnf)) | (refine ifB_f ?_; (conv => whnf)) | (refine ifB_neg (decide_eq_false (by first | omega | rfl | (dsimp only; omega))) ?_; (conv => whnf)) | (refine ifB_pos (decide_eq_true (by first | omega | rfl | (dsimp only; omega))) ?_; (conv => whnf)) | (exact ⟨(), trivial, weaker_of [(0, 0), (1, 1), (2, 2)] rfl rfl ⟨⟨rfl, rfl, hL⟩, ⟨rfl, rfl⟩, ⟨rfl, rfl⟩, ⟨rfl, rfl⟩, ⟨rfl, rfl⟩, ⟨rfl, rfl⟩, leP_bool (by first | exact (decide_eq_true (p := rBad ⟨k, n, b⟩) (by simp only [rBad]; omega)).symm | exact (decide_eq_false (p := rBad ⟨k, n, b⟩) (by simp only [rBad]; omega)).symm | exact decide_eq_decide.2 (by simp only [rBad]; omega)), trivial⟩ ⟨⟨⟨rfl, rfl⟩, trivial, rfl, trivial⟩, ⟨⟨rfl, rfl⟩, trivial, rfl, trivial⟩, ⟨⟨rfl, rfl⟩, ⟨rfl, rfl⟩, ⟨rfl, rfl, pureL_bys _⟩, trivial⟩, trivial⟩⟩) | (refine ⟨_, rfl, ?_⟩; conv => whnf) | (refine ifB_dec (fun _ => ?_) (fun _ => ?_) <;> conv => whnf) | (refine And.intro ?_ ?_ <;> conv => whnf))
  · refine wpc_sound (M := MC) (PL := PLri) (CU := noCut) TTok mixed _ _ _ ?_
    conv => whnf
    unfold rTok
    refine ifB_bool (fun hC => ?_) (fun hC => ?_)
    · rw [if_pos (of_decide_eq_true hC)]
      conv => whnf
      repeat ((first | refine ⟨rfl, ?_⟩ | refine ⟨_, rfl, ?_⟩ | refine ⟨⟨rfl, rfl⟩, ?_⟩ | (refine ⟨⟨rfl, rfl, ?_⟩, ?_⟩; (focus (first | exact Nat.le_of_ble_eq_true rfl | (simp; done))))); conv => whnf)
      rfl
    have hC := of_decide_eq_false hC
    rw [if_neg hC]
    simp only [rBad] at hC
    conv => whnf
    repeat ((refine ⟨_, rfl, ?_⟩); conv => whnf)
    have hp2 := putL_short 2 (n := (b.length : Int)) (by omega)
    have hp3 := putL_short 3 (n := (b.length : Int)) (by omega)
    refine ifB_dec (fun k1 => ?_) (fun k1 => ?_)
    · rw [if_pos k1]
      conv => whnf
      repeat ((first | (refine fit_i64 ⟨by first | omega | rfl | (dsimp only; omega), by first | omega | rfl | (dsimp only; omega)⟩ ?_) | refine ⟨rfl, ?_⟩ | refine ⟨_, rfl, ?_⟩); conv => whnf)
      refine ⟨_, _, refHead_ok 0 n (by omega) (by omega) (by omega), by first | rfl | simp [noRoIf, noRoL, noRoV, noRoL_bys], ?_⟩
      conv => whnf
      repeat ((first | refine ⟨rfl, ?_⟩ | refine ⟨_, rfl, ?_⟩ | refine ⟨⟨rfl, rfl⟩, ?_⟩ | (refine ⟨⟨rfl, rfl, rfl, ?_, pureL_bys _⟩, ?_⟩; (focus (simp; done))) | (refine ⟨⟨rfl, rfl, ?_⟩, ?_⟩; (focus (first | exact Nat.le_of_ble_eq_true rfl | (simp; done))))); conv => whnf)
      rfl
    rw [if_neg k1]
    conv => whnf
    refine ifB_dec (fun k2 => ?_) (fun k2 => ?_)
    · rw [if_pos k2]
      conv => whnf
      repeat ((first | (refine fit_i64 ⟨by first | omega | rfl | (dsimp only; omega), by first | omega | rfl | (dsimp only; omega)⟩ ?_) | refine ⟨rfl, ?_⟩ | refine ⟨_, rfl, ?_⟩); conv => whnf)
      refine ⟨_, _, refHead_ok 1 n (by omega) (by omega) (by omega), by first | rfl | simp [noRoIf, noRoL, noRoV, noRoL_bys], ?_⟩
      conv => whnf
      repeat ((first | refine ⟨rfl, ?_⟩ | refine ⟨_, rfl, ?_⟩ | refine ⟨⟨rfl, rfl⟩, ?_⟩ | (refine ⟨⟨rfl, rfl, rfl, ?_, pureL_bys _⟩, ?_⟩; (focus (simp; done))) | (refine ⟨⟨rfl, rfl, ?_⟩, ?_⟩; (focus (first | exact Nat.le_of_ble_eq_true rfl | (simp; done))))); conv => whnf)
      rfl
    rw [if_neg k2]
    conv => whnf
    refine ifB_dec (fun k3 => ?_) (fun k3 => ?_)
    · rw [if_pos k3]
      conv => whnf
      refine ⟨by kernel_rfl, ?_⟩
      conv => whnf
      repeat' (first | (refine fit_i64 ⟨by first | omega | rfl | (dsimp only; omega), by first | omega | rfl | (dsimp only; omega)⟩ ?_; (conv => whnf)) | (refine ⟨ones_bys _, ?_⟩; (conv => whnf)) | (refine ⟨rfl, ?_⟩; (conv => whnf)) | (refine ⟨⟨rfl, rfl⟩, ?_⟩; (conv => whnf)) | (refine ⟨⟨rfl, rfl, ?_⟩, ?_⟩; (focus (first | exact Nat.le_of_ble_eq_true rfl | (simp; done))); (conv => whnf)) | (refine ⟨⟨rfl, rfl, ?_, ?_⟩, ?_⟩; (focus (first | (simp; done) | (simp; omega))); (focus (first | (simp [limB]; done) | (simp [limB]; omega))); (conv => whnf)) | (refine And.intro ?_ ?_; (focus (first | (simp [limB]; done) | (simp [limB]; omega))); (conv => whnf)) | (refine ⟨_, _, refHead_ok 2 b.length (by omega) (by omega) (by omega), by first | rfl | simp [noRoIf, noRoL, noRoV, noRoL_bys], ?_⟩; conv => whnf) | (refine ⟨⟨by simp, rfl, by rw [bys_append], by simp, pureL_bys _⟩, ?_⟩; conv => whnf) | (rfl) | (refine ⟨_, rfl, ?_⟩; conv => whnf) | (refine And.intro ?_ ?_ <;> conv => whnf))
    rw [if_neg k3]
    conv => whnf
    refine ifB_dec (fun k4 => ?_) (fun k4 => ?_)
    · rw [if_pos k4]
      have hu := refUtf8_ok b hto.2.2 htb
      cases hv : validR b
      · rw [hv] at hu
        rw [if_neg (by simp)]
        conv => whnf
        repeat ((first | refine ⟨pureL_bys _, ?_⟩ | refine ⟨rfl, ?_⟩ | refine ⟨_, rfl, ?_⟩); conv => whnf)
        refine ⟨_, _, hu, by first | rfl | simp [noRoIf, noRoL, noRoV, noRoL_bys], ?_⟩
        conv => whnf
        repeat ((first | refine ifB_t ?_ | refine ⟨rfl, ?_⟩ | refine ⟨_, rfl, ?_⟩ | refine ⟨⟨rfl, rfl⟩, ?_⟩ | (refine ⟨⟨rfl, rfl, ?_⟩, ?_⟩; (focus (first | exact Nat.le_of_ble_eq_true rfl | (simp; done))))); conv => whnf)
        rfl
      rw [hv] at hu
      rw [if_pos rfl]
      conv => whnf
      repeat ((first | refine ⟨pureL_bys _, ?_⟩ | refine ⟨rfl, ?_⟩ | refine ⟨_, rfl, ?_⟩); conv => whnf)
      refine ⟨_, _, hu, by first | rfl | simp [noRoIf, noRoL, noRoV, noRoL_bys], ?_⟩
      conv => whnf
      repeat ((refine ifB_f ?_); conv => whnf)
      refine ⟨by kernel_rfl, ?_⟩
      conv => whnf
      repeat' (first | (refine fit_i64 ⟨by first | omega | rfl | (dsimp only; omega), by first | omega | rfl | (dsimp only; omega)⟩ ?_; (conv => whnf)) | (refine ⟨ones_bys _, ?_⟩; (conv => whnf)) | (refine ⟨rfl, ?_⟩; (conv => whnf)) | (refine ⟨⟨rfl, rfl⟩, ?_⟩; (conv => whnf)) | (refine ⟨⟨rfl, rfl, ?_⟩, ?_⟩; (focus (first | exact Nat.le_of_ble_eq_true rfl | (simp; done))); (conv => whnf)) | (refine ⟨⟨rfl, rfl, ?_, ?_⟩, ?_⟩; (focus (first | (simp; done) | (simp; omega))); (focus (first | (simp [limB]; done) | (simp [limB]; omega))); (conv => whnf)) | (refine And.intro ?_ ?_; (focus (first | (simp [limB]; done) | (simp [limB]; omega))); (conv => whnf)) | (refine ⟨_, _, refHead_ok 3 b.length (by omega) (by omega) (by omega), by first | rfl | simp [noRoIf, noRoL, noRoV, noRoL_bys], ?_⟩; conv => whnf) | (refine ⟨⟨by simp, rfl, by rw [bys_append], by simp, pureL_bys _⟩, ?_⟩; conv => whnf) | (rfl) | (refine ⟨_, rfl, ?_⟩; conv => whnf) | (refine And.intro ?_ ?_ <;> conv => whnf))
    rw [if_neg k4]
    clear hp2 hp3
    have k5 : k ≠ 5 := by omega
    have k6 : k ≠ 6 := by omega
    rw [if_neg (show ¬ (k = 5 ∨ k = 6) by omega)]
    conv => whnf
    repeat ((first | (refine ifB_neg (decide_eq_false (by first | omega | rfl | (dsimp only; omega))) ?_) | refine ⟨rfl, ?_⟩ | refine ⟨_, rfl, ?_⟩ | refine ⟨⟨rfl, rfl⟩, ?_⟩ | (refine ⟨⟨rfl, rfl, ?_⟩, ?_⟩; (focus (first | exact Nat.le_of_ble_eq_true rfl | (simp; done))))); conv => whnf)
    rfl
end Go.Proofs.YtobjehjfdmelhabDoor.Abs
end
section
set_option linter.unusedVariables false
set_option linter.unusedSimpArgs false
namespace Go.Proofs.YtobjehjfdmelhabDoor.Abs
open Go
attribute [local irreducible] ifB fitP Does Weaker
def PLrm : Nat → Bool × Plan := plans [(38, (false, (takesTo [0, 2, 4] (.all [(1, (.all [(3, (takesTo [7] (.all [(5, (.all [(6, (.all [(8, (takesTo [9] (.all [(10, .done)])))]))]))]))), (5, (.all [(3, (takesTo [7] (.all [(6, (.all [(8, (takesTo [9] (.all [(10, .done)])))]))])))]))])), (3, (.all [(1, (takesTo [7] (.all [(5, (.all [(6, (.all [(8, (takesTo [9] (.all [(10, .done)])))]))]))]))), (5, (.all [(1, (takesTo [7] (.all [(6, (.all [(8, (takesTo [9] (.all [(10, .done)])))]))]))), (6, (.all [(1, (takesTo [7] (.all [(8, (takesTo [9] (.all [(10, .done)])))])))]))]))])), (5, (.all [(1, (.all [(3, (takesTo [7] (.all [(6, (.all [(8, (takesTo [9] (.all [(10, .done)])))]))])))])), (3, (.all [(1, (takesTo [7] (.all [(6, (.all [(8, (takesTo [9] (.all [(10, .done)])))]))]))), (6, (.all [(1, (takesTo [7] (.all [(8, (takesTo [9] (.all [(10, .done)])))])))]))]))]))]))))]
theorem Does.weakerTo' {P : Program} {k : Nat} {c : Code} {Q : AX → St → Prop} {st : St} {env : List (Nat × AV)} {heap : List (Nat × List AV)} {nx n : Nat} (g : List (Nat × Nat)) (hn : st.n = n) (hg : renOk k g heap nx = true)
    (he : envLe (oldOf k g) st.env env) (hh : heapLe (oldOf k g) st.heap heap) (h : Does P k c Q (mkSt env heap nx n)) : Does P k c Q st := Does.weaker (weaker_of g hn hg he hh) h
theorem whole_bys (l : List Int) : (List.drop 0 (bys l)).take (l.length * 1) = bys l := by rw [List.drop_zero, Nat.mul_one]; exact List.take_of_length_le (by simp)
theorem rItem_byt {l : List Tok} (hl : ToksOk l) {f a a' : Nat} {x : List Int} (h : rItem validR l f a = some (a', x)) (hx : x.length ≤ 32768) : Byt x := by
  have := item_fits validR l f a [] a' x h (by simpa using hx)
  have h2 := wItem_byt validR l hl f ⟨a, [], false⟩ (by simp [Byt])
  rw [this] at h2
  simpa using h2
theorem rLoop_len {g : Nat → Option (Nat × List Int)} {mp : Bool} : ∀ (n i at' : Nat) (b last : List Int) (a : Nat) (bs : List Int), rLoop g mp n i at' b last = some (a, bs) → bs.length ≤ max 32768 b.length
  | 0, i, at', b, last, a, bs, h => by
    simp only [rLoop, Option.some.injEq, Prod.mk.injEq] at h
    rw [h.2]; omega
  | n + 1, i, at', b, last, a, bs, h => by
    unfold rLoop at h
    split at h
    · cases h
    rename_i a1 x hg
    split at h
    · cases h
    split at h
    · split at h
      · cases h
      · have := rLoop_len n _ _ _ _ _ _ h
        simp only [List.length_append] at this; omega
    · have := rLoop_len n _ _ _ _ _ _ h
      simp only [List.length_append] at this; omega
theorem rItem_len {u : List Int → Bool} {l : List Tok} (hlb : ∀ t ∈ l, t.b.length ≤ 1099511627776) {f k a : Nat} {x : List Int} (h : rItem u l f k = some (a, x)) : x.length ≤ 1099511627785 := by
  by_cases hk : k < l.length
  · rw [rItem_tok u l f k hk] at h
    have hb := hlb _ (List.getElem_mem hk)
    have fin : ∀ (g : Nat → Option (Nat × List Int)) (mp : Bool) (n i at' : Nat) (M N : Int) (last : List Int), 0 ≤ N → rLoop g mp n i at' (putL M N) last = some (a, x) → x.length ≤ 1099511627785 := by
      intro g mp n i at' M N last hN h
      have h1 := rLoop_len _ _ _ _ _ _ _ h
      have h2 := putL_short M hN
      omega
    unfold rTok at h
    split at h
    · cases h
    rename_i h0
    simp only [rBad] at h0
    split at h
    · simp only [Option.some.injEq, Prod.mk.injEq] at h; obtain ⟨rfl, rfl⟩ := h; have := putL_short 0 (n := l[k].n) (by omega); omega
    split at h
    · simp only [Option.some.injEq, Prod.mk.injEq] at h; obtain ⟨rfl, rfl⟩ := h; have := putL_short 1 (n := l[k].n) (by omega); omega
    split at h
    · simp only [Option.some.injEq, Prod.mk.injEq] at h; obtain ⟨rfl, rfl⟩ := h; have := putL_short 2 (n := (l[k].b.length : Int)) (by omega); simp only [List.length_append]; omega
    split at h
    · split at h
      · simp only [Option.some.injEq, Prod.mk.injEq] at h; obtain ⟨rfl, rfl⟩ := h; have := putL_short 3 (n := (l[k].b.length : Int)) (by omega); simp only [List.length_append]; omega
      · cases h
    split at h
    · split at h
      · cases h
      split at h
      · cases h
      split at h
      · exact fin _ _ _ _ _ _ _ _ (by omega) h
      · exact fin _ _ _ _ _ _ _ _ (by omega) h
    · cases h
  · rw [rItem_none _ _ _ _ (by omega)] at h
    cases h
set_option maxHeartbeats 4000000 in
theorem ritem_many (l : List Tok) (hl : ToksOk l) (hlb : ∀ t ∈ l, t.b.length ≤ 1099511627776) (hll : l.length ≤ 1000000) (at' : Nat) (ha : at' < l.length) (f : Nat) (hf : f ≤ 6) (hi : ∀ f', f = f' + 1 → RItemOk l f')
    (hk : l[at'].k = 5 ∨ l[at'].k = 6) (hb : ¬ rBad l[at']) :
    ACall Tryd.prog 21 [.ro l.length (toksC l), .int .i64 at', .int .i64 (6 - (f : Int))] (.agg (wkC (rItem validR l f at'))) [] := by
  have hL := pureL_toks l
  rw [rItem_tok _ _ _ _ ha]
  obtain ⟨t, ht⟩ : ∃ t, t = l[at'] := ⟨_, rfl⟩
  have hto : TokOk t := by rw [ht]; exact hl _ (List.getElem_mem ha)
  have hld : ∀ m s : Nat, m = 3 * at' → s = 3 → takeN s ((toksC l).drop m) = some (tokC t) := by
    intro m s hm hs
    rw [takeN_tok ha hm hs, ht]
  rw [← ht] at hk hb ⊢
  obtain ⟨k, n, b⟩ := t
  clear ht
  obtain ⟨q1, q2, _⟩ := hto
  simp only at hk q2
  have hrt : rTok validR (rSub validR l f) (decide (f = 0)) ⟨k, n, b⟩ (at' + 1) =
      if f = 0 ∨ 64 < n then none else rLoop (rSub validR l f) (decide (k = 6)) (if k = 6 then 2 * n.toNat else n.toNat) 0 (at' + 1) (putL (k - 1) n) [] := by
    unfold rTok
    rw [if_neg hb]
    simp only
    rw [if_neg (show ¬ k = 1 by omega), if_neg (show ¬ k = 2 by omega), if_neg (show ¬ k = 3 by omega), if_neg (show ¬ k = 4 by omega), if_pos hk]
    by_cases h0 : f = 0
    · simp [h0]
    · rcases hk with rfl | rfl <;> simp [h0]
  rw [hrt]
  clear hrt
  simp only [rBad] at hb
  have hb0 : b = [] := List.length_eq_zero_iff.1 (by omega)
  subst hb0
  obtain ⟨N, rfl⟩ : ∃ N : Nat, n = N := ⟨n.toNat, by omega⟩
  replace hld : ∀ m s : Nat, m = 3 * at' → s = 3 → takeN s ((toksC l).drop m) = some [.int .i64 k, .int .i64 N, .ro 0 []] := hld
  rw [Int.toNat_natCast]
  refine ACall.of_does TTok Tryd.func21 rfl Tryd.call21 rfl (wpc_sound (M := MC) (PL := PLrm) (CU := noCut) TTok mixed _ _ _ ?_)
  conv => whnf
  repeat ((first | (refine ifB_neg (decide_eq_false (by first | omega | rfl | (dsimp only; omega))) ?_) | refine ⟨rfl, ?_⟩ | (refine ⟨⟨rfl, rfl, ?_⟩, ?_⟩; (focus (first | exact Nat.le_of_ble_eq_true rfl | (simp; done)))) | (refine ⟨⟨?_, ?_, ?_⟩, ?_⟩; (focus omega); (focus (first | omega | (simp; done) | (simp; omega))); (focus (first | (simp; done) | (simp; omega) | (rw [toksC_length]; simp; omega))))); conv => whnf)
  refine ⟨_, hld _ _ (by simp; omega) rfl, ?_⟩
  conv => whnf
  repeat ((first | refine ifB_t ?_ | refine ifB_f ?_ | (refine ifB_neg (decide_eq_false (by first | omega | rfl | (dsimp only; omega))) ?_) | (refine ifB_pos (decide_eq_true (by first | omega | rfl | (dsimp only; omega))) ?_) | refine ⟨rfl, ?_⟩ | refine ⟨_, rfl, ?_⟩ | (refine ⟨⟨rfl, rfl, ?_⟩, ?_⟩; (focus (first | exact Nat.le_of_ble_eq_true rfl | (simp; done))))); conv => whnf)
  by_cases h0 : f = 0 ∨ 64 < (N : Int)
  · rw [if_pos h0]
    rcases hk with rfl | rfl
    all_goals
      conv => whnf
      repeat' (first | (refine ifB_t ?_; (conv => whnf)) | (refine ifB_f ?_; (conv => whnf)) | (refine ifB_pos (decide_eq_true (by first | omega | rfl | (dsimp only; omega))) ?_; (conv => whnf)) | (refine ⟨rfl, ?_⟩; (conv => whnf)) | (refine ⟨⟨rfl, rfl⟩, ?_⟩; (conv => whnf)) | (refine ⟨⟨rfl, rfl, ?_⟩, ?_⟩; (focus (first | exact Nat.le_of_ble_eq_true rfl | (simp; done))); (conv => whnf)) | (rfl) | (omega) | (refine ⟨_, rfl, ?_⟩; conv => whnf) | (refine ifB_dec (fun _ => ?_) (fun _ => ?_) <;> conv => whnf) | (refine And.intro ?_ ?_ <;> conv => whnf))
  rw [if_neg h0]
  obtain ⟨f, rfl⟩ : ∃ f', f = f' + 1 := ⟨f - 1, by omega⟩
  have hi := hi f rfl
  obtain ⟨mp, hmp⟩ : ∃ mp, mp = decide (k = 6) := ⟨_, rfl⟩
  obtain ⟨items, hit⟩ : ∃ items : Nat, items = if k = 6 then 2 * N else N := ⟨_, rfl⟩
  rw [← hmp, ← hit]
  have hgo := rItem_go validR l f
  have hi' : ∀ a : Nat, a ≤ l.length → ACall Tryd.prog 21 [.ro l.length (toksC l), .int .i64 a, .int .i64 (6 - ((f + 1 : Nat) : Int) + 1)] (.agg (wkC (rItem validR l f a))) [] := by
    intro a h
    have := hi a (by omega)
    rwa [show (6 : Int) - (f : Int) = 6 - ((f + 1 : Nat) : Int) + 1 by omega] at this
  have hp4 := putL_short 4 (n := (N : Int)) (by omega)
  have hp5 := putL_short 5 (n := (N : Int)) (by omega)
  obtain ⟨R, hR⟩ : ∃ R, R = rLoop (rSub validR l (f + 1)) mp items 0 (at' + 1) (putL (k - 1) N) [] := ⟨_, rfl⟩
  rw [← hR]
  rcases hk with rfl | rfl
  · have hmp : mp = false := hmp
    subst hmp
    have hit : items = N := hit
    conv => whnf
    repeat ((first | refine ifB_t ?_ | refine ifB_f ?_ | (refine ifB_neg (decide_eq_false (by first | omega | rfl | (dsimp only; omega))) ?_) | (refine fit_i64 ⟨by first | omega | rfl | (dsimp only; omega), by first | omega | rfl | (dsimp only; omega)⟩ ?_) | refine ⟨rfl, ?_⟩ | refine ⟨_, rfl, ?_⟩); conv => whnf)
    refine ⟨_, _, refHead_ok 4 N (by omega) (by omega) (by omega), by first | rfl | simp [noRoIf, noRoL, noRoV, noRoL_bys], ?_⟩
    conv => whnf
    repeat ((first | refine ifB_f ?_ | refine ⟨rfl, ?_⟩ | refine ⟨_, rfl, ?_⟩ | (refine ⟨⟨rfl, rfl, ?_⟩, ?_⟩; (focus (first | exact Nat.le_of_ble_eq_true rfl | (simp; done))))); conv => whnf)
    refine Does.loop (fun p : Nat × Nat × List Int × List Int => mkSt [(0, .ro l.length (toksC l)), (2, .int .i64 (6 - ((f + 1 : Nat) : Int))), (6, .ptr 0 0), (7, .ptr 1 0), (8, .ptr 2 0), (9, .int .i64 items), (10, .ptr 3 0), (11, .ro p.2.2.2.length (bys p.2.2.2)), (12, .int .i64 (p.1 : Int))]
      [(0, [.int .i64 0, .nil, .bool false]), (1, [.int .i64 0, .nil, .bool true]), (2, [.int .i64 5, .int .i64 N, .ro 0 []]), (3, [.int .i64 (p.2.1 : Int), .sl 4 0 p.2.2.1.length 1 false, .bool false]), (4, bys p.2.2.1)] 5 191)
      (fun p => p.1 ≤ items ∧ p.2.1 ≤ l.length ∧ p.2.2.1.length ≤ 32768 ∧ Byt p.2.2.2 ∧ rLoop (rItem validR l f) false (items - p.1) p.1 p.2.1 p.2.2.1 p.2.2.2 = R) (fun p => items - p.1) ?_ (0, at' + 1, putL 4 N, []) ⟨Nat.zero_le _, by simp only; omega, by simp only; omega, by simp [Byt], hR.symm⟩ ?_
    · rintro ⟨i, a, bs, last⟩ ⟨p1, p2, p3, pb, p4⟩
      simp only at p1 p2 p3 pb p4
      refine wpc_sound (M := MC) (PL := PLrm) (CU := cutAt [100032]) TTok mixed _ _ _ ?_
      conv => whnf
      refine ifB_dec (fun j1 => ?_) (fun j1 => ?_)
      · have c1 : i < items := by simp only at j1; omega
        obtain ⟨m, hm⟩ : ∃ m, items - i = m + 1 := ⟨items - i - 1, by omega⟩
        rw [hm] at p4
        unfold rLoop at p4
        have hx := hi' a p2
        cases hr : rItem validR l f a with
        | none =>
          rw [hr] at p4 hx
          simp only at p4
          rw [← p4]
          conv => whnf
          repeat ((first | (refine fit_i64 ⟨by first | omega | rfl | (dsimp only; omega), by first | omega | rfl | (dsimp only; omega)⟩ ?_) | refine ⟨rfl, ?_⟩ | refine ⟨_, rfl, ?_⟩ | (refine And.intro (by first | omega | rfl | (dsimp only; omega)) ?_)); conv => whnf)
          refine ⟨_, _, hx, by first | rfl | simp [noRoIf, noRoL, noRoV, noRoL_bys], ?_⟩
          conv => whnf
          repeat ((first | refine ⟨rfl, ?_⟩ | (refine ⟨⟨rfl, rfl, ?_⟩, ?_⟩; (focus (first | exact Nat.le_of_ble_eq_true rfl | (simp; done))))); conv => whnf)
          refine wpc_sound (M := MC) (PL := PLrm) (CU := noCut) TTok mixed _ _ _ ?_
          conv => whnf
          repeat ((first | refine ifB_t ?_ | refine ⟨rfl, ?_⟩ | refine ⟨_, rfl, ?_⟩ | refine ⟨⟨rfl, rfl⟩, ?_⟩ | (refine ⟨⟨rfl, rfl, ?_⟩, ?_⟩; (focus (first | exact Nat.le_of_ble_eq_true rfl | (simp; done))))); conv => whnf)
          rfl
        | some r =>
          obtain ⟨a', x⟩ := r
          obtain ⟨g1, g2, g3⟩ := hgo _ _ _ hr
          have xl := rItem_len hlb hr
          rw [hr] at p4 hx
          simp only at p4
          simp only [wkC] at hx
          conv => whnf
          repeat ((first | (refine fit_i64 ⟨by first | omega | rfl | (dsimp only; omega), by first | omega | rfl | (dsimp only; omega)⟩ ?_) | refine ⟨rfl, ?_⟩ | refine ⟨_, rfl, ?_⟩ | (refine And.intro (by first | omega | rfl | (dsimp only; omega)) ?_)); conv => whnf)
          refine ⟨_, _, hx, by first | rfl | simp [noRoIf, noRoL, noRoV, noRoL_bys], ?_⟩
          conv => whnf
          repeat ((first | refine ⟨rfl, ?_⟩ | (refine ⟨⟨rfl, rfl, ?_⟩, ?_⟩; (focus (first | exact Nat.le_of_ble_eq_true rfl | (simp; done))))); conv => whnf)
          refine Does.freeze 5 rfl (Does.weakerTo' (env := [(0, .ro l.length (toksC l)), (2, .int .i64 (6 - ((f + 1 : Nat) : Int))), (6, .ptr 0 0), (7, .ptr 1 0), (8, .ptr 2 0), (9, .int .i64 items), (10, .ptr 3 0), (11, .ro last.length (bys last)), (12, .int .i64 (i : Int)), (13, .ptr 5 0)])
            (heap := [(0, [.int .i64 0, .nil, .bool false]), (1, [.int .i64 0, .nil, .bool true]), (2, [.int .i64 5, .int .i64 N, .ro 0 []]), (3, [.int .i64 (a : Int), .sl 4 0 bs.length 1 false, .bool false]), (4, bys bs), (5, [.int .i64 a', .ro x.length (bys x), .bool false])]) (nx := 6) (n := 191) [(0, 0), (1, 1), (2, 2), (3, 3), (4, 4), (5, 6)] rfl rfl ?_ ?_ ?_)
          · exact ⟨⟨rfl, rfl, hL⟩, ⟨rfl, rfl⟩, ⟨rfl, rfl⟩, ⟨rfl, rfl⟩, ⟨rfl, rfl⟩, ⟨rfl, rfl⟩, ⟨rfl, rfl⟩, ⟨rfl, rfl, pureL_bys _⟩, ⟨rfl, rfl⟩, ⟨rfl, rfl⟩, trivial⟩
          · exact ⟨⟨⟨rfl, rfl⟩, trivial, rfl, trivial⟩, ⟨⟨rfl, rfl⟩, trivial, rfl, trivial⟩, ⟨⟨rfl, rfl⟩, ⟨rfl, rfl⟩, ⟨rfl, rfl, rfl⟩, trivial⟩, ⟨⟨rfl, rfl⟩, ⟨rfl, rfl, rfl, rfl, id⟩, rfl, trivial⟩, lesP_bys (frzL_bys _), ⟨⟨rfl, rfl⟩, ⟨rfl, whole_bys _, pureL_bys _⟩, rfl, trivial⟩, trivial⟩
          refine wpc_sound (M := MC) (PL := PLrm) (CU := noCut) TTok mixed _ _ _ ?_
          conv => whnf
          repeat ((first | refine ifB_f ?_ | (refine fit_i64 ⟨by first | omega | rfl | (dsimp only; omega), by first | omega | rfl | (dsimp only; omega)⟩ ?_) | refine ⟨_, rfl, ?_⟩); conv => whnf)
          refine ifB_dec (fun j2 => ?_) (fun j2 => ?_)
          · rw [if_pos (by omega)] at p4
            rw [← p4]
            conv => whnf
            repeat ((first | refine ⟨rfl, ?_⟩ | refine ⟨_, rfl, ?_⟩ | refine ⟨⟨rfl, rfl⟩, ?_⟩ | (refine ⟨⟨rfl, rfl, ?_⟩, ?_⟩; (focus (first | exact Nat.le_of_ble_eq_true rfl | (simp; done))))); conv => whnf)
            rfl
          rw [if_neg (by omega)] at p4
          have xb := rItem_byt hl hr (by omega)
          rw [if_neg (by simp)] at p4
          have p5 := p4
          conv => whnf
          repeat ((first | refine ifB_f ?_ | refine ⟨_, rfl, ?_⟩); conv => whnf)
          refine ⟨by kernel_rfl, ?_⟩
          conv => whnf
          repeat' (first | (refine fit_i64 ⟨by first | omega | rfl | (dsimp only; omega), by first | omega | rfl | (dsimp only; omega)⟩ ?_; (conv => whnf)) | (refine ⟨ones_bys _, ?_⟩; (conv => whnf)) | (refine ⟨⟨rfl, rfl, ?_⟩, ?_⟩; (focus (first | exact Nat.le_of_ble_eq_true rfl | (simp; done))); (conv => whnf)) | (refine ⟨⟨rfl, rfl, ?_, ?_⟩, ?_⟩; (focus (first | (simp; done) | (simp; omega))); (focus (first | (simp [limB]; done) | (simp [limB]; omega))); (conv => whnf)) | (refine And.intro ?_ ?_; (focus (first | (simp [limB]; done) | (simp [limB]; omega))); (conv => whnf)) | (exact ⟨(i + 1, a', bs ++ x, last), ⟨by omega, g2, by simp; omega, pb, by rw [show items - (i + 1) = m by omega]; exact p5⟩, by simp only; omega, weaker_of [(0, 0), (1, 1), (2, 2), (3, 3), (4, 6)] rfl rfl ⟨⟨rfl, rfl, hL⟩, ⟨rfl, rfl⟩, ⟨rfl, rfl⟩, ⟨rfl, rfl⟩, ⟨rfl, rfl⟩, ⟨rfl, rfl⟩, ⟨rfl, rfl⟩, ⟨rfl, rfl, pureL_bys _⟩, ⟨rfl, rfl⟩, trivial⟩ ⟨⟨⟨rfl, rfl⟩, trivial, rfl, trivial⟩, ⟨⟨rfl, rfl⟩, trivial, rfl, trivial⟩, ⟨⟨rfl, rfl⟩, ⟨rfl, rfl⟩, ⟨rfl, rfl, rfl⟩, trivial⟩, ⟨⟨rfl, rfl⟩, ⟨rfl, by simp, by simp, rfl, id⟩, rfl, trivial⟩, lesP_bys (by rw [bys_append]), trivial⟩⟩) | (refine ⟨_, rfl, ?_⟩; conv => whnf) | (refine And.intro ?_ ?_ <;> conv => whnf))
      · have : items - i = 0 := by simp only at j1; omega
        rw [this] at p4
        simp only [rLoop] at p4
        rw [← p4]
        conv => whnf
        repeat ((first | refine ⟨rfl, ?_⟩ | refine ⟨_, rfl, ?_⟩ | refine ⟨⟨rfl, rfl⟩, ?_⟩ | (refine ⟨⟨rfl, rfl, rfl, ?_, pureL_bys _⟩, ?_⟩; (focus (simp; done))) | (refine ⟨⟨rfl, rfl, ?_⟩, ?_⟩; (focus (first | exact Nat.le_of_ble_eq_true rfl | (simp; done))))); conv => whnf)
        rfl
    · refine weaker_of [(0, 0), (1, 1), (2, 2), (3, 4), (4, 3)] rfl rfl ⟨⟨rfl, rfl, hL⟩, ⟨rfl, rfl⟩, ⟨rfl, rfl⟩, ⟨rfl, rfl⟩, ⟨rfl, rfl⟩, ⟨rfl, by omega⟩, ⟨rfl, rfl⟩, ⟨rfl, rfl⟩, ⟨rfl, rfl⟩, trivial⟩ ⟨⟨⟨rfl, rfl⟩, trivial, rfl, trivial⟩, ⟨⟨rfl, rfl⟩, trivial, rfl, trivial⟩, ⟨⟨rfl, rfl⟩, ⟨rfl, rfl⟩, ⟨rfl, rfl, rfl⟩, trivial⟩, ⟨⟨rfl, rfl⟩, ⟨rfl, rfl, rfl, rfl, id⟩, rfl, trivial⟩, lesP_bys rfl, trivial⟩
  · have hmp : mp = true := hmp
    subst hmp
    have hit : items = 2 * N := hit
    conv => whnf
    repeat ((first | refine ifB_t ?_ | refine ifB_f ?_ | (refine ifB_neg (decide_eq_false (by first | omega | rfl | (dsimp only; omega))) ?_) | (refine fit_i64 ⟨by first | omega | rfl | (dsimp only; omega), by first | omega | rfl | (dsimp only; omega)⟩ ?_) | refine ⟨rfl, ?_⟩ | refine ⟨_, rfl, ?_⟩); conv => whnf)
    refine ⟨_, _, refHead_ok 4 N (by omega) (by omega) (by omega), by first | rfl | simp [noRoIf, noRoL, noRoV, noRoL_bys], ?_⟩
    conv => whnf
    repeat ((first | refine ifB_t ?_ | (refine fit_i64 ⟨by first | omega | rfl | (dsimp only; omega), by first | omega | rfl | (dsimp only; omega)⟩ ?_) | refine ⟨rfl, ?_⟩ | refine ⟨_, rfl, ?_⟩ | (refine ⟨⟨rfl, rfl, ?_⟩, ?_⟩; (focus (first | exact Nat.le_of_ble_eq_true rfl | (simp; done))))); conv => whnf)
    refine ⟨_, _, refHead_ok 5 N (by omega) (by omega) (by omega), by first | rfl | simp [noRoIf, noRoL, noRoV, noRoL_bys], ?_⟩
    conv => whnf
    repeat ((refine ⟨⟨rfl, rfl, ?_⟩, ?_⟩; (focus (first | exact Nat.le_of_ble_eq_true rfl | (simp; done)))); conv => whnf)
    refine Does.loop (fun p : Nat × Nat × List Int × List Int => mkSt [(0, .ro l.length (toksC l)), (2, .int .i64 (6 - ((f + 1 : Nat) : Int))), (6, .ptr 0 0), (7, .ptr 1 0), (8, .ptr 2 0), (9, .int .i64 items), (10, .ptr 3 0), (11, .ro p.2.2.2.length (bys p.2.2.2)), (12, .int .i64 (p.1 : Int))]
      [(0, [.int .i64 0, .nil, .bool false]), (1, [.int .i64 0, .nil, .bool true]), (2, [.int .i64 6, .int .i64 N, .ro 0 []]), (3, [.int .i64 (p.2.1 : Int), .sl 4 0 p.2.2.1.length 1 false, .bool false]), (4, bys p.2.2.1)] 5 191)
      (fun p => p.1 ≤ items ∧ p.2.1 ≤ l.length ∧ p.2.2.1.length ≤ 32768 ∧ Byt p.2.2.2 ∧ rLoop (rItem validR l f) true (items - p.1) p.1 p.2.1 p.2.2.1 p.2.2.2 = R) (fun p => items - p.1) ?_ (0, at' + 1, putL 5 N, []) ⟨Nat.zero_le _, by simp only; omega, by simp only; omega, by simp [Byt], hR.symm⟩ ?_
    · rintro ⟨i, a, bs, last⟩ ⟨p1, p2, p3, pb, p4⟩
      simp only at p1 p2 p3 pb p4
      refine wpc_sound (M := MC) (PL := PLrm) (CU := cutAt [100032]) TTok mixed _ _ _ ?_
      conv => whnf
      refine ifB_dec (fun j1 => ?_) (fun j1 => ?_)
      · have c1 : i < items := by simp only at j1; omega
        obtain ⟨m, hm⟩ : ∃ m, items - i = m + 1 := ⟨items - i - 1, by omega⟩
        rw [hm] at p4
        unfold rLoop at p4
        have hx := hi' a p2
        cases hr : rItem validR l f a with
        | none =>
          rw [hr] at p4 hx
          simp only at p4
          rw [← p4]
          conv => whnf
          repeat ((first | (refine fit_i64 ⟨by first | omega | rfl | (dsimp only; omega), by first | omega | rfl | (dsimp only; omega)⟩ ?_) | refine ⟨rfl, ?_⟩ | refine ⟨_, rfl, ?_⟩ | (refine And.intro (by first | omega | rfl | (dsimp only; omega)) ?_)); conv => whnf)
          refine ⟨_, _, hx, by first | rfl | simp [noRoIf, noRoL, noRoV, noRoL_bys], ?_⟩
          conv => whnf
          repeat ((first | refine ⟨rfl, ?_⟩ | (refine ⟨⟨rfl, rfl, ?_⟩, ?_⟩; (focus (first | exact Nat.le_of_ble_eq_true rfl | (simp; done))))); conv => whnf)
          refine wpc_sound (M := MC) (PL := PLrm) (CU := noCut) TTok mixed _ _ _ ?_
          conv => whnf
          repeat ((first | refine ifB_t ?_ | refine ⟨rfl, ?_⟩ | refine ⟨_, rfl, ?_⟩ | refine ⟨⟨rfl, rfl⟩, ?_⟩ | (refine ⟨⟨rfl, rfl, ?_⟩, ?_⟩; (focus (first | exact Nat.le_of_ble_eq_true rfl | (simp; done))))); conv => whnf)
          rfl
        | some r =>
          obtain ⟨a', x⟩ := r
          obtain ⟨g1, g2, g3⟩ := hgo _ _ _ hr
          have xl := rItem_len hlb hr
          rw [hr] at p4 hx
          simp only at p4
          simp only [wkC] at hx
          conv => whnf
          repeat ((first | (refine fit_i64 ⟨by first | omega | rfl | (dsimp only; omega), by first | omega | rfl | (dsimp only; omega)⟩ ?_) | refine ⟨rfl, ?_⟩ | refine ⟨_, rfl, ?_⟩ | (refine And.intro (by first | omega | rfl | (dsimp only; omega)) ?_)); conv => whnf)
          refine ⟨_, _, hx, by first | rfl | simp [noRoIf, noRoL, noRoV, noRoL_bys], ?_⟩
          conv => whnf
          repeat ((first | refine ⟨rfl, ?_⟩ | (refine ⟨⟨rfl, rfl, ?_⟩, ?_⟩; (focus (first | exact Nat.le_of_ble_eq_true rfl | (simp; done))))); conv => whnf)
          refine Does.freeze 5 rfl (Does.weakerTo' (env := [(0, .ro l.length (toksC l)), (2, .int .i64 (6 - ((f + 1 : Nat) : Int))), (6, .ptr 0 0), (7, .ptr 1 0), (8, .ptr 2 0), (9, .int .i64 items), (10, .ptr 3 0), (11, .ro last.length (bys last)), (12, .int .i64 (i : Int)), (13, .ptr 5 0)])
            (heap := [(0, [.int .i64 0, .nil, .bool false]), (1, [.int .i64 0, .nil, .bool true]), (2, [.int .i64 6, .int .i64 N, .ro 0 []]), (3, [.int .i64 (a : Int), .sl 4 0 bs.length 1 false, .bool false]), (4, bys bs), (5, [.int .i64 a', .ro x.length (bys x), .bool false])]) (nx := 6) (n := 191) [(0, 0), (1, 1), (2, 2), (3, 3), (4, 4), (5, 6)] rfl rfl ?_ ?_ ?_)
          · exact ⟨⟨rfl, rfl, hL⟩, ⟨rfl, rfl⟩, ⟨rfl, rfl⟩, ⟨rfl, rfl⟩, ⟨rfl, rfl⟩, ⟨rfl, rfl⟩, ⟨rfl, rfl⟩, ⟨rfl, rfl, pureL_bys _⟩, ⟨rfl, rfl⟩, ⟨rfl, rfl⟩, trivial⟩
          · exact ⟨⟨⟨rfl, rfl⟩, trivial, rfl, trivial⟩, ⟨⟨rfl, rfl⟩, trivial, rfl, trivial⟩, ⟨⟨rfl, rfl⟩, ⟨rfl, rfl⟩, ⟨rfl, rfl, rfl⟩, trivial⟩, ⟨⟨rfl, rfl⟩, ⟨rfl, rfl, rfl, rfl, id⟩, rfl, trivial⟩, lesP_bys (frzL_bys _), ⟨⟨rfl, rfl⟩, ⟨rfl, whole_bys _, pureL_bys _⟩, rfl, trivial⟩, trivial⟩
          refine wpc_sound (M := MC) (PL := PLrm) (CU := noCut) TTok mixed _ _ _ ?_
          conv => whnf
          repeat ((first | refine ifB_f ?_ | (refine fit_i64 ⟨by first | omega | rfl | (dsimp only; omega), by first | omega | rfl | (dsimp only; omega)⟩ ?_) | refine ⟨_, rfl, ?_⟩); conv => whnf)
          refine ifB_dec (fun j2 => ?_) (fun j2 => ?_)
          · rw [if_pos (by omega)] at p4
            rw [← p4]
            conv => whnf
            repeat ((first | refine ⟨rfl, ?_⟩ | refine ⟨_, rfl, ?_⟩ | refine ⟨⟨rfl, rfl⟩, ?_⟩ | (refine ⟨⟨rfl, rfl, ?_⟩, ?_⟩; (focus (first | exact Nat.le_of_ble_eq_true rfl | (simp; done))))); conv => whnf)
            rfl
          rw [if_neg (by omega)] at p4
          have xb := rItem_byt hl hr (by omega)
          have tm : (i : Int).tmod 2 = (i : Int) % 2 := Int.tmod_eq_emod_of_nonneg (by omega)
          conv => whnf
          repeat ((first | refine ifB_t ?_ | refine ⟨_, rfl, ?_⟩ | (refine And.intro (by first | omega | rfl | (dsimp only; omega)) ?_)); conv => whnf)
          rw [tm]
          refine ifB_dec (fun j3 => ?_) (fun j3 => ?_)
          · rw [if_pos ⟨trivial, by omega⟩] at p4
            conv => whnf
            refine ifB_dec (fun j4 => ?_) (fun j4 => ?_)
            · conv => whnf
              repeat ((first | refine ifB_t ?_ | refine ⟨_, rfl, ?_⟩ | (refine And.intro ?_ ?_; (focus (first | (simp [limB]; done) | (simp [limB]; omega))))); conv => whnf)
              refine ⟨x, ⟨rfl, xb⟩, ?_⟩
              conv => whnf
              repeat ((first | refine ifB_t ?_ | (refine And.intro ?_ ?_; (focus (first | (simp [limB]; done) | (simp [limB]; omega))))); conv => whnf)
              refine ⟨last, ⟨rfl, pb⟩, ?_⟩
              conv => whnf
              repeat ((refine ifB_t ?_); conv => whnf)
              refine ifB_bool (fun hc => ?_) (fun hc => ?_)
              · rw [if_pos ⟨by omega, hc⟩] at p4
                rw [← p4]
                conv => whnf
                repeat ((first | refine ⟨rfl, ?_⟩ | refine ⟨_, rfl, ?_⟩ | refine ⟨⟨rfl, rfl⟩, ?_⟩ | (refine ⟨⟨rfl, rfl, ?_⟩, ?_⟩; (focus (first | exact Nat.le_of_ble_eq_true rfl | (simp; done))))); conv => whnf)
                rfl
              · rw [if_neg (fun h => by rw [hc] at h; simp at h)] at p4
                have p5 := p4
                conv => whnf
                repeat ((refine ⟨_, rfl, ?_⟩); conv => whnf)
                refine ⟨by kernel_rfl, ?_⟩
                conv => whnf
                repeat' (first | (refine fit_i64 ⟨by first | omega | rfl | (dsimp only; omega), by first | omega | rfl | (dsimp only; omega)⟩ ?_; (conv => whnf)) | (refine ⟨ones_bys _, ?_⟩; (conv => whnf)) | (refine ⟨⟨rfl, rfl, ?_⟩, ?_⟩; (focus (first | exact Nat.le_of_ble_eq_true rfl | (simp; done))); (conv => whnf)) | (refine ⟨⟨rfl, rfl, ?_, ?_⟩, ?_⟩; (focus (first | (simp; done) | (simp; omega))); (focus (first | (simp [limB]; done) | (simp [limB]; omega))); (conv => whnf)) | (refine And.intro ?_ ?_; (focus (first | (simp [limB]; done) | (simp [limB]; omega))); (conv => whnf)) | (exact ⟨(i + 1, a', bs ++ x, x), ⟨by omega, g2, by simp; omega, xb, by rw [show items - (i + 1) = m by omega]; exact p5⟩, by simp only; omega, weaker_of [(0, 0), (1, 1), (2, 2), (3, 3), (4, 6)] rfl rfl ⟨⟨rfl, rfl, hL⟩, ⟨rfl, rfl⟩, ⟨rfl, rfl⟩, ⟨rfl, rfl⟩, ⟨rfl, rfl⟩, ⟨rfl, rfl⟩, ⟨rfl, rfl⟩, ⟨rfl, rfl, pureL_bys _⟩, ⟨rfl, rfl⟩, trivial⟩ ⟨⟨⟨rfl, rfl⟩, trivial, rfl, trivial⟩, ⟨⟨rfl, rfl⟩, trivial, rfl, trivial⟩, ⟨⟨rfl, rfl⟩, ⟨rfl, rfl⟩, ⟨rfl, rfl, rfl⟩, trivial⟩, ⟨⟨rfl, rfl⟩, ⟨rfl, by simp, by simp, rfl, id⟩, rfl, trivial⟩, lesP_bys (by rw [bys_append]), trivial⟩⟩) | (refine ⟨_, rfl, ?_⟩; conv => whnf) | (refine And.intro ?_ ?_ <;> conv => whnf))
            · rw [if_neg (by omega)] at p4
              have p5 := p4
              conv => whnf
              repeat ((first | refine ifB_f ?_ | refine ⟨_, rfl, ?_⟩); conv => whnf)
              refine ⟨by kernel_rfl, ?_⟩
              conv => whnf
              repeat' (first | (refine fit_i64 ⟨by first | omega | rfl | (dsimp only; omega), by first | omega | rfl | (dsimp only; omega)⟩ ?_; (conv => whnf)) | (refine ⟨ones_bys _, ?_⟩; (conv => whnf)) | (refine ⟨⟨rfl, rfl, ?_⟩, ?_⟩; (focus (first | exact Nat.le_of_ble_eq_true rfl | (simp; done))); (conv => whnf)) | (refine ⟨⟨rfl, rfl, ?_, ?_⟩, ?_⟩; (focus (first | (simp; done) | (simp; omega))); (focus (first | (simp [limB]; done) | (simp [limB]; omega))); (conv => whnf)) | (refine And.intro ?_ ?_; (focus (first | (simp [limB]; done) | (simp [limB]; omega))); (conv => whnf)) | (exact ⟨(i + 1, a', bs ++ x, x), ⟨by omega, g2, by simp; omega, xb, by rw [show items - (i + 1) = m by omega]; exact p5⟩, by simp only; omega, weaker_of [(0, 0), (1, 1), (2, 2), (3, 3), (4, 6)] rfl rfl ⟨⟨rfl, rfl, hL⟩, ⟨rfl, rfl⟩, ⟨rfl, rfl⟩, ⟨rfl, rfl⟩, ⟨rfl, rfl⟩, ⟨rfl, rfl⟩, ⟨rfl, rfl⟩, ⟨rfl, rfl, pureL_bys _⟩, ⟨rfl, rfl⟩, trivial⟩ ⟨⟨⟨rfl, rfl⟩, trivial, rfl, trivial⟩, ⟨⟨rfl, rfl⟩, trivial, rfl, trivial⟩, ⟨⟨rfl, rfl⟩, ⟨rfl, rfl⟩, ⟨rfl, rfl, rfl⟩, trivial⟩, ⟨⟨rfl, rfl⟩, ⟨rfl, by simp, by simp, rfl, id⟩, rfl, trivial⟩, lesP_bys (by rw [bys_append]), trivial⟩⟩) | (refine ⟨_, rfl, ?_⟩; conv => whnf) | (refine And.intro ?_ ?_ <;> conv => whnf))
          · rw [if_neg (by omega)] at p4
            have p5 := p4
            conv => whnf
            refine ⟨by kernel_rfl, ?_⟩
            conv => whnf
            repeat' (first | (refine fit_i64 ⟨by first | omega | rfl | (dsimp only; omega), by first | omega | rfl | (dsimp only; omega)⟩ ?_; (conv => whnf)) | (refine ⟨ones_bys _, ?_⟩; (conv => whnf)) | (refine ⟨⟨rfl, rfl, ?_⟩, ?_⟩; (focus (first | exact Nat.le_of_ble_eq_true rfl | (simp; done))); (conv => whnf)) | (refine ⟨⟨rfl, rfl, ?_, ?_⟩, ?_⟩; (focus (first | (simp; done) | (simp; omega))); (focus (first | (simp [limB]; done) | (simp [limB]; omega))); (conv => whnf)) | (refine And.intro ?_ ?_; (focus (first | (simp [limB]; done) | (simp [limB]; omega))); (conv => whnf)) | (exact ⟨(i + 1, a', bs ++ x, last), ⟨by omega, g2, by simp; omega, pb, by rw [show items - (i + 1) = m by omega]; exact p5⟩, by simp only; omega, weaker_of [(0, 0), (1, 1), (2, 2), (3, 3), (4, 6)] rfl rfl ⟨⟨rfl, rfl, hL⟩, ⟨rfl, rfl⟩, ⟨rfl, rfl⟩, ⟨rfl, rfl⟩, ⟨rfl, rfl⟩, ⟨rfl, rfl⟩, ⟨rfl, rfl⟩, ⟨rfl, rfl, pureL_bys _⟩, ⟨rfl, rfl⟩, trivial⟩ ⟨⟨⟨rfl, rfl⟩, trivial, rfl, trivial⟩, ⟨⟨rfl, rfl⟩, trivial, rfl, trivial⟩, ⟨⟨rfl, rfl⟩, ⟨rfl, rfl⟩, ⟨rfl, rfl, rfl⟩, trivial⟩, ⟨⟨rfl, rfl⟩, ⟨rfl, by simp, by simp, rfl, id⟩, rfl, trivial⟩, lesP_bys (by rw [bys_append]), trivial⟩⟩) | (refine ⟨_, rfl, ?_⟩; conv => whnf) | (refine And.intro ?_ ?_ <;> conv => whnf))
      · have : items - i = 0 := by simp only at j1; omega
        rw [this] at p4
        simp only [rLoop] at p4
        rw [← p4]
        conv => whnf
        repeat ((first | refine ⟨rfl, ?_⟩ | refine ⟨_, rfl, ?_⟩ | refine ⟨⟨rfl, rfl⟩, ?_⟩ | (refine ⟨⟨rfl, rfl, rfl, ?_, pureL_bys _⟩, ?_⟩; (focus (simp; done))) | (refine ⟨⟨rfl, rfl, ?_⟩, ?_⟩; (focus (first | exact Nat.le_of_ble_eq_true rfl | (simp; done))))); conv => whnf)
        rfl
    · refine weaker_of [(0, 0), (1, 1), (2, 2), (3, 4), (4, 5)] rfl rfl ⟨⟨rfl, rfl, hL⟩, ⟨rfl, rfl⟩, ⟨rfl, rfl⟩, ⟨rfl, rfl⟩, ⟨rfl, rfl⟩, ⟨rfl, by omega⟩, ⟨rfl, rfl⟩, ⟨rfl, rfl⟩, ⟨rfl, rfl⟩, trivial⟩ ⟨⟨⟨rfl, rfl⟩, trivial, rfl, trivial⟩, ⟨⟨rfl, rfl⟩, trivial, rfl, trivial⟩, ⟨⟨rfl, rfl⟩, ⟨rfl, rfl⟩, ⟨rfl, rfl, rfl⟩, trivial⟩, ⟨⟨rfl, rfl⟩, ⟨rfl, rfl, rfl, rfl, id⟩, rfl, trivial⟩, lesP_bys rfl, trivial⟩
end Go.Proofs.YtobjehjfdmelhabDoor.Abs
end
section
set_option linter.unusedVariables false
set_option linter.unusedSimpArgs false
namespace Go.Proofs.YtobjehjfdmelhabDoor.Abs
open Go
attribute [local irreducible] ifB fitP Does Weaker
theorem ritem_ok (l : List Tok) (hl : ToksOk l) (hlb : ∀ t ∈ l, t.b.length ≤ 1099511627776) (hll : l.length ≤ 1000000) : ∀ f : Nat, f ≤ 6 → RItemOk l f
  | f, hf => by
    intro at' ha
    by_cases h : at' < l.length
    · refine ritem_at l hl hlb hll at' h f hf (fun hk hb => ritem_many l hl hlb hll at' h f hf (fun f' hf' => ?_) hk hb)
      subst hf'
      exact ritem_ok l hl hlb hll f' (by omega)
    · rw [rItem_none _ _ _ _ (by omega)]
      exact ritem_none l f hll at' (by omega) _
theorem refEncode_ok (l : List Tok) (hl : ToksOk l) (hlb : ∀ t ∈ l, t.b.length ≤ 1099511627776) : ACall Tryd.prog 10 [.ro l.length (toksC l)]
    (.tuple [.own (encR validR l).1.length 1 (bys (encR validR l).1), .bool (decide ((encR validR l).2 = 0))]) [] := by
  have hL := pureL_toks l
  have no : (∀ a, encR validR l ≠ (a, 0)) → encR validR l = ([], 1) := fun h => (encR_or validR l).resolve_right (fun ⟨a, e⟩ => h a e)
  refine ACall.of_does TTok Tryd.func10 rfl Tryd.call10 rfl (wpc_sound (M := MC) (PL := PL0) (CU := noCut) TTok mixed _ _ _ ?_)
  conv => whnf
  refine ifB_dec (fun k1 => ?_) (fun k1 => ?_)
  · rw [no (fun a h => by have := (encR_iff _ _ _).1 h; omega)]
    conv => whnf
    repeat ((first | refine ⟨rfl, ?_⟩ | refine ⟨⟨rfl, rfl⟩, ?_⟩); conv => whnf)
    rfl
  have hi := ritem_ok l hl hlb (by omega) 6 (by omega) 0 (by omega)
  replace hi : ACall Tryd.prog 21 [.ro l.length (toksC l), .int .i64 0, .int .i64 0] (.agg (wkC (rItem validR l 6 0))) [] := hi
  cases hr : rItem validR l 6 0 with
  | none =>
    rw [no (fun a h => by have := (encR_iff _ _ _).1 h; rw [hr] at this; simp at this)]
    rw [hr] at hi
    conv => whnf
    repeat ((first | refine ⟨rfl, ?_⟩ | (refine And.intro (by first | omega | rfl | (dsimp only; omega)) ?_)); conv => whnf)
    refine ⟨_, _, hi, by first | rfl | simp [noRoIf, noRoL, noRoV, noRoL_bys], ?_⟩
    conv => whnf
    repeat ((first | refine ifB_t ?_ | refine ⟨rfl, ?_⟩ | refine ⟨_, rfl, ?_⟩ | refine ⟨⟨rfl, rfl⟩, ?_⟩ | (refine ⟨⟨rfl, rfl, ?_⟩, ?_⟩; (focus (first | exact Nat.le_of_ble_eq_true rfl | (simp; done))))); conv => whnf)
    rfl
  | some r =>
    obtain ⟨a, bs⟩ := r
    rw [hr] at hi
    simp only [wkC] at hi
    have hlen := rItem_len hlb hr
    conv => whnf
    repeat ((first | refine ⟨rfl, ?_⟩ | (refine And.intro (by first | omega | rfl | (dsimp only; omega)) ?_)); conv => whnf)
    refine ⟨_, _, hi, by first | rfl | simp [noRoIf, noRoL, noRoV, noRoL_bys], ?_⟩
    conv => whnf
    repeat ((first | refine ifB_f ?_ | refine ⟨rfl, ?_⟩ | refine ⟨_, rfl, ?_⟩ | (refine ⟨⟨rfl, rfl, ?_⟩, ?_⟩; (focus (first | exact Nat.le_of_ble_eq_true rfl | (simp; done))))); conv => whnf)
    refine ifB_dec (fun k2 => ?_) (fun k2 => ?_)
    · rw [no (fun a h => by have := (encR_iff _ _ _).1 h; rw [hr] at this; simp at this; omega)]
      conv => whnf
      repeat ((first | refine ifB_t ?_ | refine ⟨rfl, ?_⟩ | refine ⟨⟨rfl, rfl⟩, ?_⟩); conv => whnf)
      rfl
    conv => whnf
    repeat ((first | refine ifB_f ?_ | refine ⟨_, rfl, ?_⟩); conv => whnf)
    refine ifB_dec (fun k3 => ?_) (fun k3 => ?_)
    · rw [no (fun a h => by have := (encR_iff _ _ _).1 h; rw [hr] at this; simp at this; obtain ⟨_, ⟨_, rfl⟩, _⟩ := this; omega)]
      conv => whnf
      repeat ((first | refine ⟨rfl, ?_⟩ | refine ⟨⟨rfl, rfl⟩, ?_⟩); conv => whnf)
      rfl
    rw [(encR_iff validR l bs).2 ⟨by omega, by rw [hr, show a = l.length by omega], by omega⟩]
    conv => whnf
    repeat ((first | refine ⟨rfl, ?_⟩ | refine ⟨_, rfl, ?_⟩ | (refine ⟨⟨rfl, rfl, rfl, ?_, pureL_bys _⟩, ?_⟩; (focus (simp; done)))); conv => whnf)
    rfl
end Go.Proofs.YtobjehjfdmelhabDoor.Abs
end
section
set_option linter.unusedVariables false
set_option linter.unusedSimpArgs false
namespace Go.Proofs.YtobjehjfdmelhabDoor.Abs
open Go
theorem rLoop_at {g : Nat → Option (Nat × List Int)} {mp : Bool} : ∀ (n i at' : Nat) (b b' last : List Int) (a a' : Nat) (bs bs' : List Int), rLoop g mp n i at' b last = some (a, bs) → rLoop g mp n i at' b' last = some (a', bs') → a = a'
  | 0, i, at', b, b', last, a, a', bs, bs', h, h' => by
    simp only [rLoop, Option.some.injEq, Prod.mk.injEq] at h h'
    omega
  | n + 1, i, at', b, b', last, a, a', bs, bs', h, h' => by
    unfold rLoop at h h'
    cases hg : g at' with
    | none => rw [hg] at h; cases h
    | some r =>
      obtain ⟨a1, x⟩ := r
      rw [hg] at h h'
      simp only at h h'
      split at h
      · cases h
      split at h'
      · cases h'
      split at h
      · rename_i h2
        rw [if_pos h2] at h'
        split at h
        · cases h
        rename_i h3
        rw [if_neg h3] at h'
        exact rLoop_at n _ _ _ _ _ _ _ _ _ h h'
      · rename_i h2
        rw [if_neg h2] at h'
        exact rLoop_at n _ _ _ _ _ _ _ _ _ h h'
/-- A loop of more rounds ends further on. -/
theorem rLoop_more {g : Nat → Option (Nat × List Int)} {mp : Bool} {L : Nat} (H : Gos g L) (n d : Nat) (hd : 0 < d) (b b' : List Int) (a a' : Nat) (bs bs' : List Int) (h : rLoop g mp n 0 0 b [] = some (a, bs)) (h' : rLoop g mp (n + d) 0 0 b' [] = some (a', bs')) : a < a' := by
  obtain ⟨a1, b1, l1, k1, k2⟩ := rLoop_split d n 0 0 b' [] _ h'
  obtain rfl := rLoop_at n 0 0 b b' [] a a1 bs b1 h k1
  have := (rLoop_go H _ _ _ _ _ _ _ k2).1
  omega
theorem rTok_many {u : List Int → Bool} {g : Nat → Option (Nat × List Int)} {t : Tok} {r : Nat × List Int} (hk : t.k = 5 ∨ t.k = 6) (h : rTok u g false t 0 = some r) :
    t.b = [] ∧ 0 ≤ t.n ∧ t.n ≤ 64 ∧ rLoop g (decide (t.k = 6)) (if t.k = 6 then 2 * t.n.toNat else t.n.toNat) 0 0 (putL (t.k - 1) t.n) [] = some r := by
  unfold rTok at h
  split at h
  · cases h
  rename_i h0
  simp only [rBad] at h0
  rw [if_neg (show ¬ t.k = 1 by omega), if_neg (show ¬ t.k = 2 by omega), if_neg (show ¬ t.k = 3 by omega), if_neg (show ¬ t.k = 4 by omega), if_neg (show ¬ (false = true) by simp)] at h
  split at h
  · cases h
  rename_i h1
  refine ⟨List.length_eq_zero_iff.1 (by omega), by omega, by omega, ?_⟩
  split at h
  · rename_i h6
    rw [h6]
    simpa using h
  · rename_i h6
    have h5 : t.k = 5 := by omega
    rw [h5]
    simpa using h
theorem rItem_cons {u : List Int → Bool} {t0 : Tok} {t : List Tok} {a : Nat} {b : List Int} (h : rItem u (t0 :: t) 6 0 = some (a + 1, b)) : rTok u (rItem u t 5) false t0 0 = some (a, b) := by
  rw [rItem_tok _ _ _ _ (by simp)] at h
  have e := rTok_shift (u := u) (g := rItem u t 5) (g' := rItem u (t0 :: t) 5) (z := false) (p := 1) (fun k => by
    have := rItem_shift u [t0] t 5 k
    simpa using this) t0 0
  simp only [List.getElem_cons_zero] at h
  rw [show (decide (6 = 0)) = false from rfl] at h
  rw [show (0 + 1 : Nat) = 1 + 0 from rfl, show rSub u (t0 :: t) 6 = rItem u (t0 :: t) 5 from rfl, e] at h
  cases hr : rTok u (rItem u t 5) false t0 0 with
  | none => rw [hr] at h; cases h
  | some r =>
    rw [hr] at h
    simp only [Option.map_some, shf, Option.some.injEq, Prod.mk.injEq] at h
    obtain ⟨r1, r2⟩ := r
    simp only at h
    rw [h.2, show r1 = a by omega]
theorem short_enc {u : List Int → Bool} {t0 : Tok} {t : List Tok} {b : List Int} {n' : Int} (hk : t0.k = 5 ∨ t0.k = 6) (h : encR u (t0 :: t) = (b, 0)) (hn : n' ≠ t0.n) : encR u (⟨t0.k, n', t0.b⟩ :: t) = ([], 1) := by
  rcases encR_or u (⟨t0.k, n', t0.b⟩ :: t) with q | ⟨s, q⟩
  · exact q
  exfalso
  rw [encR_iff] at h q
  obtain ⟨_, h, _⟩ := h
  obtain ⟨_, q, _⟩ := q
  obtain ⟨h1, h2, h3, h4⟩ := rTok_many hk (rItem_cons (by simpa using h))
  obtain ⟨q1, q2, q3, q4⟩ := rTok_many (t := ⟨t0.k, n', t0.b⟩) hk (rItem_cons (by simpa using q))
  simp only at q2 q3 q4
  have H := rItem_go u t 5
  have key : ∀ (m m' : Nat) (b b' : List Int) (s s' : List Int) (mp : Bool), m ≠ m' → rLoop (rItem u t 5) mp m 0 0 b [] = some (t.length, s) → rLoop (rItem u t 5) mp m' 0 0 b' [] = some (t.length, s') → False := by
    intro m m' b b' s s' mp hm e e'
    rcases Nat.lt_or_ge m m' with hlt | hge
    · have := rLoop_more H m (m' - m) (by omega) b b' _ _ _ _ e (by rw [show m + (m' - m) = m' by omega]; exact e')
      omega
    · have := rLoop_more H m' (m - m') (by omega) b' b _ _ _ _ e' (by rw [show m' + (m - m') = m by omega]; exact e)
      omega
  refine key _ _ _ _ _ _ _ ?_ h4 q4
  split <;> omega
-- the parser
theorem pMany_bad {g : Pa → Pa} : ∀ (n : Nat) (p : Pa), p.bad = true → pMany g n p = p
  | 0, p, _ => rfl
  | n + 1, p, h => by rw [pMany, if_pos h]
theorem pMany_add {g : Pa → Pa} : ∀ (n d : Nat) (p : Pa), pMany g (n + d) p = pMany g d (pMany g n p)
  | 0, d, p => by rw [Nat.zero_add]; rfl
  | n + 1, d, p => by
    rw [show n + 1 + d = n + d + 1 by omega, pMany, pMany]
    split
    · rename_i h; rw [pMany_bad d p h]
    · exact pMany_add n d _
structure Sm (p q : Pa) : Prop where
  a : p.at' = q.at'
  b : p.bad = q.bad
  l : p.l.length = q.l.length
  o : 1 ≤ p.at'
theorem pMany_sim {g h : Pa → Pa} (H : ∀ p q, Sm p q → Sm (g p) (h q)) : ∀ (n : Nat) (p q : Pa), Sm p q → Sm (pMany g n p) (pMany h n q)
  | 0, p, q, s => s
  | n + 1, p, q, s => by
    rw [pMany, pMany, s.b]
    split
    · exact s
    · exact pMany_sim H n _ _ (H _ _ s)
theorem getR_tail {c0 c1 : Int} {T : List Int} {k : Nat} (hk : 1 ≤ k) : getR (c0 :: T) k = getR (c1 :: T) k := by
  obtain ⟨j, rfl⟩ : ∃ j, k = j + 1 := ⟨k - 1, by omega⟩
  unfold getR
  simp only [List.length_cons, Int.toNat_natCast, List.getElem_cons_succ, List.drop_succ_cons]
theorem pPart_sim {c0 c1 : Int} {T : List Int} {k n : Int} (hn : 0 ≤ n) {x : Nat} (hx : 1 ≤ x) {l m : List Tok} (hl : l.length = m.length) : Sm (pPart (c0 :: T) k n x l) (pPart (c1 :: T) k n x m) := by
  unfold pPart
  simp only [List.length_cons]
  split
  · exact ⟨rfl, rfl, by simp [hl], hx⟩
  · exact ⟨rfl, rfl, by simp [hl], by simp only; omega⟩
theorem pItem_sim {c0 c1 : Int} {T : List Int} (hb : Byt (c0 :: T)) (hc : Byt (c1 :: T)) : ∀ (f : Nat) (p q : Pa), Sm p q → Sm (pItem (c0 :: T) f p) (pItem (c1 :: T) f q)
  | 0, p, q, s => ⟨s.a, rfl, s.l, s.o⟩
  | f + 1, p, q, s => by
    have eg : getR (c0 :: T) p.at' = getR (c1 :: T) q.at' := by rw [← s.a]; exact getR_tail s.o
    have eb : pBad (c0 :: T) p ↔ pBad (c1 :: T) q := by unfold pBad; rw [eg, s.b, s.l]
    unfold pItem
    by_cases h : pBad (c1 :: T) q
    · rw [if_pos h, if_pos (eb.2 h)]
      exact ⟨s.a, rfl, s.l, s.o⟩
    · rw [if_neg h, if_neg (fun e => h (eb.1 e)), eg]
      simp only [pBad, not_or] at h
      obtain ⟨M, n, X, e, _, hn, hX, _⟩ := getR_right (c1 :: T) hc q.at' (by omega)
      have hX1 : 1 ≤ X := by
        rcases getR_says (c1 :: T) hc q.at' with ⟨z, _⟩ | ⟨z, _⟩ | ⟨k, m, hk, n', hkk, hkm, hn0, hn1, z, _⟩
        · rw [z] at e; simp at e
        · rw [z] at e; simp at e
        · rw [z] at e
          simp only [Prod.mk.injEq] at e
          omega
      rw [e]
      simp only [Int.toNat_natCast]
      have ih := pItem_sim hb hc f
      have hl := s.l
      unfold pGo
      split
      · exact ⟨rfl, rfl, by simp [hl], hX1⟩
      split
      · exact ⟨rfl, rfl, by simp [hl], hX1⟩
      split
      · exact pPart_sim hn.1 hX1 hl
      split
      · exact pPart_sim hn.1 hX1 hl
      split
      · exact pMany_sim ih _ _ _ ⟨rfl, rfl, by simp [hl], hX1⟩
      split
      · exact pMany_sim ih _ _ _ ⟨rfl, rfl, by simp [hl], hX1⟩
      · exact ⟨rfl, rfl, hl, hX1⟩
theorem getR_end (b : List Int) (k : Nat) (h : b.length ≤ k) : (getR b k).2.2.2 ≠ 0 := by
  unfold getR
  split
  · simp
  · rw [dif_neg (by simp; omega)]; simp
theorem pItem_in {b : List Int} {f : Nat} {p : Pa} (h : (pItem b f p).bad = false) : p.bad = false ∧ p.at' < b.length := by
  cases f with
  | zero => simp [pItem] at h
  | succ f =>
    unfold pItem at h
    split at h
    · simp at h
    · rename_i hh
      simp only [pBad, not_or] at hh
      refine ⟨by simpa using hh.1, ?_⟩
      rcases Nat.lt_or_ge p.at' b.length with h' | h'
      · exact h'
      · exact absurd (Classical.not_not.1 hh.2.1) (getR_end b _ h')
theorem pItem_end {b : List Int} {f : Nat} {p : Pa} (h : b.length ≤ p.at') : (pItem b f p).bad = true := by
  cases hh : (pItem b f p).bad
  · have := (pItem_in hh).2
    omega
  · rfl
theorem pMany_ne {b c : List Int} {g h : Pa → Pa} {L : Nat} (hs : ∀ p q, Sm p q → Sm (g p) (h q)) (hg : ∀ p, (g p).bad = false → p.at' < L) (hh : ∀ p, L ≤ p.at' → (h p).bad = true) {m m' : Nat} (hm : m ≠ m') {p q : Pa} (s : Sm p q)
    (h1 : (pMany g m p).bad = false) (h2 : (pMany g m p).at' = L) : (pMany h m' q).bad = true ∨ (pMany h m' q).at' ≠ L := by
  rcases Nat.lt_or_ge m m' with hlt | hge
  · left
    have sm := pMany_sim hs m p q s
    obtain ⟨d, hd⟩ : ∃ d, m' = m + (d + 1) := ⟨m' - m - 1, by omega⟩
    rw [hd, pMany_add, pMany, if_neg (by rw [← sm.b, h1]; simp)]
    have := hh (pMany h m q) (by rw [← sm.a]; omega)
    rw [pMany_bad _ _ this]
    exact this
  · obtain ⟨d, hd⟩ : ∃ d, m = m' + (d + 1) := ⟨m - m' - 1, by omega⟩
    have sm := pMany_sim hs m' p q s
    rw [hd, pMany_add, pMany] at h1
    by_cases hb : (pMany g m' p).bad = true
    · rw [if_pos hb] at h1
      rw [hb] at h1; cases h1
    · rw [if_neg hb] at h1
      have hb2 : (g (pMany g m' p)).bad = false := by
        cases hx : (g (pMany g m' p)).bad
        · rfl
        · rw [pMany_bad _ _ hx, hx] at h1; cases h1
      right
      have := hg _ hb2
      rw [← sm.a]
      omega
theorem decR_of_bad {u : List Int → Bool} {b : List Int} (h : (pItem b 7 ⟨0, [], false⟩).bad = true ∨ (pItem b 7 ⟨0, [], false⟩).at' ≠ b.length) : decR u b = ([], 3) := by
  unfold decR
  split
  · rfl
  · rw [if_pos]
    rcases h with h | h
    · simp [h]
    · simp [h]
theorem putL_small {M n : Int} (h0 : 0 ≤ n) (h : n < 24) : putL M n = [M * 32 + n] := by
  simp [putL, sizeR, h, beAcc]
theorem short_head {u : List Int → Bool} {t0 : Tok} {t : List Tok} {b : List Int} (hk : t0.k = 5 ∨ t0.k = 6) (h : encR u (t0 :: t) = (b, 0)) : ∃ T, b = putL (t0.k - 1) t0.n ++ T ∧ 0 ≤ t0.n ∧ t0.n ≤ 64 ∧ t0.b = [] := by
  rw [encR_iff] at h
  obtain ⟨_, h, _⟩ := h
  obtain ⟨h1, h2, h3, h4⟩ := rTok_many hk (rItem_cons (by simpa using h))
  obtain ⟨T, hT⟩ := rLoop_grow _ _ _ _ _ _ _ h4
  exact ⟨T, hT.symm, h2, h3, h1⟩
theorem short_low {M n : Int} {T : List Int} (hM : 0 ≤ M) (h0 : 0 ≤ n) (h1 : n ≤ 64) (h : ((putL M n ++ T).getD 0 0) % 32 ≤ 22) : n ≤ 22 ∧ putL M n ++ T = (M * 32 + n) :: T := by
  have hc : n < 24 := by
    rcases sizeR_cases n with ⟨e, h⟩ | e | e | e | e
    · exact h
    all_goals
      simp [putL, e] at h <;> omega
  rw [putL_small h0 hc] at h ⊢
  simp at h
  exact ⟨by omega, rfl⟩
theorem short_dec {u : List Int → Bool} {k N n' : Int} {t : List Tok} {T : List Int} (hto : ToksOk (⟨k, N, []⟩ :: t)) (hk : k = 5 ∨ k = 6) (h0 : 0 ≤ N) (h22 : N ≤ 22) (h : encR u (⟨k, N, []⟩ :: t) = (((k - 1) * 32 + N) :: T, 0))
    (hn : n' ≠ N) (hn0 : 0 ≤ n') (hn1 : n' ≤ 23) : decR u (((k - 1) * 32 + n') :: T) = ([], 3) := by
  have hb : Byt (((k - 1) * 32 + N) :: T) := by
    have := wItem_byt u (⟨k, N, []⟩ :: t) hto 6 ⟨0, [], false⟩ (by simp [Byt])
    rw [(encR_yes h).2.1] at this
    exact this
  have hc : Byt (((k - 1) * 32 + n') :: T) := by
    intro x hx
    rcases List.mem_cons.1 hx with rfl | hx
    · omega
    · exact hb x (by simp [hx])
  apply decR_of_bad
  have hp := pItem_enc hto h []
  rw [List.append_nil] at hp
  have go : ∀ (m : Int), 0 ≤ m → m ≤ 23 → pItem (((k - 1) * 32 + m) :: T) 7 ⟨0, [], false⟩ = pMany (pItem (((k - 1) * 32 + m) :: T) 6) (if k = 5 then m.toNat else (2 * min m 65).toNat) ⟨1, [⟨k, m, []⟩], false⟩ := by
    intro m m0 m1
    have e := pItem_at (s := (((k - 1) * 32 + m) :: T)) (w := ⟨0, [], false⟩) (M := k - 1) (n := m) (L := []) 6 (by omega) m0 (by omega) (by rw [putL_small m0 (by omega)]; exact ⟨T, rfl⟩) (by simp)
    simp only [List.length_nil, List.nil_append, putL_small m0 (show m < 24 by omega), List.length_singleton] at e
    rw [e]
    unfold pGo
    rw [if_neg (by omega), if_neg (by omega), if_neg (by omega), if_neg (by omega)]
    rcases hk with rfl | rfl
    · rw [if_pos (by omega), if_pos rfl]
      rfl
    · rw [if_neg (by omega), if_pos (by omega), if_neg (by omega)]
      rfl
  rw [go N h0 (by omega)] at hp
  rw [go n' hn0 hn1]
  have hL : ((((k - 1) * 32 + N) :: T).length) = ((((k - 1) * 32 + n') :: T).length) := by simp
  rw [← hL]
  refine pMany_ne (b := []) (c := []) (fun p q s => pItem_sim hb hc 6 p q s) (fun p hp => (pItem_in hp).2) (fun p hp => pItem_end (by rw [← hL]; exact hp)) (m := (if k = 5 then N.toNat else (2 * min N 65).toNat)) (p := ⟨1, [⟨k, N, []⟩], false⟩) ?_ ⟨rfl, rfl, rfl, Nat.le_refl 1⟩ ?_ ?_
  · split <;> omega
  · rw [hp]
  · rw [hp]
end Go.Proofs.YtobjehjfdmelhabDoor.Abs
end
section
set_option linter.unusedVariables false
set_option linter.unusedSimpArgs false
namespace Go.Proofs.YtobjehjfdmelhabDoor.Abs
open Go
attribute [local irreducible] ifB fitP Does Weaker
def PLtt : Nat → Bool × Plan := plans [(5, (false, (takesTo [0, 1, 2, 3, 4, 5, 6, 7, 8, 9, 10, 11, 12, 13, 14, 15] (.all [(16, (takesTo [17] (.all [(18, (.all [(19, (takes [20]))]))])))]))))]
theorem twinToks_ok (l : List Tok) (hl : l.length ≤ 1000000) (hb : ∀ t ∈ l, t.b.length ≤ 1099511627776) : ACall Tryd.prog 16 [.ro l.length (toksC l)] (.own l.length 3 (toksC l)) [] := by
  refine ACall.of_does TTok Tryd.func16 rfl Tryd.call16 rfl (wpc_sound (M := MC) (PL := PLtt) (CU := noCut) TTok mixed _ _ _ ?_)
  conv => whnf
  refine Does.loop (fun c : Nat => mkSt [(0, .ro l.length (toksC l)), (3, .sl 1 0 c 3 false), (4, .int .i64 c)] [(1, toksC (l.take c))] 2 32) (fun c => c ≤ l.length) (fun c => l.length - c) ?_ 0 (Nat.zero_le _) ?_
  · intro c hc
    rcases Nat.lt_or_ge c l.length with c1 | c1
    · have ht := twin_ok l[c].b (by have := hb _ (List.getElem_mem c1); omega)
      have hlt : (toksC (l.take c)).length = c * 3 := by rw [toksC_length]; simp; omega
      refine wpc_sound (M := MC) (PL := PLtt) (CU := noCut) TTok mixed _ _ _ ?_
      conv => whnf
      repeat ((refine ifB_pos (decide_eq_true (by first | omega | rfl | (dsimp only; omega))) ?_); conv => whnf)
      refine ⟨by kernel_rfl, ?_⟩
      conv => whnf
      repeat ((first | (refine ⟨⟨?_, ?_, ?_⟩, ?_⟩; (focus omega); (focus (first | omega | (simp; done) | (simp; omega))); (focus (first | (simp; done) | (simp; omega) | (rw [toksC_length]; simp; omega)))) | (refine ⟨roLoad_ok rfl ?_, ?_⟩; (focus (simp [toksC_length]; omega)))); conv => whnf)
      refine ⟨_, tok_k c1 (by simp; omega), ?_⟩
      conv => whnf
      repeat ((first | (refine ⟨⟨?_, ?_, ?_⟩, ?_⟩; (focus omega); (focus (first | omega | (simp; done) | (simp; omega))); (focus (first | (simp; done) | (simp; omega) | (rw [toksC_length]; simp; omega)))) | (refine ⟨roLoad_ok rfl ?_, ?_⟩; (focus (simp [toksC_length]; omega)))); conv => whnf)
      refine ⟨_, tok_n c1 (by simp; omega), ?_⟩
      conv => whnf
      repeat ((first | (refine ⟨⟨?_, ?_, ?_⟩, ?_⟩; (focus omega); (focus (first | omega | (simp; done) | (simp; omega))); (focus (first | (simp; done) | (simp; omega) | (rw [toksC_length]; simp; omega)))) | (refine ⟨roLoad_ok rfl ?_, ?_⟩; (focus (simp [toksC_length]; omega)))); conv => whnf)
      refine ⟨_, tok_b c1 (by simp; omega), ?_⟩
      conv => whnf
      repeat ((first | refine ⟨pureL_bys _, ?_⟩ | refine ⟨rfl, ?_⟩); conv => whnf)
      refine ⟨_, _, ht, by first | rfl | simp [noRoIf, noRoL, noRoV, noRoL_bys], ?_⟩
      conv => whnf
      repeat ((first | (refine fit_i64 ⟨by first | omega | rfl | (dsimp only; omega), by first | omega | rfl | (dsimp only; omega)⟩ ?_) | (refine Or.inl ⟨⟨rfl, ?_⟩, ?_⟩; (focus (first | rfl | (simp; done) | (rw [toksC_length]; omega)))) | refine ⟨rfl, ?_⟩ | refine ⟨⟨rfl, rfl⟩, ?_⟩ | (refine And.intro ?_ ?_; (focus (first | (simp [limB]; done) | (simp [limB]; omega))))); conv => whnf)
      refine ⟨c + 1, by omega, by omega, Weaker.trans (Weaker.freeze 2 rfl) (weaker_of [(1, 4)] rfl rfl ⟨⟨rfl, rfl, pureL_toks _⟩, ⟨rfl, rfl, rfl, rfl, id⟩, ⟨rfl, rfl⟩, trivial⟩ ⟨lesP_toks ?_, trivial⟩)⟩
      rw [frzL_app, frzL_toks, take_tok c1, toksC_append]
      have e : ((bys l[c].b).drop 0).take (l[c].b.length * 1) = bys l[c].b := by rw [List.drop_zero, Nat.mul_one]; exact List.take_of_length_le (by simp)
      simp only [frzL, frzV, toksC, e, show Nat.beq 2 2 = true from rfl, cond_true]
    · obtain rfl : c = l.length := by omega
      rw [List.take_length]
      refine wpc_sound (M := MC) (PL := PLtt) (CU := noCut) TTok mixed _ _ _ ?_
      conv => whnf
      repeat ((first | (refine ifB_neg (decide_eq_false (by first | omega | rfl | (dsimp only; omega))) ?_) | (refine ⟨⟨rfl, rfl, rfl, ?_, pureL_toks _⟩, ?_⟩; (focus (rw [toksC_length]; omega)))); conv => whnf)
      rfl
  · exact weaker_of [] rfl rfl ⟨⟨rfl, rfl, pureL_toks _⟩, rfl, ⟨rfl, rfl⟩, trivial⟩ ⟨rfl, trivial⟩
theorem check_ok (l : List Tok) (hl : ToksOk l) (hlb : ∀ t ∈ l, t.b.length ≤ 1099511627776) : ACall Tryd.prog 17 [.ro l.length (toksC l)] (.int .i64 (encR validR l).2) [] := by
  have e := encode_ok l hl hlb
  refine ACall.of_does TTok Tryd.func17 rfl Tryd.call17 rfl (wpc_sound (M := MC) (PL := PL0) (CU := noCut) TTok mixed _ _ _ ?_)
  conv => whnf
  repeat ((first | refine ⟨rfl, ?_⟩ | (refine And.intro ?_ ?_; (focus (first | (simp only [pureL, pureV, pureL_bys, Bool.and_true, Bool.and_self]; done) | (simp only [pureL, pureV, pureL_bys, pureL_toks, Bool.and_true, Bool.and_self]; done))))); conv => whnf)
  refine ⟨_, _, e, by first | rfl | simp [noRoIf, noRoL, noRoV, noRoL_bys], ?_⟩
  conv => whnf
  repeat ((refine ⟨⟨rfl, rfl⟩, ?_⟩); conv => whnf)
  rfl
end Go.Proofs.YtobjehjfdmelhabDoor.Abs
end
section
set_option linter.unusedVariables false
set_option linter.unusedSimpArgs false
namespace Go.Proofs.YtobjehjfdmelhabDoor.Abs
open Go
attribute [local irreducible] ifB fitP Does Weaker
def blkT (n c : Nat) : List Tok := ⟨5, n, []⟩ :: List.replicate c ⟨1, 0, []⟩
def mRow (T : Nat) : Nat → Nat × List Tok
  | 0 => (T, [])
  | j + 1 => ((mRow T j).1 - 1 - min ((mRow T j).1 - 1) 60, (mRow T j).2 ++ blkT (min ((mRow T j).1 - 1) 60) (min ((mRow T j).1 - 1) 60))
def mAll (T : Nat) : List Tok := ⟨5, 10, []⟩ :: (mRow T 10).2
theorem lesP_app {o : Nat → Option Nat} : ∀ {a a' b b' : List AV}, lesP o a a' → lesP o b b' → lesP o (a ++ b) (a' ++ b')
  | [], [], b, b', _, h => h
  | [], _ :: _, b, b', h, _ => by simp [lesP] at h
  | x :: a, [], b, b', h, _ => by simp [lesP] at h
  | x :: a, y :: a', b, b', h, k => by
    simp only [lesP, List.cons_append] at h ⊢
    exact ⟨h.1, lesP_app h.2 k⟩
theorem mRow_end : ∀ o : Fin 2, ∀ j : Fin 11, ((mRow (599 + o.val) j.val).1 = 0 ↔ j.val = 10) ∧ (mRow (599 + o.val) j.val).1 ≤ 600 ∧ (mRow (599 + o.val) j.val).2.length = 599 + o.val - (mRow (599 + o.val) j.val).1 := by decide +kernel
theorem mAll_enc : (encR validR (mAll 599)).2 = 0 := by decide +kernel
theorem mAll_len : ∀ o : Fin 2, (mAll (599 + o.val)).length = 600 + o.val := by decide +kernel
theorem mRow_all (T : Nat) (hT : T ≤ 600) : ∀ (j : Nat), (mRow T j).1 ≤ 600 ∧ ∀ t ∈ (mRow T j).2, (t.k = 5 ∨ t.k = 1) ∧ 0 ≤ t.n ∧ t.n ≤ 600 ∧ t.b = []
  | 0 => ⟨hT, by simp [mRow]⟩
  | j + 1 => by
    obtain ⟨h1, h2⟩ := mRow_all T hT j
    refine ⟨by simp only [mRow]; omega, fun t ht => ?_⟩
    simp only [mRow, blkT, List.mem_append, List.mem_cons] at ht
    rcases ht with ht | rfl | ht
    · exact h2 t ht
    · exact ⟨by simp, by simp only; omega, by simp only; omega, rfl⟩
    · obtain rfl := List.eq_of_mem_replicate ht
      exact ⟨by simp, by simp, by simp, rfl⟩
theorem mAll_ok (T : Nat) (hT : T ≤ 600) : ToksOk (mAll T) ∧ ∀ t ∈ mAll T, t.b.length ≤ 1099511627776 := by
  have key : ∀ t ∈ mAll T, (t.k = 5 ∨ t.k = 1) ∧ 0 ≤ t.n ∧ t.n ≤ 600 ∧ t.b = [] := by
    intro t ht
    simp only [mAll, List.mem_cons] at ht
    rcases ht with rfl | ht
    · exact ⟨by simp, by simp, by simp, rfl⟩
    · exact (mRow_all T hT 10).2 t ht
  refine ⟨fun t ht => ?_, fun t ht => ?_⟩
  · obtain ⟨a, b, c, d⟩ := key t ht
    exact ⟨by omega, by omega, by rw [d]; simp [Byt]⟩
  · rw [(key t ht).2.2.2]; simp
set_option maxHeartbeats 4000000 in
theorem cborMany_ok (n : Int) (hn : -9223372036854775808 ≤ n ∧ n < 9223372036854775808) : ACall Tryd.prog 3 [.int .i64 n] (.bool true) [] := by
  have w64 : IntKind.u64.wrap n = n % 18446744073709551616 := wrap_u64 n
  obtain ⟨r, hr, hr2⟩ : ∃ r : Nat, (n % 18446744073709551616).tmod 2 = (r : Int) ∧ r < 2 := ⟨(n % 18446744073709551616 % 2).toNat, by rw [Int.tmod_eq_emod_of_nonneg (by omega)]; omega, by omega⟩
  refine ACall.of_does TTok Tryd.func3 rfl Tryd.call3 rfl (wpc_sound (M := MC) (PL := PL0) (CU := cutAt [100015, 100021]) TTok mixed _ _ _ ?_)
  conv => whnf
  refine fit_wrap ?_
  rw [w64]
  conv => whnf
  repeat ((first | (refine fit_i64 ⟨by first | omega | rfl | (dsimp only; omega), by first | omega | rfl | (dsimp only; omega)⟩ ?_) | (refine And.intro (by first | omega | rfl | (dsimp only; omega)) ?_)); conv => whnf)
  rw [hr]
  conv => whnf
  obtain ⟨T, hT⟩ : ∃ T : Nat, T = 599 + r := ⟨_, rfl⟩
  have hT2 : (599 : Int) + r = (T : Int) := by omega
  rw [hT2]
  refine Does.loop (fun j : Nat => mkSt [(0, .int .i64 r), (3, .sl 0 0 (mRow T j).2.length 3 false), (4, .int .i64 (mRow T j).1), (5, .int .i64 j)] [(0, toksC (mRow T j).2)] 1 108) (fun j => j ≤ 10) (fun j => 10 - j) ?_ 0 (Nat.zero_le _) ?_
  · intro j hj
    obtain ⟨m1, m2, m3⟩ := mRow_end ⟨r, hr2⟩ ⟨j, by omega⟩
    simp only at m1 m2 m3
    rw [← hT] at m1 m2 m3
    obtain ⟨left, hleft⟩ : ∃ x, x = (mRow T j).1 := ⟨_, rfl⟩
    obtain ⟨L, hL⟩ : ∃ x, x = (mRow T j).2 := ⟨_, rfl⟩
    have hs : mRow T (j + 1) = (left - 1 - min (left - 1) 60, L ++ blkT (min (left - 1) 60) (min (left - 1) 60)) := by rw [mRow, hleft, hL]
    rw [← hleft] at m1 m2 m3
    rw [← hL] at m3
    rw [← hleft, ← hL]
    have hLl : (toksC L).length = L.length * 3 := by rw [toksC_length]; omega
    refine wpc_sound (M := MC) (PL := PL0) (CU := cutAt [100015, 100021]) TTok mixed _ _ _ ?_
    conv => whnf
    refine ifB_dec (fun k1 => ?_) (fun k1 => ?_)
    · obtain ⟨nn, hnn⟩ : ∃ x, x = min (left - 1) 60 := ⟨_, rfl⟩
      have hmin : (if (60 : Int) < (left : Int) - 1 then 60 else (left : Int) - 1) = (nn : Int) := by split <;> omega
      rw [← hnn] at hs
      conv => whnf
      repeat ((first | (refine fit_i64 ⟨by first | omega | rfl | (dsimp only; omega), by first | omega | rfl | (dsimp only; omega)⟩ ?_) | (refine Or.inl ⟨⟨rfl, ?_⟩, ?_⟩; (focus (first | rfl | (simp; done) | (rw [toksC_length]; omega)))) | refine ⟨rfl, ?_⟩ | refine ⟨⟨rfl, rfl⟩, ?_⟩ | (refine And.intro ?_ ?_; (focus (first | (simp [limB, lenB, offB]; done) | (simp [limB, lenB, offB]; omega))))); conv => whnf)
      rw [hmin]
      refine Does.loop (fun c : Nat => mkSt [(0, .int .i64 r), (3, .sl 0 0 (L.length + 1 + c) 3 false), (4, .int .i64 left), (5, .int .i64 j), (6, .int .i64 nn), (7, .int .i64 c)] [(0, toksC (L ++ blkT nn c))] 1 108) (fun c => c ≤ nn) (fun c => nn - c) ?_ 0 (Nat.zero_le _) ?_
      · intro c hc
        have hlc : (toksC (L ++ blkT nn c)).length = (L.length + 1 + c) * 3 := by rw [toksC_length]; simp [blkT]; omega
        refine wpc_sound (M := MC) (PL := PL0) (CU := cutAt [100015, 100021]) TTok mixed _ _ _ ?_
        conv => whnf
        refine ifB_dec (fun k2 => ?_) (fun k2 => ?_)
        · conv => whnf
          repeat ((first | (refine fit_i64 ⟨by first | omega | rfl | (dsimp only; omega), by first | omega | rfl | (dsimp only; omega)⟩ ?_) | (refine Or.inl ⟨⟨rfl, ?_⟩, ?_⟩; (focus (first | rfl | (simp; done) | (rw [toksC_length]; omega)))) | refine ⟨rfl, ?_⟩ | refine ⟨⟨rfl, rfl⟩, ?_⟩ | (refine And.intro ?_ ?_; (focus (first | (simp [limB, lenB, offB]; done) | (simp [limB, lenB, offB]; omega))))); conv => whnf)
          refine ⟨c + 1, by omega, by omega, weaker_of [(0, 2)] rfl rfl ⟨⟨rfl, rfl⟩, ⟨rfl, by simp [Nat.add_assoc], by simp [Nat.add_assoc], rfl, id⟩, ⟨rfl, rfl⟩, ⟨rfl, rfl⟩, ⟨rfl, rfl⟩, ⟨rfl, rfl⟩, trivial⟩ ⟨?_, trivial⟩⟩
          rw [show blkT nn (c + 1) = blkT nn c ++ [⟨1, 0, []⟩] by simp [blkT, List.replicate_succ'], ← List.append_assoc]
          conv => whnf
          exact lesP_toks_nil
        · obtain rfl : c = nn := by omega
          conv => whnf
          repeat ((refine fit_i64 ⟨by first | omega | rfl | (dsimp only; omega), by first | omega | rfl | (dsimp only; omega)⟩ ?_); conv => whnf)
          refine ⟨j + 1, by omega, by omega, weaker_of [(0, 0)] rfl rfl ⟨⟨rfl, rfl⟩, ⟨rfl, rfl, by rw [hs]; simp [blkT]; omega, rfl, id⟩, ⟨rfl, by rw [hs]; simp only; omega⟩, ⟨rfl, rfl⟩, trivial⟩ ⟨lesP_toks (by rw [hs]), trivial⟩⟩
      · refine weaker_of [(0, 2)] rfl rfl ⟨⟨rfl, rfl⟩, ⟨rfl, rfl, rfl, rfl, id⟩, ⟨rfl, rfl⟩, ⟨rfl, rfl⟩, ⟨rfl, rfl⟩, ⟨rfl, rfl⟩, trivial⟩ ⟨?_, trivial⟩
        conv => whnf
        exact lesP_toks_nil
    · obtain rfl : j = 10 := m1.1 (by omega)
      obtain ⟨o1, o2⟩ := mAll_ok T (by omega)
      have ol := mAll_len ⟨r, hr2⟩
      simp only at ol
      rw [← hT] at ol
      conv => whnf
      repeat ((first | refine ⟨⟨rfl, rfl⟩, ?_⟩ | (refine ⟨⟨rfl, ?_, ?_, ?_⟩, ?_⟩; (focus (first | (simp; done) | (simp; omega))); (focus (first | exact Or.inl rfl | exact Or.inr (by omega))); (focus (first | (simp [limB, lenB, offB]; done) | (simp [limB, lenB, offB]; omega)))) | refine ⟨ones_toks _, ?_⟩ | (refine Or.inl ⟨⟨rfl, ?_⟩, ?_⟩; (focus (first | (simp [toksC_length]; done) | (simp [toksC_length]; omega))))); conv => whnf)
      refine Does.weakerTo' (env := [(0, .int .i64 r), (8, .sl 0 0 (mAll T).length 3 false)]) (heap := [(0, toksC (mAll T))]) (nx := 1) (n := 108) [(0, 2)] rfl rfl ⟨⟨rfl, rfl⟩, ⟨rfl, rfl, by simp [mAll, hL]; omega, rfl, nofun⟩, trivial⟩ ⟨?_, trivial⟩ ?_
      · rw [show mAll T = [⟨5, 10, []⟩] ++ (mRow T 10).2 from rfl, ← hL, toksC_append]
        conv => whnf
        exact lesP_app (a := toksC [⟨5, 10, []⟩]) (a' := [.int .i64 5, .int .i64 10, .nil]) ⟨⟨rfl, rfl⟩, ⟨rfl, rfl⟩, ⟨rfl, rfl⟩, trivial⟩ (lesP_toks rfl)
      obtain ⟨A, hA⟩ : ∃ x, x = mAll T := ⟨_, rfl⟩
      have en : T = 599 → (encR validR A).2 = 0 := fun h => by rw [hA, h]; exact mAll_enc
      rw [← hA] at o1 o2 ol ⊢
      have e1 := encode_ok A o1 o2
      have e2 := refEncode_ok A o1 o2
      have hAl : (toksC A).length = A.length * 3 := by rw [toksC_length]; omega
      have hr01 : r = 0 ∨ r = 1 := by omega
      refine wpc_sound (M := MC) (PL := PL0) (CU := noCut) TTok mixed _ _ _ ?_
      rcases hr01 with rfl | rfl
      · have en := en (by omega)
        have q1 : ∃ b, encR validR A = (b, 0) := (encR_or validR A).resolve_left (fun h => by rw [h] at en; simp at en)
        obtain ⟨b, q1⟩ := q1
        have n1 := encR_len q1
        have d1 := decode_ok b (by have := encR_byt A o1; rw [q1] at this; exact this) (by omega)
        rw [decR_enc o1 q1] at d1
        rw [q1] at e1 e2
        dsimp only at e1 e2 d1
        rw [decide_eq_true rfl] at e2
        have b1 := bytes_ok b b (by omega)
        have k1 := toks_ok A A o2 (by omega)
        rw [decide_eq_true rfl] at b1 k1
        conv => whnf
        repeat ((first | (refine Or.inl ⟨⟨rfl, ?_⟩, ?_⟩; (focus (first | rfl | (simp; done) | (rw [toksC_length]; omega)))) | refine ⟨rfl, ?_⟩ | (refine And.intro ?_ ?_; (focus (first | (simp only [pureL, pureV, pureL_bys, Bool.and_true, Bool.and_self]; done) | (simp only [pureL, pureV, pureL_bys, pureL_toks, Bool.and_true, Bool.and_self]; done))))); conv => whnf)
        refine ⟨_, _, e1, by first | rfl | simp [noRoIf, noRoL, noRoV, noRoL_bys], ?_⟩
        conv => whnf
        repeat ((first | (refine Or.inl ⟨⟨rfl, ?_⟩, ?_⟩; (focus (first | rfl | (simp; done) | (rw [toksC_length]; omega)))) | refine ⟨rfl, ?_⟩ | (refine And.intro ?_ ?_; (focus (first | (simp only [pureL, pureV, pureL_bys, Bool.and_true, Bool.and_self]; done) | (simp only [pureL, pureV, pureL_bys, pureL_toks, Bool.and_true, Bool.and_self]; done))))); conv => whnf)
        refine ⟨_, _, e2, by first | rfl | simp [noRoIf, noRoL, noRoV, noRoL_bys], ?_⟩
        conv => whnf
        repeat ((first | refine ifB_f ?_ | (refine ifB_neg (decide_eq_false (by first | omega | rfl | (dsimp only; omega))) ?_) | (refine fit_i64 ⟨by first | omega | rfl | (dsimp only; omega), by first | omega | rfl | (dsimp only; omega)⟩ ?_)); conv => whnf)
        refine Does.freeze 1 rfl (Does.weakerTo' (env := [(0, .int .i64 0), (8, .sl 0 0 A.length 3 false), (9, .ro b.length (bys b)), (10, .int .i64 0), (11, .sl 1 0 b.length 1 false), (12, .bool true)]) (heap := [(0, toksC A), (1, bys b)]) (nx := 2) (n := 108) [(0, 0), (1, 2)] rfl rfl
          ⟨⟨rfl, rfl⟩, ⟨rfl, rfl, rfl, rfl, id⟩, ⟨rfl, whole_bys _, pureL_bys _⟩, ⟨rfl, rfl⟩, ⟨rfl, rfl, rfl, rfl, id⟩, rfl, trivial⟩ ⟨lesP_toks (frzL_toks _), lesP_bys (frzL_bys _), trivial⟩ (wpc_sound (M := MC) (PL := PL0) (CU := noCut) TTok mixed _ _ _ ?_))
        conv => whnf
        repeat ((first | refine ⟨pureL_bys _, ?_⟩ | refine ⟨rfl, ?_⟩); conv => whnf)
        refine ⟨_, _, d1, by first | rfl | simp [noRoIf, noRoL, noRoV, noRoL_bys], ?_⟩
        conv => whnf
        repeat ((first | refine ifB_t ?_ | refine ⟨pureL_bys _, ?_⟩ | (refine Or.inl ⟨⟨rfl, ?_⟩, ?_⟩; (focus (first | rfl | (simp; done) | (rw [toksC_length]; omega)))) | refine ⟨rfl, ?_⟩); conv => whnf)
        refine ⟨_, _, b1, by first | rfl | simp [noRoIf, noRoL, noRoV, noRoL_bys], ?_⟩
        conv => whnf
        repeat ((first | refine ifB_t ?_ | (refine Or.inl ⟨⟨rfl, ?_⟩, ?_⟩; (focus (first | rfl | (simp; done) | (rw [toksC_length]; omega)))) | refine ⟨rfl, ?_⟩ | (refine And.intro ?_ ?_; (focus (first | (simp only [pureL, pureV, pureL_bys, Bool.and_true, Bool.and_self]; done) | (simp only [pureL, pureV, pureL_bys, pureL_toks, Bool.and_true, Bool.and_self]; done))))); conv => whnf)
        refine ⟨_, _, k1, by first | rfl | simp [noRoIf, noRoL, noRoV, noRoL_bys], ?_⟩
        conv => whnf
        repeat ((first | refine ifB_t ?_ | refine ⟨rfl, ?_⟩); conv => whnf)
        refine ⟨_, _, wakes_ok, by first | rfl | simp [noRoIf, noRoL, noRoV, noRoL_bys], ?_⟩
        conv => whnf
        repeat ((first | refine ifB_t ?_ | refine ⟨rfl, ?_⟩); conv => whnf)
        rfl
      · have q1 : encR validR A = ([], 1) := (encR_or validR A).resolve_right (fun ⟨b, h⟩ => by have := (encR_yes h).1; omega)
        rw [q1] at e1 e2
        dsimp only at e1 e2
        rw [decide_eq_false (by omega)] at e2
        conv => whnf
        repeat ((first | (refine Or.inl ⟨⟨rfl, ?_⟩, ?_⟩; (focus (first | rfl | (simp; done) | (rw [toksC_length]; omega)))) | refine ⟨rfl, ?_⟩ | (refine And.intro ?_ ?_; (focus (first | (simp only [pureL, pureV, pureL_bys, Bool.and_true, Bool.and_self]; done) | (simp only [pureL, pureV, pureL_bys, pureL_toks, Bool.and_true, Bool.and_self]; done))))); conv => whnf)
        refine ⟨_, _, e1, by first | rfl | simp [noRoIf, noRoL, noRoV, noRoL_bys], ?_⟩
        conv => whnf
        repeat ((first | (refine Or.inl ⟨⟨rfl, ?_⟩, ?_⟩; (focus (first | rfl | (simp; done) | (rw [toksC_length]; omega)))) | refine ⟨rfl, ?_⟩ | (refine And.intro ?_ ?_; (focus (first | (simp only [pureL, pureV, pureL_bys, Bool.and_true, Bool.and_self]; done) | (simp only [pureL, pureV, pureL_bys, pureL_toks, Bool.and_true, Bool.and_self]; done))))); conv => whnf)
        refine ⟨_, _, e2, by first | rfl | simp [noRoIf, noRoL, noRoV, noRoL_bys], ?_⟩
        conv => whnf
        repeat ((first | refine ifB_t ?_ | refine ifB_f ?_ | (refine ifB_neg (decide_eq_false (by first | omega | rfl | (dsimp only; omega))) ?_) | (refine fit_i64 ⟨by first | omega | rfl | (dsimp only; omega), by first | omega | rfl | (dsimp only; omega)⟩ ?_) | refine ⟨rfl, ?_⟩); conv => whnf)
        refine ⟨_, _, wakes_ok, by first | rfl | simp [noRoIf, noRoL, noRoV, noRoL_bys], ?_⟩
        conv => whnf
        repeat ((first | refine ifB_t ?_ | refine ⟨rfl, ?_⟩); conv => whnf)
        rfl
  · exact weaker_of [] rfl rfl ⟨⟨rfl, rfl⟩, rfl, ⟨rfl, rfl⟩, ⟨rfl, rfl⟩, trivial⟩ ⟨rfl, trivial⟩
end Go.Proofs.YtobjehjfdmelhabDoor.Abs
end
section
set_option linter.unusedVariables false
namespace Go.Proofs.YtobjehjfdmelhabDoor.Abs
open Go Go.Shelf Go.Lib
theorem first_eq : ∀ c : Fin 256, firstT c.val = utf8First.getD c.val 0 := by decide +kernel
theorem acc_eq : ∀ i : Fin 16, accLo i.val = utf8Ranges.getD (2 * i.val) 0 ∧ accHi i.val = utf8Ranges.getD (2 * i.val + 1) 0 := by decide +kernel
theorem tabOk_of {W : World} (h : Lib.Utf8Tabs 0 1 W) : TabOk (env0 W) := by
  obtain ⟨h1, h2⟩ := h
  have l1 : utf8First.length = 256 := by decide +kernel
  have l2 : utf8Ranges.length = 32 := by decide +kernel
  have s0 : 0 < W.heap.size := World.block_lt_of_cell? _ _ (h1 0 (by omega))
  have s1 : 1 < W.heap.size := World.block_lt_of_cell? _ _ (h2 0 (by omega)).1
  intro g k l hg
  unfold tabs at hg
  by_cases g0 : g = 0
  · subst g0
    simp only [Nat.beq_refl, cond_true, Option.some.injEq, Prod.mk.injEq] at hg
    obtain ⟨rfl, rfl⟩ := hg
    refine ⟨s0, fun hv => hv, fun j x hx => ?_⟩
    have hj : j < 256 := by rw [← l1]; exact (List.getElem?_eq_some_iff.1 hx).1
    have := h1 j hj
    have e := first_eq ⟨j, hj⟩
    simp only at e
    rw [e, List.getD_eq_getElem?_getD, hx] at this
    exact this
  · have hb : Nat.beq g 0 = false := by
      cases hh : Nat.beq g 0
      · rfl
      · exact absurd (Nat.eq_of_beq_eq_true hh) g0
    rw [hb, cond_false] at hg
    by_cases g1 : g = 1
    · subst g1
      simp only [Nat.beq_refl, cond_true, Option.some.injEq, Prod.mk.injEq] at hg
      obtain ⟨rfl, rfl⟩ := hg
      refine ⟨s1, fun hv => hv, fun j x hx => ?_⟩
      have hj : j < 32 := by rw [← l2]; exact (List.getElem?_eq_some_iff.1 hx).1
      have e := acc_eq ⟨j / 2, by omega⟩
      obtain ⟨q1, q2⟩ := h2 (j / 2) (by omega)
      simp only at e
      rw [e.1] at q1
      rw [e.2] at q2
      rcases Nat.mod_two_eq_zero_or_one j with hm | hm
      · have ej : 2 * (j / 2) = j := by omega
        rw [ej, List.getD_eq_getElem?_getD, hx] at q1
        exact q1
      · have ej : 2 * (j / 2) + 1 = j := by omega
        rw [ej, List.getD_eq_getElem?_getD, hx] at q2
        exact q2
    · have hb : Nat.beq g 1 = false := by
        cases hh : Nat.beq g 1
        · rfl
        · exact absurd (Nat.eq_of_beq_eq_true hh) g1
      rw [hb, cond_false] at hg
      cases hg
/-- The numbers of this program's types and tables. -/
def utRen : Ren := ⟨fun x => x, fun n => if n = 5 then 5 else if n = 119 then 66 else if n = 138 then 68 else 69, fun n => if n = 3 then 0 else 1⟩
theorem tabOk_of_laid {W : World} (hL : laidMet Tryd.prog [("unicode/utf8.acceptRanges", Rows.laid_unicode_utf8_acceptRanges), ("unicode/utf8.first", Rows.laid_unicode_utf8_first)] W) : TabOk (env0 W) := by
  have e1 : Rows.laid_unicode_utf8_first = Lib.firstData := Pinned.utf8First_eq
  have e2 : (Rows.laid_unicode_utf8_acceptRanges : DataW Unit) = Lib.acceptData := by kernel_rfl
  rw [e1, e2] at hL
  exact tabOk_of (utf8Tabs_of_readsT (P := Tryd.prog) (ρ := utRen) ⟨by kernel_rfl, by kernel_rfl, by kernel_rfl, by kernel_rfl⟩ ⟨by kernel_rfl, by kernel_rfl, by kernel_rfl, by kernel_rfl, by kernel_rfl, by kernel_rfl, by kernel_rfl⟩
    (Lib.laidMet.reads hL (.tail _ (.head _))) (Lib.laidMet.reads hL (.head _)))
end Go.Proofs.YtobjehjfdmelhabDoor.Abs
end
section
namespace Go.Proofs.YtobjehjfdmelhabDoor.cborMany
open Go Go.ChangeShapes Go.WideShapes Go.ChangeAt Go.RowKit Go.Proofs.YtobjehjfdmelhabDoor.Abs
set_option linter.unusedVariables false
set_option linter.unusedSimpArgs false
theorem own : ownKnob Tryd.prog.godebug = none := by kernel_rfl
theorem laidOut : laidOutB Tryd.prog = true := by kernel_rfl
noncomputable def laidWorld (os : Os) : World := World.laidAll Tryd.prog os Rows.cborManyRow.laid
theorem laid_met (os : Os) (args : Array Value) : laidMetH Tryd.prog Rows.cborManyRow.laid ((laidWorld os).forCall (fun _ _ => 0) ⟨#[], args, []⟩).memory := by
  rw [MakeChecks.laidMetH_plain _ _ _ (by kernel_rfl)]
  exact laidMet_laidAll args (by kernel_rfl) (by kernel_rfl)
set_option maxRecDepth 100000 in
theorem lifted (os : Os) (started : os.Started) (H : Type) (enc : TypeId × Value → H) :
    ReturnsInHanded {} Tryd.checked os 3 .any (fun w args => (Rows.cborManySpec.pre enc Tryd.prog Tryd.f3 [] false w args ∧ laidMetH Tryd.prog Rows.cborManyRow.laid w) ∧ sizedMet enc Tryd.prog Tryd.f3 (OpenSpec.ofChange Rows.cborManySpec) false w args)
      (Rows.cborManySpec.post enc Tryd.prog Tryd.f3 false true false false) := by
  refine returnsInHanded_of_change_and (C := Tryd.checked) (X := fun w _ => laidMetH Tryd.prog Rows.cborManyRow.laid w) (fun _ _ _ hh h => h.of_heap hh) own started (by kernel_rfl) Tryd.func3
    (ChangeSpec.witness_shaped (enc := enc) (C := Tryd.checked) (os := os) (X := fun w _ => laidMetH Tryd.prog Rows.cborManyRow.laid w) false (laidWorld os) #[.int .i64 0] 8 (World.laidAll_os _ _ _) (World.shaped_of_RefB (by kernel_rfl) (by kernel_rfl)) (by kernel_rfl) (by kernel_rfl) (by kernel_rfl) (laid_met os _)) ?_
  intro W base args ds gs before hval0 hW _ _ hL _
  have hval : ∀ (j : Nat) t v, Tryd.f3.params[j]? = some t → args[j]? = some v → Value.okWide Tryd.prog W .any base t v := hval0
  have hW' := hW
  obtain ⟨p, q, hA0, hV, rfl, hfz, hnd⟩ := hW
  have hA : DataW.TrodAll enc Tryd.prog W 0 (fun _ => true) true Tryd.f3.params.toList args.toList ds p := hA0
  rw [Tryd.params3] at hA hval
  rw [MakeChecks.laidMetH_plain _ _ _ (by kernel_rfl)] at hL
  have htab : TabOk (env0 W) := tabOk_of_laid hL
  obtain ⟨v0, vs0, d0, ds0, p0, q0, hargs, rfl, rfl, h0, r0⟩ := trodAll_cons hA
  obtain ⟨rfl, rfl, rfl⟩ := trodAll_nil r0
  obtain rfl : args = #[v0] := by cases args; simp_all
  obtain ⟨rfl, rfl⟩ := trodVars_none hV
  obtain ⟨a0, rfl, rfl, rfl, w0⟩ := open_int Tryd.underlying3 (hval 0 3 v0 rfl rfl) h0
  clear hA0 hval0
  refine (ACall.row (cborMany_ok a0 (wf_i64 w0)) (by simp [pureL, pureV, pureL_bys, pureL_ints, pureL_toks]) (W := W) (vals := [.int .i64 a0]) (by simp only [RepL]; exact ⟨_, _, rfl, rep_int _ _ _, rfl⟩) htab).mono fun e W' ⟨he, bel⟩ => ?_
  subst he
  exact ⟨_, rfl, _, _, _, [], _, [], hW', trodAll_mk1 (shut_bool Tryd.underlying4 _), (trodAll_cons_mk (shut_int Tryd.underlying3 w0) trodAll_mk0), rfl, bel.frame _, fun h => by cases h⟩
theorem over : Rows.cborManyRow.holds Tryd.pinned (OpenSpec.ofChange Rows.cborManySpec) :=
  OpenClaim.holds_of_wide 3 Tryd.f3 rfl rfl rfl rfl rfl rfl rfl ⟨rfl, rfl, rfl, rfl, rfl⟩ rfl rfl rfl rfl rfl (by kernel_rfl) Tryd.func3 (by kernel_rfl)
    (of_decide_eq_true (by kernel_rfl)) (by unfold Func.isWrapper; first | (rw [if_pos (by decide +kernel)]; kernel_rfl) | (rw [if_neg (by decide +kernel)]; exact ⟨rfl, rfl⟩))
    (fun os started H enc _ => lifted os started H enc)
/-- The tied card. -/
theorem card : Claim7.holds Tryd.pinned (.plain (OpenSpec.ofChange Rows.cborManySpec)) Rows.cborManyCard :=
  Claim7.holds_tied_plain_at .later [] [.data, .pinned] true (true, "a8387c4bb88e1ed4b066c2297a440e9d280a4f3fb25a543b380fcf612291c486") false
    over (fun _ h => by cases h) (by kernel_rfl) (fun _ h => by cases h) cborMany_row_tie rfl ⟨rfl, rfl⟩ (by kernel_rfl) rfl
    (fun f fn hf hfn => by
      obtain rfl : f = 3 := Option.some.inj ((show Tryd.prog.funcNamed "codicil/codicillaw10.CborMany" = some 3 by kernel_rfl).symm.trans hf) |>.symm
      obtain rfl : fn = Tryd.f3 := (Option.some.inj (Tryd.func3.symm.trans hfn)).symm
      exact ⟨by kernel_rfl, fun j t ht => by
        rw [Tryd.params3] at ht
        have hm : t ∈ [3] := by simpa using Array.mem_of_getElem? ht
        have hall : ([3].all fun u => !Tryd.prog.wantsStandIn u) = true := by kernel_rfl
        exact (show Tryd.prog.wantsStandIn t = false by simpa using List.all_eq_true.1 hall t hm)⟩)
    (by kernel_rfl)
end Go.Proofs.YtobjehjfdmelhabDoor.cborMany
namespace Go.Proofs.YtobjehjfdmelhabDoor
/-- The law CborMany. -/
theorem cborMany_holds : Rows.CborManyCardSaid := cborMany.card
end Go.Proofs.YtobjehjfdmelhabDoor
end
