/- Texts CT to X5, merged. -/
import Derived.Test.YtobjehjfdmelhaaDoorRows
import Derived.Test.YtobjehjfdmelhaaDoorProg
import Derived.Lib.LaidU8T
import Derived.PinnedBridge
import Derived.Test.YtobjehjfdmelhaaDoorCards
import Derived.Test.YtobjehjfdmelhaaDoorTie
import Derived.WalkKit
import Derived.ProofKit
import Derived.OpenShut
import Derived.ShutString
import Derived.ChangeOld
import Derived.Below
import Derived.SizedLaws
import Derived.Carry
import Derived.ChangeSlices
import Derived.LaidMore
import Derived.Stop.Joined
import Derived.SevenTiedAt
import Derived.Lay
import Derived.Test.YtobjehjfdmelhaaDoorK3
section
set_option linter.unusedVariables false
set_option linter.unusedSimpArgs false
namespace Go.Proofs.YtobjehjfdmelhaaDoor.Abs
open Go
def rLoop (g : Nat → Option (Nat × List Int)) (mp : Bool) : Nat → Nat → Nat → List Int → List Int → Option (Nat × List Int)
  | 0, _, at', b, _ => some (at', b)
  | n + 1, i, at', b, last =>
    match g at' with
    | none => none
    | some (a, x) =>
      if 32768 < b.length + x.length then none
      else if mp = true ∧ i % 2 = 0 then
        if 0 < i ∧ (bytesLt x last || decide (x = last)) = true then none else rLoop g mp n (i + 1) a (b ++ x) x
      else rLoop g mp n (i + 1) a (b ++ x) last
def rBad (t : Tok) : Prop := ((t.k = 3 ∨ t.k = 4) ∧ t.n ≠ 0) ∨ (¬ (t.k = 3 ∨ t.k = 4) ∧ 0 < t.b.length) ∨ t.n < 0
instance (t : Tok) : Decidable (rBad t) := by unfold rBad; infer_instance
/-- An item from a token on: where the next one is, the bytes; f: how deep arrays may still be. -/
def rItem (u : List Int → Bool) (l : List Tok) : Nat → Nat → Option (Nat × List Int)
  | f, at' =>
    if h : l.length ≤ at' then none
    else
      let t := l[at']'(by omega)
      if rBad t then none
      else if t.k = 1 then some (at' + 1, putL 0 t.n)
      else if t.k = 2 then some (at' + 1, putL 1 t.n)
      else if t.k = 3 then some (at' + 1, putL 2 t.b.length ++ t.b)
      else if t.k = 4 then if u t.b = true then some (at' + 1, putL 3 t.b.length ++ t.b) else none
      else if t.k = 5 ∨ t.k = 6 then
        match f with
        | 0 => none
        | f + 1 =>
          if 64 < t.n then none
          else if t.k = 6 then rLoop (rItem u l f) true (2 * t.n.toNat) 0 (at' + 1) (putL 5 t.n) []
          else rLoop (rItem u l f) false t.n.toNat 0 (at' + 1) (putL 4 t.n) []
      else none
theorem lt_tri : ∀ (a b : List Int), (bytesLt a b || decide (a = b)) = !bytesLt b a
  | [], [] => by simp [bytesLt]
  | [], _ :: _ => by simp [bytesLt]
  | _ :: _, [] => by simp [bytesLt]
  | x :: a, y :: b => by
    have ih := lt_tri a b
    simp only [bytesLt]
    by_cases h1 : x < y
    · have h2 : ¬ y < x := by omega
      have h3 : ¬ y = x := by omega
      simp [h1, h2, h3]
    · by_cases h2 : y < x
      · have h3 : ¬ x = y := by omega
        simp [h1, h2, h3]
      · obtain rfl : x = y := by omega
        simpa using ih
theorem cmp_ge {a b : List Int} : decide (0 ≤ cmpI a b) = !bytesLt a b := by
  unfold cmpI
  cases bytesLt a b with
  | true => simp
  | false => by_cases h : a = b <;> simp [h]
/-- What a loop goes over. -/
theorem rLoop_grow {g : Nat → Option (Nat × List Int)} {mp : Bool} : ∀ (n i at' : Nat) (b last : List Int) (a : Nat) (bs : List Int), rLoop g mp n i at' b last = some (a, bs) → b <+: bs
  | 0, i, at', b, last, a, bs, h => by
    simp only [rLoop, Option.some.injEq, Prod.mk.injEq] at h
    rw [h.2]
    exact List.prefix_refl _
  | n + 1, i, at', b, last, a, bs, h => by
    unfold rLoop at h
    split at h
    · cases h
    rename_i a' x hg
    split at h
    · cases h
    split at h
    · split at h
      · cases h
      · exact (List.prefix_append _ _).trans (rLoop_grow n _ _ _ _ _ _ h)
    · exact (List.prefix_append _ _).trans (rLoop_grow n _ _ _ _ _ _ h)
/-- A step of the writer that does what a step of the reckoning does. -/
def Fits (W' : W → W) (g : Nat → Option (Nat × List Int)) : Prop :=
  ∀ (at' : Nat) (out : List Int) (a : Nat) (bs : List Int), g at' = some (a, bs) → out.length + bs.length ≤ 32768 → W' ⟨at', out, false⟩ = ⟨a, out ++ bs, false⟩
theorem arr_fits {w : W → W} {g : Nat → Option (Nat × List Int)} (H : Fits w g) : ∀ (n i at' : Nat) (out b last : List Int) (a : Nat) (bs : List Int), rLoop g false n i at' b last = some (a, bs) → out.length + bs.length ≤ 32768 →
    wArr w n ⟨at', out ++ b, false⟩ = ⟨a, out ++ bs, false⟩
  | 0, i, at', out, b, last, a, bs, h, hl => by
    simp only [rLoop, Option.some.injEq, Prod.mk.injEq] at h
    rw [h.1, h.2]
    rfl
  | n + 1, i, at', out, b, last, a, bs, h, hl => by
    unfold rLoop at h
    split at h
    · cases h
    rename_i a' x hg
    split at h
    · cases h
    rw [if_neg (by simp)] at h
    have hp := (rLoop_grow _ _ _ _ _ _ _ h).length_le
    simp only [List.length_append] at hp
    have e := H at' (out ++ b) a' x hg (by simp; omega)
    rw [wArr, if_neg (by simp), e, List.append_assoc]
    exact arr_fits H n _ _ out (b ++ x) last a bs h hl
theorem map_fits {w : W → W} {g : Nat → Option (Nat × List Int)} (H : Fits w g) : ∀ (n i at' : Nat) (out b last : List Int) (from' to' : Nat) (a : Nat) (bs : List Int), rLoop g true (2 * n) (2 * i) at' b last = some (a, bs) → out.length + bs.length ≤ 32768 →
    (0 < i → to' ≤ (out ++ b).length ∧ last = ((out ++ b).drop from').take (to' - from')) → wMap w n i from' to' ⟨at', out ++ b, false⟩ = ⟨a, out ++ bs, false⟩
  | 0, i, at', out, b, last, from', to', a, bs, h, hl, _ => by
    simp only [Nat.mul_zero, rLoop, Option.some.injEq, Prod.mk.injEq] at h
    rw [h.1, h.2]
    rfl
  | n + 1, i, at', out, b, last, from', to', a, bs, h, hl, hk => by
    rw [show 2 * (n + 1) = 2 * n + 1 + 1 by omega] at h
    unfold rLoop at h
    split at h
    · cases h
    rename_i a' x hg
    split at h
    · cases h
    rw [if_pos ⟨rfl, by omega⟩] at h
    split at h
    · cases h
    rename_i hlt
    unfold rLoop at h
    split at h
    · cases h
    rename_i a2 y hg2
    split at h
    · cases h
    rw [if_neg (by omega)] at h
    have hp := (rLoop_grow _ _ _ _ _ _ _ h).length_le
    simp only [List.length_append] at hp
    have e := H at' (out ++ b) a' x hg (by simp; omega)
    have e2 := H a' (out ++ b ++ x) a2 y hg2 (by simp; omega)
    have hcond : ¬ (((w ⟨at', out ++ b, false⟩).bad || (decide (0 < i) && decide (0 ≤ cmpI (((w ⟨at', out ++ b, false⟩).out.drop from').take (to' - from')) ((w ⟨at', out ++ b, false⟩).out.drop (out ++ b).length)))) = true) := by
      rw [e]
      simp only [Bool.false_or]
      by_cases hi : 0 < i
      · obtain ⟨k1, k2⟩ := hk hi
        have d1 : ((out ++ b ++ x).drop from').take (to' - from') = last := by
          rw [k2]
          by_cases hf : from' ≤ (out ++ b).length
          · rw [List.drop_append_of_le_length hf, List.take_append_of_le_length (by simp; simp at k1; omega)]
          · rw [show to' - from' = 0 by omega]; simp
        have d2 : (out ++ b ++ x).drop (out ++ b).length = x := by simp
        rw [d1, d2, cmp_ge]
        have : ¬ (bytesLt x last || decide (x = last)) = true := fun hh => hlt ⟨by omega, hh⟩
        rw [lt_tri] at this
        simpa [hi] using this
      · simp [hi]
    rw [wMap, if_neg (by simp), if_neg hcond, e, e2]
    have hout : out ++ b ++ x ++ y = out ++ (b ++ x ++ y) := by simp [List.append_assoc]
    simp only
    rw [hout]
    refine map_fits H n (i + 1) a2 out (b ++ x ++ y) x _ _ a bs (by rw [show 2 * (i + 1) = 2 * i + 1 + 1 by omega]; exact h) hl (fun _ => ⟨?_, ?_⟩)
    · simp
    · rw [show out ++ (b ++ x ++ y) = out ++ b ++ (x ++ y) by simp [List.append_assoc], List.drop_left, show (out ++ b ++ x).length - (out ++ b).length = x.length by simp; omega]
      simp
theorem wHead_yes {M n : Int} (hM : 0 ≤ M ∧ M < 8) (hn : 0 ≤ n) (at' : Nat) (out : List Int) : wHead M n ⟨at', out, false⟩ = ⟨at', out ++ putL M n, false⟩ := by
  simp only [wHead, putS]
  rw [if_neg (by omega)]
  simp
theorem item_fits1 (u : List Int → Bool) (l : List Tok) (f : Nat) (ih : ∀ f', f = f' + 1 → Fits (wItem u l f') (rItem u l f')) : Fits (wItem u l f) (rItem u l f) := by
    intro at' out a bs h hl
    unfold rItem at h
    split at h
    · cases h
    rename_i hat
    simp only at h
    split at h
    · cases h
    rename_i hbad
    have hat' : at' < l.length := by omega
    have hb : ∀ t : Tok, ¬ rBad t → (t.k = 3 ∨ t.k = 4 → t.n = 0) ∧ (¬ (t.k = 3 ∨ t.k = 4) → t.b = []) ∧ 0 ≤ t.n := by
      intro t ht
      simp only [rBad] at ht
      exact ⟨by omega, fun hk => List.length_eq_zero_iff.1 (by omega), by omega⟩
    obtain ⟨hb1, hb2, hb3⟩ := hb _ hbad
    unfold wItem
    rw [dif_neg (show ¬ (l.length ≤ (⟨at', out, false⟩ : W).at' ∨ 32768 < (⟨at', out, false⟩ : W).out.length) by simp only; omega)]
    simp only
    split at h
    · rename_i k1
      rw [if_pos k1]
      simp only [Option.some.injEq, Prod.mk.injEq] at h
      obtain ⟨rfl, rfl⟩ := h
      rw [wNumber, hb2 (by omega)]
      simp only [List.length_nil, Int.natCast_zero, Int.lt_irrefl, decide_false, Bool.or_false]
      exact wHead_yes (by omega) hb3 _ _
    rename_i k1; rw [if_neg k1]
    split at h
    · rename_i k2
      rw [if_pos k2]
      simp only [Option.some.injEq, Prod.mk.injEq] at h
      obtain ⟨rfl, rfl⟩ := h
      rw [wNumber, hb2 (by omega)]
      simp only [List.length_nil, Int.natCast_zero, Int.lt_irrefl, decide_false, Bool.or_false]
      exact wHead_yes (by omega) hb3 _ _
    rename_i k2; rw [if_neg k2]
    split at h
    · rename_i k3
      rw [if_pos (.inl k3)]
      simp only [Option.some.injEq, Prod.mk.injEq] at h
      obtain ⟨rfl, rfl⟩ := h
      simp only [List.length_append] at hl
      have n4 : ¬ l[at'].k = 4 := by omega
      rw [wBytes, if_neg (by simp [n4, hb1 (.inl k3)]; omega), if_neg n4]
      rw [wHead_yes (by omega) (by omega)]
      simp
    rename_i k3
    split at h
    · rename_i k4
      rw [if_pos (.inr k4)]
      split at h
      case isFalse => cases h
      rename_i hu
      simp only [Option.some.injEq, Prod.mk.injEq] at h
      obtain ⟨rfl, rfl⟩ := h
      simp only [List.length_append] at hl
      rw [wBytes, if_neg (by simp [k4, hu, hb1 (.inr k4)]; omega), if_pos k4]
      rw [wHead_yes (by omega) (by omega)]
      simp
    rename_i k4
    rw [if_neg (by omega)]
    split at h
    case isFalse => cases h
    rename_i k5
    rw [if_pos k5]
    cases f with
    | zero => cases h
    | succ f =>
      simp only at h ⊢
      split at h
      · cases h
      rename_i hn
      rw [if_neg (by simp [wManyBad, hb2 (by omega)]; omega)]
      have ih := ih f rfl
      split at h
      · rename_i k6
        rw [if_neg (by omega), wHead_yes (by omega) hb3]
        exact map_fits ih _ 0 _ out _ [] 0 0 a bs h hl (fun hh => absurd hh (by omega))
      · rename_i k6
        rw [if_pos (by omega), wHead_yes (by omega) hb3]
        exact arr_fits ih _ 0 _ out _ [] a bs h hl
theorem item_fits (u : List Int → Bool) (l : List Tok) : ∀ f : Nat, Fits (wItem u l f) (rItem u l f)
  | 0 => item_fits1 u l 0 (fun f' h => by omega)
  | f + 1 => item_fits1 u l (f + 1) (fun f' h => by obtain rfl : f = f' := by omega
                                                    exact item_fits u l f)
/-- And the other way round. -/
def Back (W' : W → W) (g : Nat → Option (Nat × List Int)) : Prop :=
  ∀ (w : W), (W' w).bad = false → (W' w).out.length ≤ 32768 → ∃ bs, (W' w).out = w.out ++ bs ∧ g w.at' = some ((W' w).at', bs)
theorem arr_back {w : W → W} {g : Nat → Option (Nat × List Int)} (hm : Mono w) (H : Back w g) : ∀ (n i : Nat) (v : W) (out b last : List Int), v.out = out ++ b → (wArr w n v).bad = false → (wArr w n v).out.length ≤ 32768 →
    ∃ bs, (wArr w n v).out = out ++ bs ∧ rLoop g false n i v.at' b last = some ((wArr w n v).at', bs)
  | 0, i, v, out, b, last, hv, h1, h2 => ⟨b, hv, rfl⟩
  | n + 1, i, v, out, b, last, hv, h1, h2 => by
    have hb := (wArr_mono w hm (n + 1) v h1).1
    rw [wArr, if_neg (by simp [hb])] at h1 h2 ⊢
    obtain ⟨k1, k2⟩ := wArr_mono w hm n _ h1
    have k3 := k2.length_le
    obtain ⟨x, hx, hg⟩ := H v k1 (by omega)
    obtain ⟨bs, e1, e2⟩ := arr_back hm H n (i + 1) (w v) out (b ++ x) last (by rw [hx, hv, List.append_assoc]) h1 h2
    refine ⟨bs, e1, ?_⟩
    rw [hx, hv] at k3
    simp only [List.length_append] at k3
    unfold rLoop
    rw [hg]
    simp only
    rw [if_neg (by omega), if_neg (by simp)]
    exact e2
theorem map_back {w : W → W} {g : Nat → Option (Nat × List Int)} (hm : Mono w) (H : Back w g) : ∀ (n i : Nat) (v : W) (out b last : List Int) (from' to' : Nat), v.out = out ++ b →
    (0 < i → to' ≤ (out ++ b).length ∧ last = ((out ++ b).drop from').take (to' - from')) → (wMap w n i from' to' v).bad = false → (wMap w n i from' to' v).out.length ≤ 32768 →
    ∃ bs, (wMap w n i from' to' v).out = out ++ bs ∧ rLoop g true (2 * n) (2 * i) v.at' b last = some ((wMap w n i from' to' v).at', bs)
  | 0, i, v, out, b, last, from', to', hv, hk, h1, h2 => ⟨b, hv, rfl⟩
  | n + 1, i, v, out, b, last, from', to', hv, hk, h1, h2 => by
    have hb := (wMap_mono w hm (n + 1) i from' to' v h1).1
    rw [wMap, if_neg (by simp [hb])] at h1 h2 ⊢
    split at h1
    · simp at h1
    rename_i hc
    rw [if_neg hc] at h2 ⊢
    obtain ⟨k1, k2⟩ := wMap_mono w hm n _ _ _ _ h1
    obtain ⟨k3, k4⟩ := hm _ k1
    have k5 := k2.length_le
    have k6 := k4.length_le
    obtain ⟨x, hx, hg⟩ := H v k3 (by omega)
    obtain ⟨y, hy, hg2⟩ := H (w v) k1 (by omega)
    have hvl : v.out.length = (out ++ b).length := by rw [hv]
    obtain ⟨bs, e1, e2⟩ := map_back hm H n (i + 1) (w (w v)) out (b ++ x ++ y) x v.out.length (w v).out.length (by rw [hy, hx, hv]; simp [List.append_assoc]) (fun _ => ⟨by rw [hx, hv]; simp, by
      rw [hx, hv, show out ++ (b ++ x ++ y) = out ++ b ++ (x ++ y) by simp [List.append_assoc], List.drop_left, show (out ++ b ++ x).length - (out ++ b).length = x.length by simp; omega]
      simp⟩) h1 h2
    refine ⟨bs, e1, ?_⟩
    have hlt : ¬ (0 < 2 * i ∧ (bytesLt x last || decide (x = last)) = true) := by
      rintro ⟨q1, q2⟩
      obtain ⟨p1, p2⟩ := hk (by omega)
      apply hc
      rw [k3, Bool.false_or, hx, hv]
      have d1 : ((out ++ b ++ x).drop from').take (to' - from') = last := by
        rw [p2]
        by_cases hf : from' ≤ (out ++ b).length
        · rw [List.drop_append_of_le_length hf, List.take_append_of_le_length (by simp; simp at p1; omega)]
        · rw [show to' - from' = 0 by omega]; simp
      have d2 : (out ++ b ++ x).drop (out ++ b).length = x := by simp
      rw [d1, d2, cmp_ge]
      rw [lt_tri] at q2
      simp only [Bool.not_eq_true'] at q2
      simp [q2]
      omega
    have k7 : (w (w v)).out.length ≤ 32768 := by omega
    rw [hy, hx, hv] at k7
    simp only [List.length_append] at k7
    rw [show 2 * (n + 1) = 2 * n + 1 + 1 by omega]
    unfold rLoop
    rw [hg]
    simp only
    rw [if_neg (by omega), if_pos ⟨trivial, by omega⟩, if_neg hlt]
    unfold rLoop
    rw [hg2]
    simp only
    rw [if_neg (by simp; omega), if_neg (by omega)]
    rw [show 2 * i + 1 + 1 = 2 * (i + 1) by omega]
    exact e2
theorem item_back1 (u : List Int → Bool) (l : List Tok) (f : Nat) (ih : ∀ f', f = f' + 1 → Back (wItem u l f') (rItem u l f')) : Back (wItem u l f) (rItem u l f) := by
    intro w h hl
    have hw := (wItem_mono u l f w h).1
    obtain ⟨at', out, bad⟩ := w
    simp only at hw
    subst hw
    unfold wItem at h hl ⊢
    split at h
    · simp at h
    rename_i hh
    rw [dif_neg hh] at hl ⊢
    simp only at hh h hl ⊢
    have hat : ¬ l.length ≤ at' := by omega
    unfold rItem
    rw [dif_neg hat]
    simp only
    have num : ∀ (M : Int) (t : Tok), 0 ≤ M ∧ M < 8 → ¬ (t.k = 3 ∨ t.k = 4) → (wNumber M t ⟨at' + 1, out, false⟩).bad = false → ¬ rBad t ∧ wNumber M t ⟨at' + 1, out, false⟩ = ⟨at' + 1, out ++ putL M t.n, false⟩ := by
      intro M t hM hk hn
      unfold wNumber at hn ⊢
      obtain ⟨q1, q2, q3⟩ := wHead_ok hn hM
      simp only [Bool.false_or, decide_eq_false_iff_not] at q3
      refine ⟨by simp only [rBad]; omega, by rw [q2]⟩
    split at h
    · rename_i k1
      rw [if_pos k1] at hl ⊢
      obtain ⟨q1, q2⟩ := num 0 _ (by omega) (by omega) h
      rw [q2, if_neg q1, if_pos k1]
      exact ⟨_, rfl, rfl⟩
    rename_i k1; rw [if_neg k1] at hl ⊢
    split at h
    · rename_i k2
      rw [if_pos k2] at hl ⊢
      obtain ⟨q1, q2⟩ := num 1 _ (by omega) (by omega) h
      rw [q2, if_neg q1, if_neg k1, if_pos k2]
      exact ⟨_, rfl, rfl⟩
    rename_i k2; rw [if_neg k2] at hl ⊢
    split at h
    · rename_i k3
      rw [if_pos k3] at hl ⊢
      obtain ⟨q1, q2, q3, q4⟩ := wBytes_ok h
      have nb : ¬ rBad l[at'] := by simp only [rBad]; omega
      rw [q4, if_neg nb, if_neg k1, if_neg k2]
      by_cases k4 : l[at'].k = 4
      · rw [if_neg (show ¬ l[at'].k = 3 by omega), if_pos k4, if_pos k4, if_pos (q3 k4)]
        exact ⟨_, by simp, rfl⟩
      · rw [if_pos (show l[at'].k = 3 by omega), if_neg k4]
        exact ⟨_, by simp, rfl⟩
    rename_i k3; rw [if_neg k3] at hl ⊢
    split at h
    case isFalse => simp at h
    rename_i k5
    rw [if_pos k5] at hl ⊢
    cases f with
    | zero => simp at h
    | succ f =>
      simp only at h hl ⊢
      split at h
      · simp at h
      rename_i hb
      rw [if_neg hb] at hl ⊢
      have ih := ih f rfl
      have hmo := wItem_mono u l f
      have hb' : l[at'].b.length = 0 ∧ 0 ≤ l[at'].n ∧ ¬ 64 < l[at'].n := by
        simp only [wManyBad, Bool.or_eq_true, decide_eq_true_eq, not_or] at hb
        omega
      have nb : ¬ rBad l[at'] := by simp only [rBad]; omega
      rw [if_neg nb, if_neg k1, if_neg k2, if_neg (show ¬ l[at'].k = 3 by omega), if_neg (show ¬ l[at'].k = 4 by omega), if_pos k5, if_neg hb'.2.2]
      split at h
      · rename_i k6
        rw [if_pos k6] at hl ⊢
        rw [if_neg (show ¬ l[at'].k = 6 by omega)]
        rw [wHead_yes (by omega) hb'.2.1] at h hl ⊢
        exact arr_back hmo ih _ 0 _ out _ [] rfl h hl
      · rename_i k6
        rw [if_neg k6] at hl ⊢
        rw [if_pos (show l[at'].k = 6 by omega)]
        rw [wHead_yes (by omega) hb'.2.1] at h hl ⊢
        exact map_back hmo ih _ 0 _ out _ [] 0 0 rfl (fun hh => absurd hh (by omega)) h hl
theorem item_back (u : List Int → Bool) (l : List Tok) : ∀ f : Nat, Back (wItem u l f) (rItem u l f)
  | 0 => item_back1 u l 0 (fun f' h => by omega)
  | f + 1 => item_back1 u l (f + 1) (fun f' h => by obtain rfl : f = f' := by omega
                                                    exact item_back u l f)
/-- What a row's bytes are, by the reckoning. -/
theorem encR_iff (u : List Int → Bool) (l : List Tok) (a : List Int) : encR u l = (a, 0) ↔ l.length ≤ 600 ∧ rItem u l 6 0 = some (l.length, a) ∧ a.length ≤ 32768 := by
  constructor
  · intro h
    obtain ⟨h1, h2, h3⟩ := encR_yes h
    obtain ⟨bs, e1, e2⟩ := item_back u l 6 ⟨0, [], false⟩ (by rw [h2]) (by rw [h2]; exact h3)
    rw [h2] at e1 e2
    simp only [List.nil_append] at e1
    subst e1
    exact ⟨h1, e2, h3⟩
  · rintro ⟨h1, h2, h3⟩
    have := item_fits u l 6 0 [] l.length a h2 (by simpa using h3)
    unfold encR
    rw [if_neg (by omega), this]
    simp
    omega
end Go.Proofs.YtobjehjfdmelhaaDoor.Abs
end
section
set_option linter.unusedVariables false
set_option linter.unusedSimpArgs false
namespace Go.Proofs.YtobjehjfdmelhaaDoor.Abs
open Go
def shf (p : Nat) (r : Nat × List Int) : Nat × List Int := (p + r.1, r.2)
theorem rLoop_shift {g g' : Nat → Option (Nat × List Int)} {mp : Bool} {p : Nat} (H : ∀ k, g' (p + k) = (g k).map (shf p)) : ∀ (n i at' : Nat) (b last : List Int), rLoop g' mp n i (p + at') b last = (rLoop g mp n i at' b last).map (shf p)
  | 0, i, at', b, last => rfl
  | n + 1, i, at', b, last => by
    unfold rLoop
    rw [H at']
    cases hg : g at' with
    | none => rfl
    | some r =>
      obtain ⟨a, x⟩ := r
      simp only [Option.map_some, shf]
      split
      · rfl
      split
      · split
        · rfl
        · exact rLoop_shift H n _ _ _ _
      · exact rLoop_shift H n _ _ _ _
theorem rLoop_imp {g g' : Nat → Option (Nat × List Int)} {mp : Bool} (H : ∀ k r, g k = some r → g' k = some r) : ∀ (n i at' : Nat) (b last : List Int) (r : Nat × List Int), rLoop g mp n i at' b last = some r → rLoop g' mp n i at' b last = some r
  | 0, i, at', b, last, r, h => h
  | n + 1, i, at', b, last, r, h => by
    unfold rLoop at h ⊢
    split at h
    · cases h
    rename_i a x hg
    rw [H _ _ hg]
    simp only
    split at h
    · cases h
    rename_i h1
    rw [if_neg h1]
    split at h
    · rename_i h2
      rw [if_pos h2]
      split at h
      · cases h
      · rename_i h3
        rw [if_neg h3]
        exact rLoop_imp H n _ _ _ _ _ h
    · rename_i h2
      rw [if_neg h2]
      exact rLoop_imp H n _ _ _ _ _ h
theorem rLoop_split {g : Nat → Option (Nat × List Int)} {mp : Bool} (m : Nat) : ∀ (n i at' : Nat) (b last : List Int) (r : Nat × List Int), rLoop g mp (n + m) i at' b last = some r →
    ∃ a' b' last', rLoop g mp n i at' b last = some (a', b') ∧ rLoop g mp m (i + n) a' b' last' = some r
  | 0, i, at', b, last, r, h => ⟨at', b, last, rfl, by rw [Nat.zero_add] at h; exact h⟩
  | n + 1, i, at', b, last, r, h => by
    rw [show n + 1 + m = n + m + 1 by omega] at h
    unfold rLoop at h
    split at h
    · cases h
    rename_i a x hg
    split at h
    · cases h
    rename_i h1
    rw [show i + (n + 1) = i + 1 + n by omega]
    split at h
    · rename_i h2
      split at h
      · cases h
      · rename_i h3
        obtain ⟨a', b', l', k1, k2⟩ := rLoop_split m n _ _ _ _ _ h
        refine ⟨a', b', l', ?_, k2⟩
        unfold rLoop
        rw [hg]
        simp only
        rw [if_neg h1, if_pos h2, if_neg h3]
        exact k1
    · rename_i h2
      obtain ⟨a', b', l', k1, k2⟩ := rLoop_split m n _ _ _ _ _ h
      refine ⟨a', b', l', ?_, k2⟩
      unfold rLoop
      rw [hg]
      simp only
      rw [if_neg h1, if_neg h2]
      exact k1
/-- On goes every step. -/
def Gos (g : Nat → Option (Nat × List Int)) (L : Nat) : Prop := ∀ k a x, g k = some (a, x) → k < a ∧ a ≤ L ∧ 0 < x.length
theorem rLoop_go {g : Nat → Option (Nat × List Int)} {mp : Bool} {L : Nat} (H : Gos g L) : ∀ (n i at' : Nat) (b last : List Int) (a : Nat) (bs : List Int), rLoop g mp n i at' b last = some (a, bs) → at' + n ≤ a ∧ (at' ≤ L → a ≤ L) ∧ b.length + n ≤ bs.length
  | 0, i, at', b, last, a, bs, h => by
    simp only [rLoop, Option.some.injEq, Prod.mk.injEq] at h
    rw [h.1, h.2]
    exact ⟨Nat.le_refl _, fun h => h, Nat.le_refl _⟩
  | n + 1, i, at', b, last, a, bs, h => by
    unfold rLoop at h
    split at h
    · cases h
    rename_i a1 x hg
    obtain ⟨q1, q2, q3⟩ := H _ _ _ hg
    have fin : ∀ lst, rLoop g mp n (i + 1) a1 (b ++ x) lst = some (a, bs) → at' + (n + 1) ≤ a ∧ (at' ≤ L → a ≤ L) ∧ b.length + (n + 1) ≤ bs.length := by
      intro lst hh
      obtain ⟨p1, p2, p3⟩ := rLoop_go H n _ _ _ _ _ _ hh
      simp only [List.length_append] at p3
      exact ⟨by omega, fun _ => p2 q2, by omega⟩
    split at h
    · cases h
    split at h
    · split at h
      · cases h
      · exact fin _ h
    · exact fin _ h
theorem putL_pos (M n : Int) : 0 < (putL M n).length := by simp [putL]
theorem rItem_go (u : List Int → Bool) (l : List Tok) : ∀ f : Nat, Gos (rItem u l f) l.length
  | 0 => fun k a x h => by
    unfold rItem at h
    split at h
    · cases h
    simp only at h
    have p0 := putL_pos
    split at h
    · cases h
    split at h
    · simp only [Option.some.injEq, Prod.mk.injEq] at h; obtain ⟨rfl, rfl⟩ := h; exact ⟨by omega, by omega, p0 _ _⟩
    split at h
    · simp only [Option.some.injEq, Prod.mk.injEq] at h; obtain ⟨rfl, rfl⟩ := h; exact ⟨by omega, by omega, p0 _ _⟩
    split at h
    · simp only [Option.some.injEq, Prod.mk.injEq] at h; obtain ⟨rfl, rfl⟩ := h; exact ⟨by omega, by omega, by simp only [List.length_append]; have := p0 2 (l[k].b.length : Int); omega⟩
    split at h
    · split at h
      · simp only [Option.some.injEq, Prod.mk.injEq] at h; obtain ⟨rfl, rfl⟩ := h; exact ⟨by omega, by omega, by simp only [List.length_append]; have := p0 3 (l[k].b.length : Int); omega⟩
      · cases h
    split at h
    · cases h
    · cases h
  | f + 1 => fun k a x h => by
    unfold rItem at h
    split at h
    · cases h
    simp only at h
    have p0 := putL_pos
    split at h
    · cases h
    split at h
    · simp only [Option.some.injEq, Prod.mk.injEq] at h; obtain ⟨rfl, rfl⟩ := h; exact ⟨by omega, by omega, p0 _ _⟩
    split at h
    · simp only [Option.some.injEq, Prod.mk.injEq] at h; obtain ⟨rfl, rfl⟩ := h; exact ⟨by omega, by omega, p0 _ _⟩
    split at h
    · simp only [Option.some.injEq, Prod.mk.injEq] at h; obtain ⟨rfl, rfl⟩ := h; exact ⟨by omega, by omega, by simp only [List.length_append]; have := p0 2 (l[k].b.length : Int); omega⟩
    split at h
    · split at h
      · simp only [Option.some.injEq, Prod.mk.injEq] at h; obtain ⟨rfl, rfl⟩ := h; exact ⟨by omega, by omega, by simp only [List.length_append]; have := p0 3 (l[k].b.length : Int); omega⟩
      · cases h
    split at h
    · split at h
      · cases h
      have ih := rItem_go u l f
      split at h
      · obtain ⟨q1, q2, q3⟩ := rLoop_go ih _ _ _ _ _ _ _ h
        exact ⟨by omega, q2 (by omega), by have := p0 5 l[k].n; omega⟩
      · obtain ⟨q1, q2, q3⟩ := rLoop_go ih _ _ _ _ _ _ _ h
        exact ⟨by omega, q2 (by omega), by have := p0 4 l[k].n; omega⟩
    · cases h
/-- What an item is, of its token and of what stands behind. -/
def rTok (u : List Int → Bool) (g : Nat → Option (Nat × List Int)) (z : Bool) (t : Tok) (k : Nat) : Option (Nat × List Int) :=
  if rBad t then none
  else if t.k = 1 then some (k, putL 0 t.n)
  else if t.k = 2 then some (k, putL 1 t.n)
  else if t.k = 3 then some (k, putL 2 t.b.length ++ t.b)
  else if t.k = 4 then if u t.b = true then some (k, putL 3 t.b.length ++ t.b) else none
  else if t.k = 5 ∨ t.k = 6 then
    if z = true then none
    else if 64 < t.n then none
    else if t.k = 6 then rLoop g true (2 * t.n.toNat) 0 k (putL 5 t.n) []
    else rLoop g false t.n.toNat 0 k (putL 4 t.n) []
  else none
def rSub (u : List Int → Bool) (l : List Tok) : Nat → Nat → Option (Nat × List Int)
  | 0 => fun _ => none
  | f + 1 => rItem u l f
theorem rItem_tok (u : List Int → Bool) (l : List Tok) (f k : Nat) (hk : k < l.length) : rItem u l f k = rTok u (rSub u l f) (decide (f = 0)) l[k] (k + 1) := by
  cases f with
  | zero =>
    unfold rItem rTok rSub
    rw [dif_neg (by omega)]
    simp
  | succ f =>
    unfold rItem rTok rSub
    rw [dif_neg (by omega)]
    simp
theorem rItem_none (u : List Int → Bool) (l : List Tok) (f k : Nat) (hk : l.length ≤ k) : rItem u l f k = none := by
  unfold rItem
  rw [dif_pos hk]
theorem rTok_shift {u : List Int → Bool} {g g' : Nat → Option (Nat × List Int)} {z : Bool} {p : Nat} (H : ∀ k, g' (p + k) = (g k).map (shf p)) (t : Tok) (k : Nat) : rTok u g' z t (p + k) = (rTok u g z t k).map (shf p) := by
  unfold rTok
  split
  · rfl
  split
  · rfl
  split
  · rfl
  split
  · rfl
  split
  · split <;> rfl
  split
  · split
    · rfl
    split
    · rfl
    split
    · exact rLoop_shift H _ _ _ _ _
    · exact rLoop_shift H _ _ _ _ _
  · rfl
theorem rTok_imp {u : List Int → Bool} {g g' : Nat → Option (Nat × List Int)} {z z' : Bool} (hz : z' = true → z = true) (H : ∀ k r, g k = some r → g' k = some r) (t : Tok) (k : Nat) (r : Nat × List Int) (h : rTok u g z t k = some r) : rTok u g' z' t k = some r := by
  unfold rTok at h ⊢
  split at h
  · cases h
  rename_i h0; rw [if_neg h0]
  split at h
  · rename_i h1; rw [if_pos h1]; exact h
  rename_i h1; rw [if_neg h1]
  split at h
  · rename_i h2; rw [if_pos h2]; exact h
  rename_i h2; rw [if_neg h2]
  split at h
  · rename_i h3; rw [if_pos h3]; exact h
  rename_i h3; rw [if_neg h3]
  split at h
  · rename_i h4; rw [if_pos h4]; exact h
  rename_i h4; rw [if_neg h4]
  split at h
  · rename_i h5
    rw [if_pos h5]
    split at h
    · cases h
    rename_i h6
    rw [if_neg (fun e => h6 (hz e))]
    split at h
    · cases h
    rename_i h7
    rw [if_neg h7]
    split at h
    · rename_i h8; rw [if_pos h8]; exact rLoop_imp H _ _ _ _ _ _ h
    · rename_i h8; rw [if_neg h8]; exact rLoop_imp H _ _ _ _ _ _ h
  · cases h
theorem rItem_shift (u : List Int → Bool) (pre l : List Tok) : ∀ (f k : Nat), rItem u (pre ++ l) f (pre.length + k) = (rItem u l f k).map (shf pre.length)
  | f, k => by
    by_cases hk : k < l.length
    · rw [rItem_tok u (pre ++ l) f (pre.length + k) (by simp; omega), rItem_tok u l f k hk]
      have e : (pre ++ l)[pre.length + k]'(by simp; omega) = l[k] := by simp [List.getElem_append_right]
      rw [e, show pre.length + k + 1 = pre.length + (k + 1) by omega]
      cases f with
      | zero => exact rTok_shift (fun k => rfl) _ _
      | succ f => exact rTok_shift (fun k => rItem_shift u pre l f k) _ _
    · rw [rItem_none _ _ _ _ (by simp; omega), rItem_none _ _ _ _ (by omega)]
      rfl
theorem rItem_ext (u : List Int → Bool) (l q : List Tok) : ∀ (f k : Nat) (r : Nat × List Int), rItem u l f k = some r → rItem u (l ++ q) f k = some r
  | f, k, r, h => by
    by_cases hk : k < l.length
    · rw [rItem_tok u l f k hk] at h
      rw [rItem_tok u (l ++ q) f k (by simp; omega)]
      have e : (l ++ q)[k]'(by simp; omega) = l[k] := by simp [List.getElem_append_left, hk]
      rw [e]
      cases f with
      | zero => exact rTok_imp (fun h => h) (fun k r h => h) _ _ _ h
      | succ f => exact rTok_imp (fun h => h) (fun k r h => rItem_ext u l q f k r h) _ _ _ h
    · rw [rItem_none _ _ _ _ (by omega)] at h
      cases h
theorem rItem_deep (u : List Int → Bool) (l : List Tok) : ∀ (f k : Nat) (r : Nat × List Int), rItem u l f k = some r → rItem u l (f + 1) k = some r
  | f, k, r, h => by
    by_cases hk : k < l.length
    · rw [rItem_tok u l f k hk] at h
      rw [rItem_tok u l (f + 1) k hk]
      cases f with
      | zero => exact rTok_imp (fun h => by simp at h) (fun k r h => by cases h) _ _ _ h
      | succ f => exact rTok_imp (fun h => by simp at h) (fun k r h => rItem_deep u l f k r h) _ _ _ h
    · rw [rItem_none _ _ _ _ (by omega)] at h
      cases h
/-- An array of three: its head, and theirs. -/
theorem inside3 {u : List Int → Bool} {a b c : List Tok} {x y z s : List Int} (ha : encR u a = (x, 0)) (hb : encR u b = (y, 0)) (hc : encR u c = (z, 0)) (h : encR u ([⟨5, 3, []⟩] ++ a ++ b ++ c) = (s, 0)) : s = [131] ++ x ++ y ++ z := by
  rw [encR_iff] at ha hb hc h
  obtain ⟨_, ha, _⟩ := ha
  obtain ⟨_, hb, _⟩ := hb
  obtain ⟨_, hc, _⟩ := hc
  obtain ⟨_, h, _⟩ := h
  have place : ∀ (pre l post : List Tok) (w : List Int), rItem u l 6 0 = some (l.length, w) → ∀ r, rItem u (pre ++ l ++ post) 5 pre.length = some r → r = (pre.length + l.length, w) := by
    intro pre l post w hw r hr
    have h1 := rItem_ext u (pre ++ l) post 6 pre.length (pre.length + l.length, w) (by
      have := rItem_shift u pre l 6 0
      rw [hw] at this
      simpa [shf] using this)
    have h2 := rItem_deep _ _ _ _ _ hr
    rw [h1] at h2
    exact (Option.some.inj h2).symm
  rw [rItem_tok _ _ _ _ (by simp)] at h
  have e0 : ([⟨5, 3, []⟩] ++ a ++ b ++ c : List Tok)[0]'(by simp) = ⟨5, 3, []⟩ := by simp
  rw [e0] at h
  have ep : putL 4 3 = [131] := by decide
  unfold rTok rSub at h
  rw [if_neg (by simp [rBad]), if_neg (by simp), if_neg (by simp), if_neg (by simp), if_neg (by simp), if_pos (by simp), if_neg (by simp), if_neg (by simp), if_neg (by simp)] at h
  simp only [ep, show (3 : Int).toNat = 3 from rfl] at h
  unfold rLoop at h
  split at h
  · cases h
  rename_i a1 x1 h1
  split at h
  · cases h
  rw [if_neg (by simp)] at h
  unfold rLoop at h
  split at h
  · cases h
  rename_i a2 x2 h2
  split at h
  · cases h
  rw [if_neg (by simp)] at h
  unfold rLoop at h
  split at h
  · cases h
  rename_i a3 x3 h3
  split at h
  · cases h
  rw [if_neg (by simp)] at h
  simp only [rLoop, Option.some.injEq, Prod.mk.injEq] at h
  have k1 := place [⟨5, 3, []⟩] a (b ++ c) x ha (a1, x1) (by simpa [List.append_assoc] using h1)
  simp only [Prod.mk.injEq, List.length_singleton] at k1
  obtain ⟨rfl, rfl⟩ := k1
  have k2 := place ([⟨5, 3, []⟩] ++ a) b c y hb (a2, x2) (by simpa [List.append_assoc, Nat.add_comm] using h2)
  simp only [Prod.mk.injEq, List.length_append, List.length_singleton] at k2
  obtain ⟨rfl, rfl⟩ := k2
  have k3 := place ([⟨5, 3, []⟩] ++ a ++ b) c [] z hc (a3, x3) (by
    rw [show ([⟨5, 3, []⟩] ++ a ++ b : List Tok).length = 1 + a.length + b.length by simp; omega]
    simpa using h3)
  simp only [Prod.mk.injEq] at k3
  rw [← h.2, k3.2]
end Go.Proofs.YtobjehjfdmelhaaDoor.Abs
end
section
set_option linter.unusedVariables false
set_option linter.unusedSimpArgs false
namespace Go.Proofs.YtobjehjfdmelhaaDoor.Abs
open Go
attribute [local irreducible] ifB fitP Does Weaker
def wkC (r : Option (Nat × List Int)) : List AV := match r with
  | some (a, bs) => [.int .i64 (a : Int), .own bs.length 1 (bys bs), .bool false]
  | none => [.int .i64 0, .own 0 1 [], .bool true]
def RItemOk (l : List Tok) (f : Nat) : Prop := ∀ at' : Nat, at' ≤ 1000000 → ACall Tryd.prog 29 [.ro l.length (toksC l), .int .i64 at', .int .i64 (6 - (f : Int))] (.agg (wkC (rItem validR l f at'))) []
theorem ritem_none (l : List Tok) (f : Nat) (hl : l.length ≤ 1000000) (at' : Nat) (h : l.length ≤ at') (d : Int) : ACall Tryd.prog 29 [.ro l.length (toksC l), .int .i64 at', .int .i64 d] (.agg (wkC none)) [] := by
  refine ACall.of_does TTok Tryd.func29 rfl Tryd.call29 rfl (wpc_sound (M := MC) (PL := PL0) (CU := noCut) TTok mixed _ _ _ ?_)
  conv => whnf
  repeat ((first | (refine ifB_pos (decide_eq_true (by first | omega | rfl | (dsimp only; omega))) ?_) | refine ⟨rfl, ?_⟩ | refine ⟨_, rfl, ?_⟩ | refine ⟨⟨rfl, rfl⟩, ?_⟩ | (refine ⟨⟨rfl, rfl, ?_⟩, ?_⟩; (focus (first | exact Nat.le_of_ble_eq_true rfl | (simp; done))))); conv => whnf)
  rfl
def PLri1 : Plan := (takesTo [0, 1, 2, 6] (.all [(3, (takesTo [4] (.all [(5, (.all [(7, (.all [(8, (takesTo [9] (.all [(10, .done)])))]))])), (7, (.all [(5, (.all [(8, (takesTo [9] (.all [(10, .done)])))]))]))]))), (7, (.all [(3, (takesTo [4] (.all [(5, (.all [(8, (takesTo [9] (.all [(10, .done)])))]))])))]))]))
def PLri : Nat → Bool × Plan := plans [(13, (false, PLri1)), (17, (false, PLri1))]
set_option maxHeartbeats 4000000 in
theorem ritem_at (l : List Tok) (hl : ToksOk l) (hlb : ∀ t ∈ l, t.b.length ≤ 1099511627776) (hll : l.length ≤ 1000000) (at' : Nat) (ha : at' < l.length) (f : Nat) (hf : f ≤ 6)
    (hm : (l[at'].k = 5 ∨ l[at'].k = 6) → ¬ rBad l[at'] → ACall Tryd.prog 29 [.ro l.length (toksC l), .int .i64 at', .int .i64 (6 - (f : Int))] (.agg (wkC (rItem validR l f at'))) []) :
    ACall Tryd.prog 29 [.ro l.length (toksC l), .int .i64 at', .int .i64 (6 - (f : Int))] (.agg (wkC (rItem validR l f at'))) [] := by
  have hL := pureL_toks l
  by_cases hmm : (l[at'].k = 5 ∨ l[at'].k = 6) ∧ ¬ rBad l[at']
  · exact hm hmm.1 hmm.2
  clear hm
  rw [rItem_tok _ _ _ _ ha]
  obtain ⟨t, ht⟩ : ∃ t, t = l[at'] := ⟨_, rfl⟩
  have hto : TokOk t := by rw [ht]; exact hl _ (List.getElem_mem ha)
  have htb : t.b.length ≤ 1099511627776 := by rw [ht]; exact hlb _ (List.getElem_mem ha)
  have hld : ∀ m s : Nat, m = 3 * at' → s = 3 → takeN s ((toksC l).drop m) = some (tokC t) := by
    intro m s hm hs
    rw [takeN_tok ha hm hs, ht]
  rw [← ht] at hmm ⊢
  obtain ⟨k, n, b⟩ := t
  clear ht
  simp only [rBad] at htb hmm
  replace hld : ∀ m s : Nat, m = 3 * at' → s = 3 → takeN s ((toksC l).drop m) = some [.int .i64 k, .int .i64 n, .ro b.length (bys b)] := hld
  refine ACall.of_does TTok Tryd.func29 rfl Tryd.call29 rfl (wpc_sound (M := MC) (PL := PLri) (CU := cutAt [200005]) TTok mixed _ _ _ ?_)
  conv => whnf
  repeat ((first | (refine ifB_neg (decide_eq_false (by first | omega | rfl | (dsimp only; omega))) ?_) | refine ⟨rfl, ?_⟩ | (refine ⟨⟨rfl, rfl, ?_⟩, ?_⟩; (focus (first | exact Nat.le_of_ble_eq_true rfl | (simp; done)))) | (refine ⟨⟨?_, ?_, ?_⟩, ?_⟩; (focus omega); (focus (first | omega | (simp; done) | (simp; omega))); (focus (first | (simp; done) | (simp; omega) | (rw [toksC_length]; simp; omega))))); conv => whnf)
  refine ⟨_, hld _ _ (by simp; omega) rfl, ?_⟩
  conv => whnf
  repeat ((first | refine ⟨rfl, ?_⟩ | (refine ⟨⟨rfl, rfl, ?_⟩, ?_⟩; (focus (first | exact Nat.le_of_ble_eq_true rfl | (simp; done))))); conv => whnf)
  refine Does.seqCut (α := Unit) (fun _ => mkSt [(0, .ro l.length (toksC l)), (1, .int .i64 (at' : Int)), (2, .int .i64 (6 - (f : Int))), (6, .ptr 0 0), (7, .ptr 1 0), (8, .ptr 2 0), (57, .bool (decide (rBad ⟨k, n, b⟩)))]
    [(0, [.int .i64 0, .nil, .bool false]), (1, [.int .i64 0, .nil, .bool true]), (2, [.int .i64 k, .int .i64 n, .ro b.length (bys b)])] 3 191) (fun _ => True) ?_ (fun _ _ => ?_)
  · refine wpc_sound (M := MC) (PL := PL0) (CU := noCut) TTok mixed _ _ _ ?_
    conv => whnf
    repeat' (first | (refine ifB_t ?_; (conv => whnf)) | (refine ifB_f ?_; (conv => whnf)) | (refine ifB_neg (decide_eq_false (by first | omega | rfl | (dsimp only; omega))) ?_; (conv => whnf)) | (refine ifB_pos (decide_eq_true (by first | omega | rfl | (dsimp only; omega))) ?_; (conv => whnf)) | (exact ⟨(), trivial, weaker_of [(0, 0), (1, 1), (2, 2)] rfl rfl ⟨⟨rfl, rfl, hL⟩, ⟨rfl, rfl⟩, ⟨rfl, rfl⟩, ⟨rfl, rfl⟩, ⟨rfl, rfl⟩, ⟨rfl, rfl⟩, leP_bool (by first | exact (decide_eq_true (p := rBad ⟨k, n, b⟩) (by simp only [rBad]; omega)).symm | exact (decide_eq_false (p := rBad ⟨k, n, b⟩) (by simp only [rBad]; omega)).symm | exact decide_eq_decide.2 (by simp only [rBad]; omega)), trivial⟩ ⟨⟨⟨rfl, rfl⟩, trivial, rfl, trivial⟩, ⟨⟨rfl, rfl⟩, trivial, rfl, trivial⟩, ⟨⟨rfl, rfl⟩, ⟨rfl, rfl⟩, ⟨rfl, rfl, pureL_bys _⟩, trivial⟩, trivial⟩⟩) | (refine ⟨_, rfl, ?_⟩; conv => whnf) | (refine ifB_dec (fun _ => ?_) (fun _ => ?_) <;> conv => whnf) | (refine And.intro ?_ ?_ <;> conv => whnf))
  · refine wpc_sound (M := MC) (PL := PLri) (CU := noCut) TTok mixed _ _ _ ?_
    conv => whnf
    unfold rTok
    refine ifB_bool (fun hC => ?_) (fun hC => ?_)
    · rw [if_pos (of_decide_eq_true hC)]
      conv => whnf
      repeat ((first | refine ⟨rfl, ?_⟩ | refine ⟨_, rfl, ?_⟩ | refine ⟨⟨rfl, rfl⟩, ?_⟩ | (refine ⟨⟨rfl, rfl, ?_⟩, ?_⟩; (focus (first | exact Nat.le_of_ble_eq_true rfl | (simp; done))))); conv => whnf)
      rfl
    have hC := of_decide_eq_false hC
    rw [if_neg hC]
    simp only [rBad] at hC
    conv => whnf
    repeat ((refine ⟨_, rfl, ?_⟩); conv => whnf)
    have hp2 := putL_short 2 (n := (b.length : Int)) (by omega)
    have hp3 := putL_short 3 (n := (b.length : Int)) (by omega)
    refine ifB_dec (fun k1 => ?_) (fun k1 => ?_)
    · rw [if_pos k1]
      conv => whnf
      repeat ((first | (refine fit_i64 ⟨by first | omega | rfl | (dsimp only; omega), by first | omega | rfl | (dsimp only; omega)⟩ ?_) | refine ⟨rfl, ?_⟩ | refine ⟨_, rfl, ?_⟩); conv => whnf)
      refine ⟨_, _, refHead_ok 0 n (by omega) (by omega) (by omega), by first | rfl | simp [noRoIf, noRoL, noRoV, noRoL_bys], ?_⟩
      conv => whnf
      repeat ((first | refine ⟨rfl, ?_⟩ | refine ⟨_, rfl, ?_⟩ | refine ⟨⟨rfl, rfl⟩, ?_⟩ | (refine ⟨⟨rfl, rfl, rfl, ?_, pureL_bys _⟩, ?_⟩; (focus (simp; done))) | (refine ⟨⟨rfl, rfl, ?_⟩, ?_⟩; (focus (first | exact Nat.le_of_ble_eq_true rfl | (simp; done))))); conv => whnf)
      rfl
    rw [if_neg k1]
    conv => whnf
    refine ifB_dec (fun k2 => ?_) (fun k2 => ?_)
    · rw [if_pos k2]
      conv => whnf
      repeat ((first | (refine fit_i64 ⟨by first | omega | rfl | (dsimp only; omega), by first | omega | rfl | (dsimp only; omega)⟩ ?_) | refine ⟨rfl, ?_⟩ | refine ⟨_, rfl, ?_⟩); conv => whnf)
      refine ⟨_, _, refHead_ok 1 n (by omega) (by omega) (by omega), by first | rfl | simp [noRoIf, noRoL, noRoV, noRoL_bys], ?_⟩
      conv => whnf
      repeat ((first | refine ⟨rfl, ?_⟩ | refine ⟨_, rfl, ?_⟩ | refine ⟨⟨rfl, rfl⟩, ?_⟩ | (refine ⟨⟨rfl, rfl, rfl, ?_, pureL_bys _⟩, ?_⟩; (focus (simp; done))) | (refine ⟨⟨rfl, rfl, ?_⟩, ?_⟩; (focus (first | exact Nat.le_of_ble_eq_true rfl | (simp; done))))); conv => whnf)
      rfl
    rw [if_neg k2]
    conv => whnf
    refine ifB_dec (fun k3 => ?_) (fun k3 => ?_)
    · rw [if_pos k3]
      conv => whnf
      refine ⟨by kernel_rfl, ?_⟩
      conv => whnf
      repeat' (first | (refine fit_i64 ⟨by first | omega | rfl | (dsimp only; omega), by first | omega | rfl | (dsimp only; omega)⟩ ?_; (conv => whnf)) | (refine ⟨ones_bys _, ?_⟩; (conv => whnf)) | (refine ⟨rfl, ?_⟩; (conv => whnf)) | (refine ⟨⟨rfl, rfl⟩, ?_⟩; (conv => whnf)) | (refine ⟨⟨rfl, rfl, ?_⟩, ?_⟩; (focus (first | exact Nat.le_of_ble_eq_true rfl | (simp; done))); (conv => whnf)) | (refine ⟨⟨rfl, rfl, ?_, ?_⟩, ?_⟩; (focus (first | (simp; done) | (simp; omega))); (focus (first | (simp [limB]; done) | (simp [limB]; omega))); (conv => whnf)) | (refine And.intro ?_ ?_; (focus (first | (simp [limB]; done) | (simp [limB]; omega))); (conv => whnf)) | (refine ⟨_, _, refHead_ok 2 b.length (by omega) (by omega) (by omega), by first | rfl | simp [noRoIf, noRoL, noRoV, noRoL_bys], ?_⟩; conv => whnf) | (refine ⟨⟨by simp, rfl, by rw [bys_append], by simp, pureL_bys _⟩, ?_⟩; conv => whnf) | (rfl) | (refine ⟨_, rfl, ?_⟩; conv => whnf) | (refine And.intro ?_ ?_ <;> conv => whnf))
    rw [if_neg k3]
    conv => whnf
    refine ifB_dec (fun k4 => ?_) (fun k4 => ?_)
    · rw [if_pos k4]
      have hu := refUtf8_ok b hto.2.2 htb
      cases hv : validR b
      · rw [hv] at hu
        rw [if_neg (by simp)]
        conv => whnf
        repeat ((first | refine ⟨pureL_bys _, ?_⟩ | refine ⟨rfl, ?_⟩ | refine ⟨_, rfl, ?_⟩); conv => whnf)
        refine ⟨_, _, hu, by first | rfl | simp [noRoIf, noRoL, noRoV, noRoL_bys], ?_⟩
        conv => whnf
        repeat ((first | refine ifB_t ?_ | refine ⟨rfl, ?_⟩ | refine ⟨_, rfl, ?_⟩ | refine ⟨⟨rfl, rfl⟩, ?_⟩ | (refine ⟨⟨rfl, rfl, ?_⟩, ?_⟩; (focus (first | exact Nat.le_of_ble_eq_true rfl | (simp; done))))); conv => whnf)
        rfl
      rw [hv] at hu
      rw [if_pos rfl]
      conv => whnf
      repeat ((first | refine ⟨pureL_bys _, ?_⟩ | refine ⟨rfl, ?_⟩ | refine ⟨_, rfl, ?_⟩); conv => whnf)
      refine ⟨_, _, hu, by first | rfl | simp [noRoIf, noRoL, noRoV, noRoL_bys], ?_⟩
      conv => whnf
      repeat ((refine ifB_f ?_); conv => whnf)
      refine ⟨by kernel_rfl, ?_⟩
      conv => whnf
      repeat' (first | (refine fit_i64 ⟨by first | omega | rfl | (dsimp only; omega), by first | omega | rfl | (dsimp only; omega)⟩ ?_; (conv => whnf)) | (refine ⟨ones_bys _, ?_⟩; (conv => whnf)) | (refine ⟨rfl, ?_⟩; (conv => whnf)) | (refine ⟨⟨rfl, rfl⟩, ?_⟩; (conv => whnf)) | (refine ⟨⟨rfl, rfl, ?_⟩, ?_⟩; (focus (first | exact Nat.le_of_ble_eq_true rfl | (simp; done))); (conv => whnf)) | (refine ⟨⟨rfl, rfl, ?_, ?_⟩, ?_⟩; (focus (first | (simp; done) | (simp; omega))); (focus (first | (simp [limB]; done) | (simp [limB]; omega))); (conv => whnf)) | (refine And.intro ?_ ?_; (focus (first | (simp [limB]; done) | (simp [limB]; omega))); (conv => whnf)) | (refine ⟨_, _, refHead_ok 3 b.length (by omega) (by omega) (by omega), by first | rfl | simp [noRoIf, noRoL, noRoV, noRoL_bys], ?_⟩; conv => whnf) | (refine ⟨⟨by simp, rfl, by rw [bys_append], by simp, pureL_bys _⟩, ?_⟩; conv => whnf) | (rfl) | (refine ⟨_, rfl, ?_⟩; conv => whnf) | (refine And.intro ?_ ?_ <;> conv => whnf))
    rw [if_neg k4]
    clear hp2 hp3
    have k5 : k ≠ 5 := by omega
    have k6 : k ≠ 6 := by omega
    rw [if_neg (show ¬ (k = 5 ∨ k = 6) by omega)]
    conv => whnf
    repeat ((first | (refine ifB_neg (decide_eq_false (by first | omega | rfl | (dsimp only; omega))) ?_) | refine ⟨rfl, ?_⟩ | refine ⟨_, rfl, ?_⟩ | refine ⟨⟨rfl, rfl⟩, ?_⟩ | (refine ⟨⟨rfl, rfl, ?_⟩, ?_⟩; (focus (first | exact Nat.le_of_ble_eq_true rfl | (simp; done))))); conv => whnf)
    rfl
end Go.Proofs.YtobjehjfdmelhaaDoor.Abs
end
section
set_option linter.unusedVariables false
set_option linter.unusedSimpArgs false
namespace Go.Proofs.YtobjehjfdmelhaaDoor.Abs
open Go
attribute [local irreducible] ifB fitP Does Weaker
def PLrm : Nat → Bool × Plan := plans [(38, (false, (takesTo [0, 2, 4] (.all [(1, (.all [(3, (takesTo [7] (.all [(5, (.all [(6, (.all [(8, (takesTo [9] (.all [(10, .done)])))]))]))]))), (5, (.all [(3, (takesTo [7] (.all [(6, (.all [(8, (takesTo [9] (.all [(10, .done)])))]))])))]))])), (3, (.all [(1, (takesTo [7] (.all [(5, (.all [(6, (.all [(8, (takesTo [9] (.all [(10, .done)])))]))]))]))), (5, (.all [(1, (takesTo [7] (.all [(6, (.all [(8, (takesTo [9] (.all [(10, .done)])))]))]))), (6, (.all [(1, (takesTo [7] (.all [(8, (takesTo [9] (.all [(10, .done)])))])))]))]))])), (5, (.all [(1, (.all [(3, (takesTo [7] (.all [(6, (.all [(8, (takesTo [9] (.all [(10, .done)])))]))])))])), (3, (.all [(1, (takesTo [7] (.all [(6, (.all [(8, (takesTo [9] (.all [(10, .done)])))]))]))), (6, (.all [(1, (takesTo [7] (.all [(8, (takesTo [9] (.all [(10, .done)])))])))]))]))]))]))))]
theorem Does.weakerTo' {P : Program} {k : Nat} {c : Code} {Q : AX → St → Prop} {st : St} {env : List (Nat × AV)} {heap : List (Nat × List AV)} {nx n : Nat} (g : List (Nat × Nat)) (hn : st.n = n) (hg : renOk k g heap nx = true)
    (he : envLe (oldOf k g) st.env env) (hh : heapLe (oldOf k g) st.heap heap) (h : Does P k c Q (mkSt env heap nx n)) : Does P k c Q st := Does.weaker (weaker_of g hn hg he hh) h
theorem whole_bys (l : List Int) : (List.drop 0 (bys l)).take (l.length * 1) = bys l := by rw [List.drop_zero, Nat.mul_one]; exact List.take_of_length_le (by simp)
theorem rItem_byt {l : List Tok} (hl : ToksOk l) {f a a' : Nat} {x : List Int} (h : rItem validR l f a = some (a', x)) (hx : x.length ≤ 32768) : Byt x := by
  have := item_fits validR l f a [] a' x h (by simpa using hx)
  have h2 := wItem_byt validR l hl f ⟨a, [], false⟩ (by simp [Byt])
  rw [this] at h2
  simpa using h2
theorem rLoop_len {g : Nat → Option (Nat × List Int)} {mp : Bool} : ∀ (n i at' : Nat) (b last : List Int) (a : Nat) (bs : List Int), rLoop g mp n i at' b last = some (a, bs) → bs.length ≤ max 32768 b.length
  | 0, i, at', b, last, a, bs, h => by
    simp only [rLoop, Option.some.injEq, Prod.mk.injEq] at h
    rw [h.2]; omega
  | n + 1, i, at', b, last, a, bs, h => by
    unfold rLoop at h
    split at h
    · cases h
    rename_i a1 x hg
    split at h
    · cases h
    split at h
    · split at h
      · cases h
      · have := rLoop_len n _ _ _ _ _ _ h
        simp only [List.length_append] at this; omega
    · have := rLoop_len n _ _ _ _ _ _ h
      simp only [List.length_append] at this; omega
theorem rItem_len {u : List Int → Bool} {l : List Tok} (hlb : ∀ t ∈ l, t.b.length ≤ 1099511627776) {f k a : Nat} {x : List Int} (h : rItem u l f k = some (a, x)) : x.length ≤ 1099511627785 := by
  by_cases hk : k < l.length
  · rw [rItem_tok u l f k hk] at h
    have hb := hlb _ (List.getElem_mem hk)
    have fin : ∀ (g : Nat → Option (Nat × List Int)) (mp : Bool) (n i at' : Nat) (M N : Int) (last : List Int), 0 ≤ N → rLoop g mp n i at' (putL M N) last = some (a, x) → x.length ≤ 1099511627785 := by
      intro g mp n i at' M N last hN h
      have h1 := rLoop_len _ _ _ _ _ _ _ h
      have h2 := putL_short M hN
      omega
    unfold rTok at h
    split at h
    · cases h
    rename_i h0
    simp only [rBad] at h0
    split at h
    · simp only [Option.some.injEq, Prod.mk.injEq] at h; obtain ⟨rfl, rfl⟩ := h; have := putL_short 0 (n := l[k].n) (by omega); omega
    split at h
    · simp only [Option.some.injEq, Prod.mk.injEq] at h; obtain ⟨rfl, rfl⟩ := h; have := putL_short 1 (n := l[k].n) (by omega); omega
    split at h
    · simp only [Option.some.injEq, Prod.mk.injEq] at h; obtain ⟨rfl, rfl⟩ := h; have := putL_short 2 (n := (l[k].b.length : Int)) (by omega); simp only [List.length_append]; omega
    split at h
    · split at h
      · simp only [Option.some.injEq, Prod.mk.injEq] at h; obtain ⟨rfl, rfl⟩ := h; have := putL_short 3 (n := (l[k].b.length : Int)) (by omega); simp only [List.length_append]; omega
      · cases h
    split at h
    · split at h
      · cases h
      split at h
      · cases h
      split at h
      · exact fin _ _ _ _ _ _ _ _ (by omega) h
      · exact fin _ _ _ _ _ _ _ _ (by omega) h
    · cases h
  · rw [rItem_none _ _ _ _ (by omega)] at h
    cases h
set_option maxHeartbeats 4000000 in
theorem ritem_many (l : List Tok) (hl : ToksOk l) (hlb : ∀ t ∈ l, t.b.length ≤ 1099511627776) (hll : l.length ≤ 1000000) (at' : Nat) (ha : at' < l.length) (f : Nat) (hf : f ≤ 6) (hi : ∀ f', f = f' + 1 → RItemOk l f')
    (hk : l[at'].k = 5 ∨ l[at'].k = 6) (hb : ¬ rBad l[at']) :
    ACall Tryd.prog 29 [.ro l.length (toksC l), .int .i64 at', .int .i64 (6 - (f : Int))] (.agg (wkC (rItem validR l f at'))) [] := by
  have hL := pureL_toks l
  rw [rItem_tok _ _ _ _ ha]
  obtain ⟨t, ht⟩ : ∃ t, t = l[at'] := ⟨_, rfl⟩
  have hto : TokOk t := by rw [ht]; exact hl _ (List.getElem_mem ha)
  have hld : ∀ m s : Nat, m = 3 * at' → s = 3 → takeN s ((toksC l).drop m) = some (tokC t) := by
    intro m s hm hs
    rw [takeN_tok ha hm hs, ht]
  rw [← ht] at hk hb ⊢
  obtain ⟨k, n, b⟩ := t
  clear ht
  obtain ⟨q1, q2, _⟩ := hto
  simp only at hk q2
  have hrt : rTok validR (rSub validR l f) (decide (f = 0)) ⟨k, n, b⟩ (at' + 1) =
      if f = 0 ∨ 64 < n then none else rLoop (rSub validR l f) (decide (k = 6)) (if k = 6 then 2 * n.toNat else n.toNat) 0 (at' + 1) (putL (k - 1) n) [] := by
    unfold rTok
    rw [if_neg hb]
    simp only
    rw [if_neg (show ¬ k = 1 by omega), if_neg (show ¬ k = 2 by omega), if_neg (show ¬ k = 3 by omega), if_neg (show ¬ k = 4 by omega), if_pos hk]
    by_cases h0 : f = 0
    · simp [h0]
    · rcases hk with rfl | rfl <;> simp [h0]
  rw [hrt]
  clear hrt
  simp only [rBad] at hb
  have hb0 : b = [] := List.length_eq_zero_iff.1 (by omega)
  subst hb0
  obtain ⟨N, rfl⟩ : ∃ N : Nat, n = N := ⟨n.toNat, by omega⟩
  replace hld : ∀ m s : Nat, m = 3 * at' → s = 3 → takeN s ((toksC l).drop m) = some [.int .i64 k, .int .i64 N, .ro 0 []] := hld
  rw [Int.toNat_natCast]
  refine ACall.of_does TTok Tryd.func29 rfl Tryd.call29 rfl (wpc_sound (M := MC) (PL := PLrm) (CU := noCut) TTok mixed _ _ _ ?_)
  conv => whnf
  repeat ((first | (refine ifB_neg (decide_eq_false (by first | omega | rfl | (dsimp only; omega))) ?_) | refine ⟨rfl, ?_⟩ | (refine ⟨⟨rfl, rfl, ?_⟩, ?_⟩; (focus (first | exact Nat.le_of_ble_eq_true rfl | (simp; done)))) | (refine ⟨⟨?_, ?_, ?_⟩, ?_⟩; (focus omega); (focus (first | omega | (simp; done) | (simp; omega))); (focus (first | (simp; done) | (simp; omega) | (rw [toksC_length]; simp; omega))))); conv => whnf)
  refine ⟨_, hld _ _ (by simp; omega) rfl, ?_⟩
  conv => whnf
  repeat ((first | refine ifB_t ?_ | refine ifB_f ?_ | (refine ifB_neg (decide_eq_false (by first | omega | rfl | (dsimp only; omega))) ?_) | (refine ifB_pos (decide_eq_true (by first | omega | rfl | (dsimp only; omega))) ?_) | refine ⟨rfl, ?_⟩ | refine ⟨_, rfl, ?_⟩ | (refine ⟨⟨rfl, rfl, ?_⟩, ?_⟩; (focus (first | exact Nat.le_of_ble_eq_true rfl | (simp; done))))); conv => whnf)
  by_cases h0 : f = 0 ∨ 64 < (N : Int)
  · rw [if_pos h0]
    rcases hk with rfl | rfl
    all_goals
      conv => whnf
      repeat' (first | (refine ifB_t ?_; (conv => whnf)) | (refine ifB_f ?_; (conv => whnf)) | (refine ifB_pos (decide_eq_true (by first | omega | rfl | (dsimp only; omega))) ?_; (conv => whnf)) | (refine ⟨rfl, ?_⟩; (conv => whnf)) | (refine ⟨⟨rfl, rfl⟩, ?_⟩; (conv => whnf)) | (refine ⟨⟨rfl, rfl, ?_⟩, ?_⟩; (focus (first | exact Nat.le_of_ble_eq_true rfl | (simp; done))); (conv => whnf)) | (rfl) | (omega) | (refine ⟨_, rfl, ?_⟩; conv => whnf) | (refine ifB_dec (fun _ => ?_) (fun _ => ?_) <;> conv => whnf) | (refine And.intro ?_ ?_ <;> conv => whnf))
  rw [if_neg h0]
  obtain ⟨f, rfl⟩ : ∃ f', f = f' + 1 := ⟨f - 1, by omega⟩
  have hi := hi f rfl
  obtain ⟨mp, hmp⟩ : ∃ mp, mp = decide (k = 6) := ⟨_, rfl⟩
  obtain ⟨items, hit⟩ : ∃ items : Nat, items = if k = 6 then 2 * N else N := ⟨_, rfl⟩
  rw [← hmp, ← hit]
  have hgo := rItem_go validR l f
  have hi' : ∀ a : Nat, a ≤ l.length → ACall Tryd.prog 29 [.ro l.length (toksC l), .int .i64 a, .int .i64 (6 - ((f + 1 : Nat) : Int) + 1)] (.agg (wkC (rItem validR l f a))) [] := by
    intro a h
    have := hi a (by omega)
    rwa [show (6 : Int) - (f : Int) = 6 - ((f + 1 : Nat) : Int) + 1 by omega] at this
  have hp4 := putL_short 4 (n := (N : Int)) (by omega)
  have hp5 := putL_short 5 (n := (N : Int)) (by omega)
  obtain ⟨R, hR⟩ : ∃ R, R = rLoop (rSub validR l (f + 1)) mp items 0 (at' + 1) (putL (k - 1) N) [] := ⟨_, rfl⟩
  rw [← hR]
  rcases hk with rfl | rfl
  · have hmp : mp = false := hmp
    subst hmp
    have hit : items = N := hit
    conv => whnf
    repeat ((first | refine ifB_t ?_ | refine ifB_f ?_ | (refine ifB_neg (decide_eq_false (by first | omega | rfl | (dsimp only; omega))) ?_) | (refine fit_i64 ⟨by first | omega | rfl | (dsimp only; omega), by first | omega | rfl | (dsimp only; omega)⟩ ?_) | refine ⟨rfl, ?_⟩ | refine ⟨_, rfl, ?_⟩); conv => whnf)
    refine ⟨_, _, refHead_ok 4 N (by omega) (by omega) (by omega), by first | rfl | simp [noRoIf, noRoL, noRoV, noRoL_bys], ?_⟩
    conv => whnf
    repeat ((first | refine ifB_f ?_ | refine ⟨rfl, ?_⟩ | refine ⟨_, rfl, ?_⟩ | (refine ⟨⟨rfl, rfl, ?_⟩, ?_⟩; (focus (first | exact Nat.le_of_ble_eq_true rfl | (simp; done))))); conv => whnf)
    refine Does.loop (fun p : Nat × Nat × List Int × List Int => mkSt [(0, .ro l.length (toksC l)), (2, .int .i64 (6 - ((f + 1 : Nat) : Int))), (6, .ptr 0 0), (7, .ptr 1 0), (8, .ptr 2 0), (9, .int .i64 items), (10, .ptr 3 0), (11, .ro p.2.2.2.length (bys p.2.2.2)), (12, .int .i64 (p.1 : Int))]
      [(0, [.int .i64 0, .nil, .bool false]), (1, [.int .i64 0, .nil, .bool true]), (2, [.int .i64 5, .int .i64 N, .ro 0 []]), (3, [.int .i64 (p.2.1 : Int), .sl 4 0 p.2.2.1.length 1 false, .bool false]), (4, bys p.2.2.1)] 5 191)
      (fun p => p.1 ≤ items ∧ p.2.1 ≤ l.length ∧ p.2.2.1.length ≤ 32768 ∧ Byt p.2.2.2 ∧ rLoop (rItem validR l f) false (items - p.1) p.1 p.2.1 p.2.2.1 p.2.2.2 = R) (fun p => items - p.1) ?_ (0, at' + 1, putL 4 N, []) ⟨Nat.zero_le _, by simp only; omega, by simp only; omega, by simp [Byt], hR.symm⟩ ?_
    · rintro ⟨i, a, bs, last⟩ ⟨p1, p2, p3, pb, p4⟩
      simp only at p1 p2 p3 pb p4
      refine wpc_sound (M := MC) (PL := PLrm) (CU := cutAt [100032]) TTok mixed _ _ _ ?_
      conv => whnf
      refine ifB_dec (fun j1 => ?_) (fun j1 => ?_)
      · have c1 : i < items := by simp only at j1; omega
        obtain ⟨m, hm⟩ : ∃ m, items - i = m + 1 := ⟨items - i - 1, by omega⟩
        rw [hm] at p4
        unfold rLoop at p4
        have hx := hi' a p2
        cases hr : rItem validR l f a with
        | none =>
          rw [hr] at p4 hx
          simp only at p4
          rw [← p4]
          conv => whnf
          repeat ((first | (refine fit_i64 ⟨by first | omega | rfl | (dsimp only; omega), by first | omega | rfl | (dsimp only; omega)⟩ ?_) | refine ⟨rfl, ?_⟩ | refine ⟨_, rfl, ?_⟩ | (refine And.intro (by first | omega | rfl | (dsimp only; omega)) ?_)); conv => whnf)
          refine ⟨_, _, hx, by first | rfl | simp [noRoIf, noRoL, noRoV, noRoL_bys], ?_⟩
          conv => whnf
          repeat ((first | refine ⟨rfl, ?_⟩ | (refine ⟨⟨rfl, rfl, ?_⟩, ?_⟩; (focus (first | exact Nat.le_of_ble_eq_true rfl | (simp; done))))); conv => whnf)
          refine wpc_sound (M := MC) (PL := PLrm) (CU := noCut) TTok mixed _ _ _ ?_
          conv => whnf
          repeat ((first | refine ifB_t ?_ | refine ⟨rfl, ?_⟩ | refine ⟨_, rfl, ?_⟩ | refine ⟨⟨rfl, rfl⟩, ?_⟩ | (refine ⟨⟨rfl, rfl, ?_⟩, ?_⟩; (focus (first | exact Nat.le_of_ble_eq_true rfl | (simp; done))))); conv => whnf)
          rfl
        | some r =>
          obtain ⟨a', x⟩ := r
          obtain ⟨g1, g2, g3⟩ := hgo _ _ _ hr
          have xl := rItem_len hlb hr
          rw [hr] at p4 hx
          simp only at p4
          simp only [wkC] at hx
          conv => whnf
          repeat ((first | (refine fit_i64 ⟨by first | omega | rfl | (dsimp only; omega), by first | omega | rfl | (dsimp only; omega)⟩ ?_) | refine ⟨rfl, ?_⟩ | refine ⟨_, rfl, ?_⟩ | (refine And.intro (by first | omega | rfl | (dsimp only; omega)) ?_)); conv => whnf)
          refine ⟨_, _, hx, by first | rfl | simp [noRoIf, noRoL, noRoV, noRoL_bys], ?_⟩
          conv => whnf
          repeat ((first | refine ⟨rfl, ?_⟩ | (refine ⟨⟨rfl, rfl, ?_⟩, ?_⟩; (focus (first | exact Nat.le_of_ble_eq_true rfl | (simp; done))))); conv => whnf)
          refine Does.freeze 5 rfl (Does.weakerTo' (env := [(0, .ro l.length (toksC l)), (2, .int .i64 (6 - ((f + 1 : Nat) : Int))), (6, .ptr 0 0), (7, .ptr 1 0), (8, .ptr 2 0), (9, .int .i64 items), (10, .ptr 3 0), (11, .ro last.length (bys last)), (12, .int .i64 (i : Int)), (13, .ptr 5 0)])
            (heap := [(0, [.int .i64 0, .nil, .bool false]), (1, [.int .i64 0, .nil, .bool true]), (2, [.int .i64 5, .int .i64 N, .ro 0 []]), (3, [.int .i64 (a : Int), .sl 4 0 bs.length 1 false, .bool false]), (4, bys bs), (5, [.int .i64 a', .ro x.length (bys x), .bool false])]) (nx := 6) (n := 191) [(0, 0), (1, 1), (2, 2), (3, 3), (4, 4), (5, 6)] rfl rfl ?_ ?_ ?_)
          · exact ⟨⟨rfl, rfl, hL⟩, ⟨rfl, rfl⟩, ⟨rfl, rfl⟩, ⟨rfl, rfl⟩, ⟨rfl, rfl⟩, ⟨rfl, rfl⟩, ⟨rfl, rfl⟩, ⟨rfl, rfl, pureL_bys _⟩, ⟨rfl, rfl⟩, ⟨rfl, rfl⟩, trivial⟩
          · exact ⟨⟨⟨rfl, rfl⟩, trivial, rfl, trivial⟩, ⟨⟨rfl, rfl⟩, trivial, rfl, trivial⟩, ⟨⟨rfl, rfl⟩, ⟨rfl, rfl⟩, ⟨rfl, rfl, rfl⟩, trivial⟩, ⟨⟨rfl, rfl⟩, ⟨rfl, rfl, rfl, rfl, id⟩, rfl, trivial⟩, lesP_bys (frzL_bys _), ⟨⟨rfl, rfl⟩, ⟨rfl, whole_bys _, pureL_bys _⟩, rfl, trivial⟩, trivial⟩
          refine wpc_sound (M := MC) (PL := PLrm) (CU := noCut) TTok mixed _ _ _ ?_
          conv => whnf
          repeat ((first | refine ifB_f ?_ | (refine fit_i64 ⟨by first | omega | rfl | (dsimp only; omega), by first | omega | rfl | (dsimp only; omega)⟩ ?_) | refine ⟨_, rfl, ?_⟩); conv => whnf)
          refine ifB_dec (fun j2 => ?_) (fun j2 => ?_)
          · rw [if_pos (by omega)] at p4
            rw [← p4]
            conv => whnf
            repeat ((first | refine ⟨rfl, ?_⟩ | refine ⟨_, rfl, ?_⟩ | refine ⟨⟨rfl, rfl⟩, ?_⟩ | (refine ⟨⟨rfl, rfl, ?_⟩, ?_⟩; (focus (first | exact Nat.le_of_ble_eq_true rfl | (simp; done))))); conv => whnf)
            rfl
          rw [if_neg (by omega)] at p4
          have xb := rItem_byt hl hr (by omega)
          rw [if_neg (by simp)] at p4
          have p5 := p4
          conv => whnf
          repeat ((first | refine ifB_f ?_ | refine ⟨_, rfl, ?_⟩); conv => whnf)
          refine ⟨by kernel_rfl, ?_⟩
          conv => whnf
          repeat' (first | (refine fit_i64 ⟨by first | omega | rfl | (dsimp only; omega), by first | omega | rfl | (dsimp only; omega)⟩ ?_; (conv => whnf)) | (refine ⟨ones_bys _, ?_⟩; (conv => whnf)) | (refine ⟨⟨rfl, rfl, ?_⟩, ?_⟩; (focus (first | exact Nat.le_of_ble_eq_true rfl | (simp; done))); (conv => whnf)) | (refine ⟨⟨rfl, rfl, ?_, ?_⟩, ?_⟩; (focus (first | (simp; done) | (simp; omega))); (focus (first | (simp [limB]; done) | (simp [limB]; omega))); (conv => whnf)) | (refine And.intro ?_ ?_; (focus (first | (simp [limB]; done) | (simp [limB]; omega))); (conv => whnf)) | (exact ⟨(i + 1, a', bs ++ x, last), ⟨by omega, g2, by simp; omega, pb, by rw [show items - (i + 1) = m by omega]; exact p5⟩, by simp only; omega, weaker_of [(0, 0), (1, 1), (2, 2), (3, 3), (4, 6)] rfl rfl ⟨⟨rfl, rfl, hL⟩, ⟨rfl, rfl⟩, ⟨rfl, rfl⟩, ⟨rfl, rfl⟩, ⟨rfl, rfl⟩, ⟨rfl, rfl⟩, ⟨rfl, rfl⟩, ⟨rfl, rfl, pureL_bys _⟩, ⟨rfl, rfl⟩, trivial⟩ ⟨⟨⟨rfl, rfl⟩, trivial, rfl, trivial⟩, ⟨⟨rfl, rfl⟩, trivial, rfl, trivial⟩, ⟨⟨rfl, rfl⟩, ⟨rfl, rfl⟩, ⟨rfl, rfl, rfl⟩, trivial⟩, ⟨⟨rfl, rfl⟩, ⟨rfl, by simp, by simp, rfl, id⟩, rfl, trivial⟩, lesP_bys (by rw [bys_append]), trivial⟩⟩) | (refine ⟨_, rfl, ?_⟩; conv => whnf) | (refine And.intro ?_ ?_ <;> conv => whnf))
      · have : items - i = 0 := by simp only at j1; omega
        rw [this] at p4
        simp only [rLoop] at p4
        rw [← p4]
        conv => whnf
        repeat ((first | refine ⟨rfl, ?_⟩ | refine ⟨_, rfl, ?_⟩ | refine ⟨⟨rfl, rfl⟩, ?_⟩ | (refine ⟨⟨rfl, rfl, rfl, ?_, pureL_bys _⟩, ?_⟩; (focus (simp; done))) | (refine ⟨⟨rfl, rfl, ?_⟩, ?_⟩; (focus (first | exact Nat.le_of_ble_eq_true rfl | (simp; done))))); conv => whnf)
        rfl
    · refine weaker_of [(0, 0), (1, 1), (2, 2), (3, 4), (4, 3)] rfl rfl ⟨⟨rfl, rfl, hL⟩, ⟨rfl, rfl⟩, ⟨rfl, rfl⟩, ⟨rfl, rfl⟩, ⟨rfl, rfl⟩, ⟨rfl, by omega⟩, ⟨rfl, rfl⟩, ⟨rfl, rfl⟩, ⟨rfl, rfl⟩, trivial⟩ ⟨⟨⟨rfl, rfl⟩, trivial, rfl, trivial⟩, ⟨⟨rfl, rfl⟩, trivial, rfl, trivial⟩, ⟨⟨rfl, rfl⟩, ⟨rfl, rfl⟩, ⟨rfl, rfl, rfl⟩, trivial⟩, ⟨⟨rfl, rfl⟩, ⟨rfl, rfl, rfl, rfl, id⟩, rfl, trivial⟩, lesP_bys rfl, trivial⟩
  · have hmp : mp = true := hmp
    subst hmp
    have hit : items = 2 * N := hit
    conv => whnf
    repeat ((first | refine ifB_t ?_ | refine ifB_f ?_ | (refine ifB_neg (decide_eq_false (by first | omega | rfl | (dsimp only; omega))) ?_) | (refine fit_i64 ⟨by first | omega | rfl | (dsimp only; omega), by first | omega | rfl | (dsimp only; omega)⟩ ?_) | refine ⟨rfl, ?_⟩ | refine ⟨_, rfl, ?_⟩); conv => whnf)
    refine ⟨_, _, refHead_ok 4 N (by omega) (by omega) (by omega), by first | rfl | simp [noRoIf, noRoL, noRoV, noRoL_bys], ?_⟩
    conv => whnf
    repeat ((first | refine ifB_t ?_ | (refine fit_i64 ⟨by first | omega | rfl | (dsimp only; omega), by first | omega | rfl | (dsimp only; omega)⟩ ?_) | refine ⟨rfl, ?_⟩ | refine ⟨_, rfl, ?_⟩ | (refine ⟨⟨rfl, rfl, ?_⟩, ?_⟩; (focus (first | exact Nat.le_of_ble_eq_true rfl | (simp; done))))); conv => whnf)
    refine ⟨_, _, refHead_ok 5 N (by omega) (by omega) (by omega), by first | rfl | simp [noRoIf, noRoL, noRoV, noRoL_bys], ?_⟩
    conv => whnf
    repeat ((refine ⟨⟨rfl, rfl, ?_⟩, ?_⟩; (focus (first | exact Nat.le_of_ble_eq_true rfl | (simp; done)))); conv => whnf)
    refine Does.loop (fun p : Nat × Nat × List Int × List Int => mkSt [(0, .ro l.length (toksC l)), (2, .int .i64 (6 - ((f + 1 : Nat) : Int))), (6, .ptr 0 0), (7, .ptr 1 0), (8, .ptr 2 0), (9, .int .i64 items), (10, .ptr 3 0), (11, .ro p.2.2.2.length (bys p.2.2.2)), (12, .int .i64 (p.1 : Int))]
      [(0, [.int .i64 0, .nil, .bool false]), (1, [.int .i64 0, .nil, .bool true]), (2, [.int .i64 6, .int .i64 N, .ro 0 []]), (3, [.int .i64 (p.2.1 : Int), .sl 4 0 p.2.2.1.length 1 false, .bool false]), (4, bys p.2.2.1)] 5 191)
      (fun p => p.1 ≤ items ∧ p.2.1 ≤ l.length ∧ p.2.2.1.length ≤ 32768 ∧ Byt p.2.2.2 ∧ rLoop (rItem validR l f) true (items - p.1) p.1 p.2.1 p.2.2.1 p.2.2.2 = R) (fun p => items - p.1) ?_ (0, at' + 1, putL 5 N, []) ⟨Nat.zero_le _, by simp only; omega, by simp only; omega, by simp [Byt], hR.symm⟩ ?_
    · rintro ⟨i, a, bs, last⟩ ⟨p1, p2, p3, pb, p4⟩
      simp only at p1 p2 p3 pb p4
      refine wpc_sound (M := MC) (PL := PLrm) (CU := cutAt [100032]) TTok mixed _ _ _ ?_
      conv => whnf
      refine ifB_dec (fun j1 => ?_) (fun j1 => ?_)
      · have c1 : i < items := by simp only at j1; omega
        obtain ⟨m, hm⟩ : ∃ m, items - i = m + 1 := ⟨items - i - 1, by omega⟩
        rw [hm] at p4
        unfold rLoop at p4
        have hx := hi' a p2
        cases hr : rItem validR l f a with
        | none =>
          rw [hr] at p4 hx
          simp only at p4
          rw [← p4]
          conv => whnf
          repeat ((first | (refine fit_i64 ⟨by first | omega | rfl | (dsimp only; omega), by first | omega | rfl | (dsimp only; omega)⟩ ?_) | refine ⟨rfl, ?_⟩ | refine ⟨_, rfl, ?_⟩ | (refine And.intro (by first | omega | rfl | (dsimp only; omega)) ?_)); conv => whnf)
          refine ⟨_, _, hx, by first | rfl | simp [noRoIf, noRoL, noRoV, noRoL_bys], ?_⟩
          conv => whnf
          repeat ((first | refine ⟨rfl, ?_⟩ | (refine ⟨⟨rfl, rfl, ?_⟩, ?_⟩; (focus (first | exact Nat.le_of_ble_eq_true rfl | (simp; done))))); conv => whnf)
          refine wpc_sound (M := MC) (PL := PLrm) (CU := noCut) TTok mixed _ _ _ ?_
          conv => whnf
          repeat ((first | refine ifB_t ?_ | refine ⟨rfl, ?_⟩ | refine ⟨_, rfl, ?_⟩ | refine ⟨⟨rfl, rfl⟩, ?_⟩ | (refine ⟨⟨rfl, rfl, ?_⟩, ?_⟩; (focus (first | exact Nat.le_of_ble_eq_true rfl | (simp; done))))); conv => whnf)
          rfl
        | some r =>
          obtain ⟨a', x⟩ := r
          obtain ⟨g1, g2, g3⟩ := hgo _ _ _ hr
          have xl := rItem_len hlb hr
          rw [hr] at p4 hx
          simp only at p4
          simp only [wkC] at hx
          conv => whnf
          repeat ((first | (refine fit_i64 ⟨by first | omega | rfl | (dsimp only; omega), by first | omega | rfl | (dsimp only; omega)⟩ ?_) | refine ⟨rfl, ?_⟩ | refine ⟨_, rfl, ?_⟩ | (refine And.intro (by first | omega | rfl | (dsimp only; omega)) ?_)); conv => whnf)
          refine ⟨_, _, hx, by first | rfl | simp [noRoIf, noRoL, noRoV, noRoL_bys], ?_⟩
          conv => whnf
          repeat ((first | refine ⟨rfl, ?_⟩ | (refine ⟨⟨rfl, rfl, ?_⟩, ?_⟩; (focus (first | exact Nat.le_of_ble_eq_true rfl | (simp; done))))); conv => whnf)
          refine Does.freeze 5 rfl (Does.weakerTo' (env := [(0, .ro l.length (toksC l)), (2, .int .i64 (6 - ((f + 1 : Nat) : Int))), (6, .ptr 0 0), (7, .ptr 1 0), (8, .ptr 2 0), (9, .int .i64 items), (10, .ptr 3 0), (11, .ro last.length (bys last)), (12, .int .i64 (i : Int)), (13, .ptr 5 0)])
            (heap := [(0, [.int .i64 0, .nil, .bool false]), (1, [.int .i64 0, .nil, .bool true]), (2, [.int .i64 6, .int .i64 N, .ro 0 []]), (3, [.int .i64 (a : Int), .sl 4 0 bs.length 1 false, .bool false]), (4, bys bs), (5, [.int .i64 a', .ro x.length (bys x), .bool false])]) (nx := 6) (n := 191) [(0, 0), (1, 1), (2, 2), (3, 3), (4, 4), (5, 6)] rfl rfl ?_ ?_ ?_)
          · exact ⟨⟨rfl, rfl, hL⟩, ⟨rfl, rfl⟩, ⟨rfl, rfl⟩, ⟨rfl, rfl⟩, ⟨rfl, rfl⟩, ⟨rfl, rfl⟩, ⟨rfl, rfl⟩, ⟨rfl, rfl, pureL_bys _⟩, ⟨rfl, rfl⟩, ⟨rfl, rfl⟩, trivial⟩
          · exact ⟨⟨⟨rfl, rfl⟩, trivial, rfl, trivial⟩, ⟨⟨rfl, rfl⟩, trivial, rfl, trivial⟩, ⟨⟨rfl, rfl⟩, ⟨rfl, rfl⟩, ⟨rfl, rfl, rfl⟩, trivial⟩, ⟨⟨rfl, rfl⟩, ⟨rfl, rfl, rfl, rfl, id⟩, rfl, trivial⟩, lesP_bys (frzL_bys _), ⟨⟨rfl, rfl⟩, ⟨rfl, whole_bys _, pureL_bys _⟩, rfl, trivial⟩, trivial⟩
          refine wpc_sound (M := MC) (PL := PLrm) (CU := noCut) TTok mixed _ _ _ ?_
          conv => whnf
          repeat ((first | refine ifB_f ?_ | (refine fit_i64 ⟨by first | omega | rfl | (dsimp only; omega), by first | omega | rfl | (dsimp only; omega)⟩ ?_) | refine ⟨_, rfl, ?_⟩); conv => whnf)
          refine ifB_dec (fun j2 => ?_) (fun j2 => ?_)
          · rw [if_pos (by omega)] at p4
            rw [← p4]
            conv => whnf
            repeat ((first | refine ⟨rfl, ?_⟩ | refine ⟨_, rfl, ?_⟩ | refine ⟨⟨rfl, rfl⟩, ?_⟩ | (refine ⟨⟨rfl, rfl, ?_⟩, ?_⟩; (focus (first | exact Nat.le_of_ble_eq_true rfl | (simp; done))))); conv => whnf)
            rfl
          rw [if_neg (by omega)] at p4
          have xb := rItem_byt hl hr (by omega)
          have tm : (i : Int).tmod 2 = (i : Int) % 2 := Int.tmod_eq_emod_of_nonneg (by omega)
          conv => whnf
          repeat ((first | refine ifB_t ?_ | refine ⟨_, rfl, ?_⟩ | (refine And.intro (by first | omega | rfl | (dsimp only; omega)) ?_)); conv => whnf)
          rw [tm]
          refine ifB_dec (fun j3 => ?_) (fun j3 => ?_)
          · rw [if_pos ⟨trivial, by omega⟩] at p4
            conv => whnf
            refine ifB_dec (fun j4 => ?_) (fun j4 => ?_)
            · conv => whnf
              repeat ((first | refine ifB_t ?_ | refine ⟨_, rfl, ?_⟩ | (refine And.intro ?_ ?_; (focus (first | (simp [limB]; done) | (simp [limB]; omega))))); conv => whnf)
              refine ⟨x, ⟨rfl, xb⟩, ?_⟩
              conv => whnf
              repeat ((first | refine ifB_t ?_ | (refine And.intro ?_ ?_; (focus (first | (simp [limB]; done) | (simp [limB]; omega))))); conv => whnf)
              refine ⟨last, ⟨rfl, pb⟩, ?_⟩
              conv => whnf
              repeat ((refine ifB_t ?_); conv => whnf)
              refine ifB_bool (fun hc => ?_) (fun hc => ?_)
              · rw [if_pos ⟨by omega, hc⟩] at p4
                rw [← p4]
                conv => whnf
                repeat ((first | refine ⟨rfl, ?_⟩ | refine ⟨_, rfl, ?_⟩ | refine ⟨⟨rfl, rfl⟩, ?_⟩ | (refine ⟨⟨rfl, rfl, ?_⟩, ?_⟩; (focus (first | exact Nat.le_of_ble_eq_true rfl | (simp; done))))); conv => whnf)
                rfl
              · rw [if_neg (fun h => by rw [hc] at h; simp at h)] at p4
                have p5 := p4
                conv => whnf
                repeat ((refine ⟨_, rfl, ?_⟩); conv => whnf)
                refine ⟨by kernel_rfl, ?_⟩
                conv => whnf
                repeat' (first | (refine fit_i64 ⟨by first | omega | rfl | (dsimp only; omega), by first | omega | rfl | (dsimp only; omega)⟩ ?_; (conv => whnf)) | (refine ⟨ones_bys _, ?_⟩; (conv => whnf)) | (refine ⟨⟨rfl, rfl, ?_⟩, ?_⟩; (focus (first | exact Nat.le_of_ble_eq_true rfl | (simp; done))); (conv => whnf)) | (refine ⟨⟨rfl, rfl, ?_, ?_⟩, ?_⟩; (focus (first | (simp; done) | (simp; omega))); (focus (first | (simp [limB]; done) | (simp [limB]; omega))); (conv => whnf)) | (refine And.intro ?_ ?_; (focus (first | (simp [limB]; done) | (simp [limB]; omega))); (conv => whnf)) | (exact ⟨(i + 1, a', bs ++ x, x), ⟨by omega, g2, by simp; omega, xb, by rw [show items - (i + 1) = m by omega]; exact p5⟩, by simp only; omega, weaker_of [(0, 0), (1, 1), (2, 2), (3, 3), (4, 6)] rfl rfl ⟨⟨rfl, rfl, hL⟩, ⟨rfl, rfl⟩, ⟨rfl, rfl⟩, ⟨rfl, rfl⟩, ⟨rfl, rfl⟩, ⟨rfl, rfl⟩, ⟨rfl, rfl⟩, ⟨rfl, rfl, pureL_bys _⟩, ⟨rfl, rfl⟩, trivial⟩ ⟨⟨⟨rfl, rfl⟩, trivial, rfl, trivial⟩, ⟨⟨rfl, rfl⟩, trivial, rfl, trivial⟩, ⟨⟨rfl, rfl⟩, ⟨rfl, rfl⟩, ⟨rfl, rfl, rfl⟩, trivial⟩, ⟨⟨rfl, rfl⟩, ⟨rfl, by simp, by simp, rfl, id⟩, rfl, trivial⟩, lesP_bys (by rw [bys_append]), trivial⟩⟩) | (refine ⟨_, rfl, ?_⟩; conv => whnf) | (refine And.intro ?_ ?_ <;> conv => whnf))
            · rw [if_neg (by omega)] at p4
              have p5 := p4
              conv => whnf
              repeat ((first | refine ifB_f ?_ | refine ⟨_, rfl, ?_⟩); conv => whnf)
              refine ⟨by kernel_rfl, ?_⟩
              conv => whnf
              repeat' (first | (refine fit_i64 ⟨by first | omega | rfl | (dsimp only; omega), by first | omega | rfl | (dsimp only; omega)⟩ ?_; (conv => whnf)) | (refine ⟨ones_bys _, ?_⟩; (conv => whnf)) | (refine ⟨⟨rfl, rfl, ?_⟩, ?_⟩; (focus (first | exact Nat.le_of_ble_eq_true rfl | (simp; done))); (conv => whnf)) | (refine ⟨⟨rfl, rfl, ?_, ?_⟩, ?_⟩; (focus (first | (simp; done) | (simp; omega))); (focus (first | (simp [limB]; done) | (simp [limB]; omega))); (conv => whnf)) | (refine And.intro ?_ ?_; (focus (first | (simp [limB]; done) | (simp [limB]; omega))); (conv => whnf)) | (exact ⟨(i + 1, a', bs ++ x, x), ⟨by omega, g2, by simp; omega, xb, by rw [show items - (i + 1) = m by omega]; exact p5⟩, by simp only; omega, weaker_of [(0, 0), (1, 1), (2, 2), (3, 3), (4, 6)] rfl rfl ⟨⟨rfl, rfl, hL⟩, ⟨rfl, rfl⟩, ⟨rfl, rfl⟩, ⟨rfl, rfl⟩, ⟨rfl, rfl⟩, ⟨rfl, rfl⟩, ⟨rfl, rfl⟩, ⟨rfl, rfl, pureL_bys _⟩, ⟨rfl, rfl⟩, trivial⟩ ⟨⟨⟨rfl, rfl⟩, trivial, rfl, trivial⟩, ⟨⟨rfl, rfl⟩, trivial, rfl, trivial⟩, ⟨⟨rfl, rfl⟩, ⟨rfl, rfl⟩, ⟨rfl, rfl, rfl⟩, trivial⟩, ⟨⟨rfl, rfl⟩, ⟨rfl, by simp, by simp, rfl, id⟩, rfl, trivial⟩, lesP_bys (by rw [bys_append]), trivial⟩⟩) | (refine ⟨_, rfl, ?_⟩; conv => whnf) | (refine And.intro ?_ ?_ <;> conv => whnf))
          · rw [if_neg (by omega)] at p4
            have p5 := p4
            conv => whnf
            refine ⟨by kernel_rfl, ?_⟩
            conv => whnf
            repeat' (first | (refine fit_i64 ⟨by first | omega | rfl | (dsimp only; omega), by first | omega | rfl | (dsimp only; omega)⟩ ?_; (conv => whnf)) | (refine ⟨ones_bys _, ?_⟩; (conv => whnf)) | (refine ⟨⟨rfl, rfl, ?_⟩, ?_⟩; (focus (first | exact Nat.le_of_ble_eq_true rfl | (simp; done))); (conv => whnf)) | (refine ⟨⟨rfl, rfl, ?_, ?_⟩, ?_⟩; (focus (first | (simp; done) | (simp; omega))); (focus (first | (simp [limB]; done) | (simp [limB]; omega))); (conv => whnf)) | (refine And.intro ?_ ?_; (focus (first | (simp [limB]; done) | (simp [limB]; omega))); (conv => whnf)) | (exact ⟨(i + 1, a', bs ++ x, last), ⟨by omega, g2, by simp; omega, pb, by rw [show items - (i + 1) = m by omega]; exact p5⟩, by simp only; omega, weaker_of [(0, 0), (1, 1), (2, 2), (3, 3), (4, 6)] rfl rfl ⟨⟨rfl, rfl, hL⟩, ⟨rfl, rfl⟩, ⟨rfl, rfl⟩, ⟨rfl, rfl⟩, ⟨rfl, rfl⟩, ⟨rfl, rfl⟩, ⟨rfl, rfl⟩, ⟨rfl, rfl, pureL_bys _⟩, ⟨rfl, rfl⟩, trivial⟩ ⟨⟨⟨rfl, rfl⟩, trivial, rfl, trivial⟩, ⟨⟨rfl, rfl⟩, trivial, rfl, trivial⟩, ⟨⟨rfl, rfl⟩, ⟨rfl, rfl⟩, ⟨rfl, rfl, rfl⟩, trivial⟩, ⟨⟨rfl, rfl⟩, ⟨rfl, by simp, by simp, rfl, id⟩, rfl, trivial⟩, lesP_bys (by rw [bys_append]), trivial⟩⟩) | (refine ⟨_, rfl, ?_⟩; conv => whnf) | (refine And.intro ?_ ?_ <;> conv => whnf))
      · have : items - i = 0 := by simp only at j1; omega
        rw [this] at p4
        simp only [rLoop] at p4
        rw [← p4]
        conv => whnf
        repeat ((first | refine ⟨rfl, ?_⟩ | refine ⟨_, rfl, ?_⟩ | refine ⟨⟨rfl, rfl⟩, ?_⟩ | (refine ⟨⟨rfl, rfl, rfl, ?_, pureL_bys _⟩, ?_⟩; (focus (simp; done))) | (refine ⟨⟨rfl, rfl, ?_⟩, ?_⟩; (focus (first | exact Nat.le_of_ble_eq_true rfl | (simp; done))))); conv => whnf)
        rfl
    · refine weaker_of [(0, 0), (1, 1), (2, 2), (3, 4), (4, 5)] rfl rfl ⟨⟨rfl, rfl, hL⟩, ⟨rfl, rfl⟩, ⟨rfl, rfl⟩, ⟨rfl, rfl⟩, ⟨rfl, rfl⟩, ⟨rfl, by omega⟩, ⟨rfl, rfl⟩, ⟨rfl, rfl⟩, ⟨rfl, rfl⟩, trivial⟩ ⟨⟨⟨rfl, rfl⟩, trivial, rfl, trivial⟩, ⟨⟨rfl, rfl⟩, trivial, rfl, trivial⟩, ⟨⟨rfl, rfl⟩, ⟨rfl, rfl⟩, ⟨rfl, rfl, rfl⟩, trivial⟩, ⟨⟨rfl, rfl⟩, ⟨rfl, rfl, rfl, rfl, id⟩, rfl, trivial⟩, lesP_bys rfl, trivial⟩
end Go.Proofs.YtobjehjfdmelhaaDoor.Abs
end
section
set_option linter.unusedVariables false
set_option linter.unusedSimpArgs false
namespace Go.Proofs.YtobjehjfdmelhaaDoor.Abs
open Go
attribute [local irreducible] ifB fitP Does Weaker
def nestL (d : Nat) : List Tok := List.replicate d ⟨5, 1, []⟩ ++ [⟨1, 0, []⟩]
def nestI (mp : Bool) : Nat → List Tok
  | 0 => []
  | c + 1 => nestI mp c ++ ([⟨1, c, []⟩] ++ if mp then [⟨2, c, []⟩] else [])
def nestM (mp : Bool) (n c : Nat) : List Tok := ⟨if mp then 6 else 5, n, []⟩ :: nestI mp c
theorem nestL_enc : ∀ d : Fin 8, (encR validR (nestL d.val)).2 = if d.val ≤ 6 then 0 else 1 := by decide +kernel
theorem nestM_enc : ∀ c : Fin 3, ∀ mp : Bool, (encR validR (nestM mp (63 + c.val) (63 + c.val))).2 = if c.val ≤ 1 then 0 else 1 := by decide +kernel
theorem nestL_ok (d : Nat) : ToksOk (nestL d) := by
  intro t ht
  simp only [nestL, List.mem_append, List.mem_singleton] at ht
  rcases ht with ht | rfl
  · obtain rfl := List.eq_of_mem_replicate ht
    exact ⟨by simp, by simp, by simp [Byt]⟩
  · exact ⟨by simp, by simp, by simp [Byt]⟩
theorem nestL_b (d : Nat) : ∀ t ∈ nestL d, t.b.length ≤ 1099511627776 := by
  intro t ht
  simp only [nestL, List.mem_append, List.mem_singleton] at ht
  rcases ht with ht | rfl
  · obtain rfl := List.eq_of_mem_replicate ht
    simp
  · simp
theorem nestI_mem (mp : Bool) : ∀ (c : Nat) (t : Tok), t ∈ nestI mp c → (t.k = 1 ∨ t.k = 2) ∧ 0 ≤ t.n ∧ t.n ≤ c ∧ t.b = []
  | 0, t, h => by simp [nestI] at h
  | c + 1, t, h => by
    simp only [nestI, List.mem_append, List.mem_singleton] at h
    rcases h with h | rfl | h
    · obtain ⟨h1, h2, h3, h4⟩ := nestI_mem mp c t h
      exact ⟨h1, h2, by omega, h4⟩
    · exact ⟨by simp, by simp, by simp only; omega, rfl⟩
    · cases mp
      · simp at h
      · simp at h; subst h; exact ⟨by simp, by simp, by simp only; omega, rfl⟩
theorem nestI_len (mp : Bool) : ∀ c : Nat, (nestI mp c).length ≤ 2 * c
  | 0 => by simp [nestI]
  | c + 1 => by
    have := nestI_len mp c
    cases mp <;> simp [nestI] at this ⊢ <;> omega
theorem nestM_len (mp : Bool) (n c : Nat) (hc : c ≤ 99) : (nestM mp n c).length ≤ 200 := by
  have := nestI_len mp c
  simp [nestM]; omega
theorem nestM_ok (mp : Bool) (n c : Nat) (hn : n ≤ 100) (hc : c ≤ 100) : ToksOk (nestM mp n c) := by
  intro t ht
  simp only [nestM, List.mem_cons] at ht
  rcases ht with rfl | ht
  · refine ⟨?_, ⟨by simp only; omega, by simp only; omega⟩, by simp [Byt]⟩
    cases mp <;> simp
  · obtain ⟨h1, h2, h3, h4⟩ := nestI_mem mp c t ht
    exact ⟨by omega, by omega, by rw [h4]; simp [Byt]⟩
theorem nestM_b (mp : Bool) (n c : Nat) : ∀ t ∈ nestM mp n c, t.b.length ≤ 1099511627776 := by
  intro t ht
  simp only [nestM, List.mem_cons] at ht
  rcases ht with rfl | ht
  · simp
  · rw [(nestI_mem mp c t ht).2.2.2]; simp
theorem lesP_app {o : Nat → Option Nat} : ∀ {a a' b b' : List AV}, lesP o a a' → lesP o b b' → lesP o (a ++ b) (a' ++ b')
  | [], [], b, b', _, h => h
  | [], _ :: _, b, b', h, _ => by simp [lesP] at h
  | x :: a, [], b, b', h, _ => by simp [lesP] at h
  | x :: a, y :: a', b, b', h, k => by
    simp only [lesP, List.cons_append] at h ⊢
    exact ⟨h.1, lesP_app h.2 k⟩
theorem lesP_two {o : Nat → Option Nat} {l : List Tok} {k n k' n' : Int} : lesP o (toksC (l ++ [⟨k, n, []⟩] ++ [⟨k', n', []⟩])) (toksC l ++ [.int .i64 k, .int .i64 n, .nil] ++ [.int .i64 k', .int .i64 n', .nil]) := by
  rw [toksC_append]
  exact lesP_app lesP_toks_nil ⟨⟨rfl, rfl⟩, ⟨rfl, rfl⟩, ⟨rfl, rfl⟩, trivial⟩
theorem nestM_succ (mp : Bool) (n c : Nat) : nestM mp n (c + 1) = nestM mp n c ++ [⟨1, c, []⟩] ++ if mp then [⟨2, c, []⟩] else [] := by simp [nestM, nestI]
/-- A row encoded and decoded again, or not. -/
theorem there (L : List Tok) (h1 : ToksOk L) (h2 : ∀ t ∈ L, t.b.length ≤ 1099511627776) (hl : L.length ≤ 1000000) : ∃ (a : List Int) (e : Int) (y : List Tok) (g : Int), encR validR L = (a, e) ∧ a.length ≤ 32768 ∧ (e = 0 ∧ g = 0 ∧ y = L ∨ e = 1 ∧ g = 3 ∧ y = [] ∧ a = []) ∧
    ACall Tryd.prog 15 [.ro L.length (toksC L)] (.tuple [.own a.length 1 (bys a), .int .i64 e]) [] ∧ ACall Tryd.prog 10 [.ro a.length (bys a)] (.tuple [.own y.length 3 (toksC y), .int .i64 g]) [] := by
  have e1 := encode_ok L h1 h2
  rcases encR_or validR L with q | ⟨a, q⟩
  · rw [q] at e1
    have d1 := decode_ok [] (by simp [Byt]) (by simp)
    rw [decR_nil] at d1
    exact ⟨[], 1, [], 3, q, by simp, .inr ⟨rfl, rfl, rfl, rfl⟩, e1, d1⟩
  · have n1 := encR_len q
    have d1 := decode_ok a (by have := encR_byt L h1; rw [q] at this; exact this) (by omega)
    rw [decR_enc h1 q] at d1
    rw [q] at e1
    exact ⟨a, 0, L, 0, q, n1, .inl ⟨rfl, rfl, rfl⟩, e1, d1⟩
set_option maxHeartbeats 4000000 in
theorem cborNests_ok (deep count : Int) (mp : Bool) (h1 : -9223372036854775808 ≤ deep ∧ deep < 9223372036854775808) (h2 : -9223372036854775808 ≤ count ∧ count < 9223372036854775808) :
    ACall Tryd.prog 6 [.int .i64 deep, .int .i64 count, .bool mp] (.bool true) [] := by
  have w1 : IntKind.u64.wrap deep = deep % 18446744073709551616 := wrap_u64 deep
  have w2 : IntKind.u64.wrap count = count % 18446744073709551616 := wrap_u64 count
  obtain ⟨D, hD, hD8⟩ : ∃ D : Nat, (deep % 18446744073709551616).tmod 8 = (D : Int) ∧ D < 8 := ⟨(deep % 18446744073709551616 % 8).toNat, by rw [Int.tmod_eq_emod_of_nonneg (by omega)]; omega, by omega⟩
  obtain ⟨C, hC, hC3⟩ : ∃ C : Nat, (count % 18446744073709551616).tmod 3 = (C : Int) ∧ C < 3 := ⟨(count % 18446744073709551616 % 3).toNat, by rw [Int.tmod_eq_emod_of_nonneg (by omega)]; omega, by omega⟩
  refine ACall.of_does TTok Tryd.func6 rfl Tryd.call6 rfl (wpc_sound (M := MC) (PL := PL0) (CU := cutAt [100018, 100022]) TTok mixed _ _ _ ?_)
  conv => whnf
  refine fit_wrap ?_
  rw [w1]
  conv => whnf
  repeat ((first | (refine fit_i64 ⟨by first | omega | rfl | (dsimp only; omega), by first | omega | rfl | (dsimp only; omega)⟩ ?_) | (refine And.intro (by first | omega | rfl | (dsimp only; omega)) ?_)); conv => whnf)
  rw [hD]
  conv => whnf
  refine fit_wrap ?_
  rw [w2]
  conv => whnf
  repeat ((first | (refine fit_i64 ⟨by first | omega | rfl | (dsimp only; omega), by first | omega | rfl | (dsimp only; omega)⟩ ?_) | (refine And.intro (by first | omega | rfl | (dsimp only; omega)) ?_)); conv => whnf)
  rw [hC]
  conv => whnf
  obtain ⟨N, hN⟩ : ∃ N : Nat, N = 63 + C := ⟨_, rfl⟩
  have hN2 : (63 : Int) + C = (N : Int) := by omega
  rw [hN2]
  refine Does.loop (fun c : Nat => mkSt [(0, .int .i64 D), (1, .int .i64 N), (2, .bool mp), (7, .sl 0 0 c 3 false), (8, .nil), (9, .int .i64 c)] [(0, toksC (List.replicate c ⟨5, 1, []⟩))] 1 124) (fun c => c ≤ D) (fun c => D - c) ?_ 0 (Nat.zero_le _) ?_
  · intro c hc
    have hlc : (toksC (List.replicate c (⟨5, 1, []⟩ : Tok))).length = c * 3 := by rw [toksC_length]; simp; omega
    refine wpc_sound (M := MC) (PL := PL0) (CU := cutAt [100018, 100022]) TTok mixed _ _ _ ?_
    conv => whnf
    refine ifB_dec (fun k1 => ?_) (fun k1 => ?_)
    · conv => whnf
      repeat ((first | (refine fit_i64 ⟨by first | omega | rfl | (dsimp only; omega), by first | omega | rfl | (dsimp only; omega)⟩ ?_) | (refine Or.inl ⟨⟨rfl, ?_⟩, ?_⟩; (focus (first | rfl | (simp; done) | (rw [toksC_length]; omega)))) | refine ⟨rfl, ?_⟩ | refine ⟨⟨rfl, rfl⟩, ?_⟩ | (refine And.intro ?_ ?_; (focus (first | (simp [limB]; done) | (simp [limB]; omega))))); conv => whnf)
      refine ⟨c + 1, by omega, by omega, weaker_of [(0, 2)] rfl rfl ⟨⟨rfl, rfl⟩, ⟨rfl, rfl⟩, rfl, ⟨rfl, rfl, rfl, rfl, id⟩, trivial, ⟨rfl, rfl⟩, trivial⟩ ⟨?_, trivial⟩⟩
      rw [List.replicate_succ']
      conv => whnf
      exact lesP_toks_nil
    · obtain rfl : c = D := by omega
      have hLo := nestL_ok c
      have hLb := nestL_b c
      have en1 := nestL_enc ⟨c, hD8⟩
      conv => whnf
      repeat ((first | (refine Or.inl ⟨⟨rfl, ?_⟩, ?_⟩; (focus (first | rfl | (simp; done) | (rw [toksC_length]; omega)))) | refine ⟨rfl, ?_⟩ | refine ⟨⟨rfl, rfl⟩, ?_⟩ | (refine And.intro ?_ ?_; (focus (first | (simp [limB]; done) | (simp [limB]; omega))))); conv => whnf)
      cases mp
      · conv => whnf
        repeat ((first | refine ifB_f ?_ | (refine Or.inl ⟨⟨rfl, ?_⟩, ?_⟩; (focus (first | rfl | (simp; done) | (rw [toksC_length]; omega)))) | refine ⟨rfl, ?_⟩ | refine ⟨⟨rfl, rfl⟩, ?_⟩ | (refine And.intro ?_ ?_; (focus (first | (simp [limB]; done) | (simp [limB]; omega))))); conv => whnf)
        refine Does.loop (fun i : Nat => mkSt [(0, .int .i64 c), (1, .int .i64 N), (2, .bool false), (7, .sl 0 0 (c + 1) 3 false), (8, .sl 1 0 (nestM false N i).length 3 false), (11, .int .i64 i)] [(0, toksC (nestL c)), (1, toksC (nestM false N i))] 2 124) (fun i => i ≤ N) (fun i => N - i) ?_ 0 (Nat.zero_le _) ?_
        · intro i hi
          obtain ⟨M, hM⟩ : ∃ M, M = nestM false N i := ⟨_, rfl⟩
          have hlm : (toksC M).length = M.length * 3 := by rw [toksC_length]; omega
          have hml : M.length ≤ 200 := by rw [hM]; exact nestM_len _ _ _ (by omega)
          rw [← hM]
          refine wpc_sound (M := MC) (PL := PL0) (CU := cutAt [100018, 100022]) TTok mixed _ _ _ ?_
          conv => whnf
          refine ifB_dec (fun k2 => ?_) (fun k2 => ?_)
          · conv => whnf
            repeat ((first | refine ifB_f ?_ | (refine fit_i64 ⟨by first | omega | rfl | (dsimp only; omega), by first | omega | rfl | (dsimp only; omega)⟩ ?_) | (refine Or.inl ⟨⟨rfl, ?_⟩, ?_⟩; (focus (first | rfl | (simp; done) | (rw [toksC_length]; omega)))) | refine ⟨rfl, ?_⟩ | refine ⟨⟨rfl, rfl⟩, ?_⟩ | (refine And.intro ?_ ?_; (focus (first | (simp [limB]; done) | (simp [limB]; omega))))); conv => whnf)
            refine ⟨i + 1, by omega, by omega, weaker_of [(0, 0), (1, 3)] rfl rfl ⟨⟨rfl, rfl⟩, ⟨rfl, rfl⟩, rfl, ⟨rfl, rfl, rfl, rfl, id⟩, ⟨rfl, rfl, by rw [nestM_succ, ← hM]; simp, rfl, id⟩, ⟨rfl, rfl⟩, trivial⟩ ⟨lesP_toks rfl, ?_, trivial⟩⟩
            rw [nestM_succ, ← hM]
            conv => whnf
            exact by simpa using lesP_toks_nil
          · obtain rfl : i = N := by omega
            have hMo : ToksOk M := by rw [hM]; exact nestM_ok _ _ _ (by omega) (by omega)
            have hMb : ∀ t ∈ M, t.b.length ≤ 1099511627776 := by rw [hM]; exact nestM_b _ _ _
            have en2 : (encR validR M).2 = if C ≤ 1 then 0 else 1 := by
              rw [hM, hN]
              exact nestM_enc ⟨C, by omega⟩ false
            clear hM
            obtain ⟨a, ea, x, ga, qa, na, ra, e1, d1⟩ := there (nestL c) hLo hLb (by simp [nestL]; omega)
            obtain ⟨b, eb, y, gb, qb, nb, rb, e2, d2⟩ := there M hMo hMb (by omega)
            rw [qa] at en1
            rw [qb] at en2
            simp only at en1 en2
            have k1 := toks_ok (nestL c) (nestL c) hLb (by simp [nestL]; omega)
            have k2 := toks_ok M M hMb (by omega)
            rw [decide_eq_true rfl] at k1 k2
            have ha : ea = 0 ∧ decide ((c : Int) ≤ 6) = true ∨ ea = 1 ∧ decide ((c : Int) ≤ 6) = false := by
              by_cases h : c ≤ 6
              · rw [if_pos h] at en1; exact .inl ⟨en1, by simp; omega⟩
              · rw [if_neg h] at en1; exact .inr ⟨en1, by simp; omega⟩
            have hb : eb = 0 ∧ decide ((i : Int) ≤ 64) = true ∨ eb = 1 ∧ decide ((i : Int) ≤ 64) = false := by
              by_cases h : C ≤ 1
              · rw [if_pos h] at en2; exact .inl ⟨en2, by simp; omega⟩
              · rw [if_neg h] at en2; exact .inr ⟨en2, by simp; omega⟩
            have hll : (nestL c).length = c + 1 := by simp [nestL]
            refine wpc_sound (M := MC) (PL := PL0) (CU := noCut) TTok mixed _ _ _ ?_
            rcases ha with ⟨rfl, ha⟩ | ⟨rfl, ha⟩ <;> rcases hb with ⟨rfl, hb⟩ | ⟨rfl, hb⟩ <;> rcases ra with ⟨he, rfl, hx⟩ | ⟨he, rfl, hx, -⟩ <;> rcases rb with ⟨hf, rfl, hy⟩ | ⟨hf, rfl, hy, -⟩ <;> first | (exfalso; omega) | skip
            all_goals
              rw [hx] at d1
              rw [hy] at d2
              conv => whnf
              repeat ((first | (refine Or.inl ⟨⟨rfl, ?_⟩, ?_⟩; (focus (first | rfl | (simp; done) | (rw [toksC_length]; omega)))) | refine ⟨rfl, ?_⟩ | (refine And.intro ?_ ?_; (focus (first | (simp only [pureL, pureV, pureL_bys, Bool.and_true, Bool.and_self]; done) | (simp only [pureL, pureV, pureL_bys, pureL_toks, Bool.and_true, Bool.and_self]; done))))); conv => whnf)
              refine ⟨_, _, ACall.arg1 e1 (by omega) rfl, by first | rfl | simp [noRoIf, noRoL, noRoV, noRoL_bys], ?_⟩
              conv => whnf
              repeat ((first | (refine Or.inl ⟨⟨rfl, ?_⟩, ?_⟩; (focus (first | rfl | (simp; done) | (rw [toksC_length]; omega)))) | refine ⟨rfl, ?_⟩ | (refine And.intro ?_ ?_; (focus (first | (simp only [pureL, pureV, pureL_bys, Bool.and_true, Bool.and_self]; done) | (simp only [pureL, pureV, pureL_bys, pureL_toks, Bool.and_true, Bool.and_self]; done))))); conv => whnf)
              refine ⟨_, _, e2, by first | rfl | simp [noRoIf, noRoL, noRoV, noRoL_bys], ?_⟩
              conv => whnf
              rw [ha]
              conv => whnf
              repeat ((refine ifB_f ?_); conv => whnf)
              rw [hb]
              conv => whnf
              repeat ((refine ifB_f ?_); conv => whnf)
              refine Does.freeze 2 rfl (Does.freeze 3 rfl (Does.weakerTo' (env := [(0, .int .i64 c), (1, .int .i64 i), (7, .sl 0 0 (c + 1) 3 false), (8, .sl 1 0 M.length 3 false), (12, .ro a.length (bys a)), (13, .int .i64 _), (14, .ro b.length (bys b)), (15, .int .i64 _)]) (heap := [(0, toksC (nestL c)), (1, toksC M)]) (nx := 4) (n := 124) [(0, 0), (1, 1)] rfl rfl
                ⟨⟨rfl, rfl⟩, ⟨rfl, rfl⟩, ⟨rfl, rfl, rfl, rfl, id⟩, ⟨rfl, rfl, rfl, rfl, id⟩, ⟨rfl, whole_bys _, pureL_bys _⟩, ⟨rfl, rfl⟩, ⟨rfl, by rw [frzL_bys]; exact whole_bys _, pureL_bys _⟩, ⟨rfl, rfl⟩, trivial⟩ ⟨lesP_toks (by rw [frzL_toks, frzL_toks]), lesP_toks (by rw [frzL_toks, frzL_toks]), trivial⟩ (wpc_sound (M := MC) (PL := PL0) (CU := noCut) TTok mixed _ _ _ ?_)))
              conv => whnf
              repeat ((first | refine ⟨pureL_bys _, ?_⟩ | refine ⟨rfl, ?_⟩); conv => whnf)
              refine ⟨_, _, d1, by first | rfl | simp [noRoIf, noRoL, noRoV, noRoL_bys], ?_⟩
              conv => whnf
              repeat ((first | refine ⟨pureL_bys _, ?_⟩ | refine ⟨rfl, ?_⟩); conv => whnf)
              refine ⟨_, _, d2, by first | rfl | simp [noRoIf, noRoL, noRoV, noRoL_bys], ?_⟩
              conv => whnf
              repeat ((first | refine ifB_t ?_ | refine ifB_f ?_ | (refine Or.inl ⟨⟨rfl, ?_⟩, ?_⟩; (focus (first | rfl | (simp; done) | (rw [toksC_length]; omega)))) | refine ⟨rfl, ?_⟩ | (refine And.intro ?_ ?_; (focus (first | (simp only [pureL, pureV, pureL_bys, Bool.and_true, Bool.and_self]; done) | (simp only [pureL, pureV, pureL_bys, pureL_toks, Bool.and_true, Bool.and_self]; done))))); conv => whnf)
              conv => whnf
              repeat' (first | (refine ifB_t ?_; (conv => whnf)) | (refine ifB_f ?_; (conv => whnf)) | (refine Or.inl ⟨⟨rfl, ?_⟩, ?_⟩; (focus (first | rfl | (simp; done) | (rw [toksC_length]; omega))); (conv => whnf)) | (refine ⟨rfl, ?_⟩; (conv => whnf)) | (refine And.intro ?_ ?_; (focus (first | (simp only [pureL, pureV, pureL_bys, Bool.and_true, Bool.and_self]; done) | (simp only [pureL, pureV, pureL_bys, pureL_toks, Bool.and_true, Bool.and_self]; done))); (conv => whnf)) | (refine ⟨_, _, ACall.arg2 k1 rfl rfl (by omega) rfl, by first | rfl | simp [noRoIf, noRoL, noRoV, noRoL_bys], ?_⟩; conv => whnf) | (refine ⟨_, _, k2, by first | rfl | simp [noRoIf, noRoL, noRoV, noRoL_bys], ?_⟩; conv => whnf) | (refine ⟨_, _, wakes_ok, by first | rfl | simp [noRoIf, noRoL, noRoV, noRoL_bys], ?_⟩; conv => whnf) | (rfl) | (refine ⟨_, rfl, ?_⟩; conv => whnf) | (refine And.intro ?_ ?_ <;> conv => whnf))
        · refine weaker_of [(0, 2), (1, 4)] rfl rfl ⟨⟨rfl, rfl⟩, ⟨rfl, rfl⟩, rfl, ⟨rfl, rfl, rfl, rfl, id⟩, ⟨rfl, rfl, by simp [nestM, nestI], rfl, id⟩, ⟨rfl, rfl⟩, trivial⟩ ⟨?_, ?_, trivial⟩
          · conv => whnf
            exact lesP_toks_nil
          · conv => whnf
            exact lesP_toks_nil (l := [])
      · conv => whnf
        repeat ((first | refine ifB_t ?_ | (refine Or.inl ⟨⟨rfl, ?_⟩, ?_⟩; (focus (first | rfl | (simp; done) | (rw [toksC_length]; omega)))) | refine ⟨rfl, ?_⟩ | refine ⟨⟨rfl, rfl⟩, ?_⟩ | (refine And.intro ?_ ?_; (focus (first | (simp [limB]; done) | (simp [limB]; omega))))); conv => whnf)
        refine Does.loop (fun i : Nat => mkSt [(0, .int .i64 c), (1, .int .i64 N), (2, .bool true), (7, .sl 0 0 (c + 1) 3 false), (8, .sl 1 0 (nestM true N i).length 3 false), (11, .int .i64 i)] [(0, toksC (nestL c)), (1, toksC (nestM true N i))] 2 124) (fun i => i ≤ N) (fun i => N - i) ?_ 0 (Nat.zero_le _) ?_
        · intro i hi
          obtain ⟨M, hM⟩ : ∃ M, M = nestM true N i := ⟨_, rfl⟩
          have hlm : (toksC M).length = M.length * 3 := by rw [toksC_length]; omega
          have hml : M.length ≤ 200 := by rw [hM]; exact nestM_len _ _ _ (by omega)
          rw [← hM]
          refine wpc_sound (M := MC) (PL := PL0) (CU := cutAt [100018, 100022]) TTok mixed _ _ _ ?_
          conv => whnf
          refine ifB_dec (fun k2 => ?_) (fun k2 => ?_)
          · conv => whnf
            repeat ((first | refine ifB_t ?_ | (refine fit_i64 ⟨by first | omega | rfl | (dsimp only; omega), by first | omega | rfl | (dsimp only; omega)⟩ ?_) | (refine Or.inl ⟨⟨rfl, ?_⟩, ?_⟩; (focus (first | rfl | (simp; done) | (rw [toksC_length]; omega)))) | refine ⟨rfl, ?_⟩ | refine ⟨⟨rfl, rfl⟩, ?_⟩ | (refine ⟨⟨rfl, rfl, ?_, ?_⟩, ?_⟩; (focus (first | (simp; done) | (simp; omega))); (focus (first | (simp [limB]; done) | (simp [limB]; omega)))) | (refine And.intro ?_ ?_; (focus (first | (simp [limB]; done) | (simp [limB]; omega))))); conv => whnf)
            refine ⟨i + 1, by omega, by omega, weaker_of [(0, 0), (1, 5)] rfl rfl ⟨⟨rfl, rfl⟩, ⟨rfl, rfl⟩, rfl, ⟨rfl, rfl, rfl, rfl, id⟩, ⟨rfl, rfl, by rw [nestM_succ, ← hM]; simp, rfl, id⟩, ⟨rfl, rfl⟩, trivial⟩ ⟨lesP_toks rfl, ?_, trivial⟩⟩
            rw [nestM_succ, ← hM]
            conv => whnf
            exact lesP_two
          · obtain rfl : i = N := by omega
            have hMo : ToksOk M := by rw [hM]; exact nestM_ok _ _ _ (by omega) (by omega)
            have hMb : ∀ t ∈ M, t.b.length ≤ 1099511627776 := by rw [hM]; exact nestM_b _ _ _
            have en2 : (encR validR M).2 = if C ≤ 1 then 0 else 1 := by
              rw [hM, hN]
              exact nestM_enc ⟨C, by omega⟩ true
            clear hM
            obtain ⟨a, ea, x, ga, qa, na, ra, e1, d1⟩ := there (nestL c) hLo hLb (by simp [nestL]; omega)
            obtain ⟨b, eb, y, gb, qb, nb, rb, e2, d2⟩ := there M hMo hMb (by omega)
            rw [qa] at en1
            rw [qb] at en2
            simp only at en1 en2
            have k1 := toks_ok (nestL c) (nestL c) hLb (by simp [nestL]; omega)
            have k2 := toks_ok M M hMb (by omega)
            rw [decide_eq_true rfl] at k1 k2
            have ha : ea = 0 ∧ decide ((c : Int) ≤ 6) = true ∨ ea = 1 ∧ decide ((c : Int) ≤ 6) = false := by
              by_cases h : c ≤ 6
              · rw [if_pos h] at en1; exact .inl ⟨en1, by simp; omega⟩
              · rw [if_neg h] at en1; exact .inr ⟨en1, by simp; omega⟩
            have hb : eb = 0 ∧ decide ((i : Int) ≤ 64) = true ∨ eb = 1 ∧ decide ((i : Int) ≤ 64) = false := by
              by_cases h : C ≤ 1
              · rw [if_pos h] at en2; exact .inl ⟨en2, by simp; omega⟩
              · rw [if_neg h] at en2; exact .inr ⟨en2, by simp; omega⟩
            have hll : (nestL c).length = c + 1 := by simp [nestL]
            refine wpc_sound (M := MC) (PL := PL0) (CU := noCut) TTok mixed _ _ _ ?_
            rcases ha with ⟨rfl, ha⟩ | ⟨rfl, ha⟩ <;> rcases hb with ⟨rfl, hb⟩ | ⟨rfl, hb⟩ <;> rcases ra with ⟨he, rfl, hx⟩ | ⟨he, rfl, hx, -⟩ <;> rcases rb with ⟨hf, rfl, hy⟩ | ⟨hf, rfl, hy, -⟩ <;> first | (exfalso; omega) | skip
            all_goals
              rw [hx] at d1
              rw [hy] at d2
              conv => whnf
              repeat ((first | (refine Or.inl ⟨⟨rfl, ?_⟩, ?_⟩; (focus (first | rfl | (simp; done) | (rw [toksC_length]; omega)))) | refine ⟨rfl, ?_⟩ | (refine And.intro ?_ ?_; (focus (first | (simp only [pureL, pureV, pureL_bys, Bool.and_true, Bool.and_self]; done) | (simp only [pureL, pureV, pureL_bys, pureL_toks, Bool.and_true, Bool.and_self]; done))))); conv => whnf)
              refine ⟨_, _, ACall.arg1 e1 (by omega) rfl, by first | rfl | simp [noRoIf, noRoL, noRoV, noRoL_bys], ?_⟩
              conv => whnf
              repeat ((first | (refine Or.inl ⟨⟨rfl, ?_⟩, ?_⟩; (focus (first | rfl | (simp; done) | (rw [toksC_length]; omega)))) | refine ⟨rfl, ?_⟩ | (refine And.intro ?_ ?_; (focus (first | (simp only [pureL, pureV, pureL_bys, Bool.and_true, Bool.and_self]; done) | (simp only [pureL, pureV, pureL_bys, pureL_toks, Bool.and_true, Bool.and_self]; done))))); conv => whnf)
              refine ⟨_, _, e2, by first | rfl | simp [noRoIf, noRoL, noRoV, noRoL_bys], ?_⟩
              conv => whnf
              rw [ha]
              conv => whnf
              repeat ((refine ifB_f ?_); conv => whnf)
              rw [hb]
              conv => whnf
              repeat ((refine ifB_f ?_); conv => whnf)
              refine Does.freeze 2 rfl (Does.freeze 3 rfl (Does.weakerTo' (env := [(0, .int .i64 c), (1, .int .i64 i), (7, .sl 0 0 (c + 1) 3 false), (8, .sl 1 0 M.length 3 false), (12, .ro a.length (bys a)), (13, .int .i64 _), (14, .ro b.length (bys b)), (15, .int .i64 _)]) (heap := [(0, toksC (nestL c)), (1, toksC M)]) (nx := 4) (n := 124) [(0, 0), (1, 1)] rfl rfl
                ⟨⟨rfl, rfl⟩, ⟨rfl, rfl⟩, ⟨rfl, rfl, rfl, rfl, id⟩, ⟨rfl, rfl, rfl, rfl, id⟩, ⟨rfl, whole_bys _, pureL_bys _⟩, ⟨rfl, rfl⟩, ⟨rfl, by rw [frzL_bys]; exact whole_bys _, pureL_bys _⟩, ⟨rfl, rfl⟩, trivial⟩ ⟨lesP_toks (by rw [frzL_toks, frzL_toks]), lesP_toks (by rw [frzL_toks, frzL_toks]), trivial⟩ (wpc_sound (M := MC) (PL := PL0) (CU := noCut) TTok mixed _ _ _ ?_)))
              conv => whnf
              repeat ((first | refine ⟨pureL_bys _, ?_⟩ | refine ⟨rfl, ?_⟩); conv => whnf)
              refine ⟨_, _, d1, by first | rfl | simp [noRoIf, noRoL, noRoV, noRoL_bys], ?_⟩
              conv => whnf
              repeat ((first | refine ⟨pureL_bys _, ?_⟩ | refine ⟨rfl, ?_⟩); conv => whnf)
              refine ⟨_, _, d2, by first | rfl | simp [noRoIf, noRoL, noRoV, noRoL_bys], ?_⟩
              conv => whnf
              repeat ((first | refine ifB_t ?_ | refine ifB_f ?_ | (refine Or.inl ⟨⟨rfl, ?_⟩, ?_⟩; (focus (first | rfl | (simp; done) | (rw [toksC_length]; omega)))) | refine ⟨rfl, ?_⟩ | (refine And.intro ?_ ?_; (focus (first | (simp only [pureL, pureV, pureL_bys, Bool.and_true, Bool.and_self]; done) | (simp only [pureL, pureV, pureL_bys, pureL_toks, Bool.and_true, Bool.and_self]; done))))); conv => whnf)
              conv => whnf
              repeat' (first | (refine ifB_t ?_; (conv => whnf)) | (refine ifB_f ?_; (conv => whnf)) | (refine Or.inl ⟨⟨rfl, ?_⟩, ?_⟩; (focus (first | rfl | (simp; done) | (rw [toksC_length]; omega))); (conv => whnf)) | (refine ⟨rfl, ?_⟩; (conv => whnf)) | (refine And.intro ?_ ?_; (focus (first | (simp only [pureL, pureV, pureL_bys, Bool.and_true, Bool.and_self]; done) | (simp only [pureL, pureV, pureL_bys, pureL_toks, Bool.and_true, Bool.and_self]; done))); (conv => whnf)) | (refine ⟨_, _, ACall.arg2 k1 rfl rfl (by omega) rfl, by first | rfl | simp [noRoIf, noRoL, noRoV, noRoL_bys], ?_⟩; conv => whnf) | (refine ⟨_, _, k2, by first | rfl | simp [noRoIf, noRoL, noRoV, noRoL_bys], ?_⟩; conv => whnf) | (refine ⟨_, _, wakes_ok, by first | rfl | simp [noRoIf, noRoL, noRoV, noRoL_bys], ?_⟩; conv => whnf) | (rfl) | (refine ⟨_, rfl, ?_⟩; conv => whnf) | (refine And.intro ?_ ?_ <;> conv => whnf))
        · refine weaker_of [(0, 2), (1, 4)] rfl rfl ⟨⟨rfl, rfl⟩, ⟨rfl, rfl⟩, rfl, ⟨rfl, rfl, rfl, rfl, id⟩, ⟨rfl, rfl, by simp [nestM, nestI], rfl, id⟩, ⟨rfl, rfl⟩, trivial⟩ ⟨?_, ?_, trivial⟩
          · conv => whnf
            exact lesP_toks_nil
          · conv => whnf
            exact lesP_toks_nil (l := [])
  · exact weaker_of [] rfl rfl ⟨⟨rfl, rfl⟩, ⟨rfl, rfl⟩, rfl, rfl, trivial, ⟨rfl, rfl⟩, trivial⟩ ⟨rfl, trivial⟩
end Go.Proofs.YtobjehjfdmelhaaDoor.Abs
end
section
set_option linter.unusedVariables false
namespace Go.Proofs.YtobjehjfdmelhaaDoor.Abs
open Go Go.Shelf Go.Lib
theorem first_eq : ∀ c : Fin 256, firstT c.val = utf8First.getD c.val 0 := by decide +kernel
theorem acc_eq : ∀ i : Fin 16, accLo i.val = utf8Ranges.getD (2 * i.val) 0 ∧ accHi i.val = utf8Ranges.getD (2 * i.val + 1) 0 := by decide +kernel
theorem tabOk_of {W : World} (h : Lib.Utf8Tabs 0 1 W) : TabOk (env0 W) := by
  obtain ⟨h1, h2⟩ := h
  have l1 : utf8First.length = 256 := by decide +kernel
  have l2 : utf8Ranges.length = 32 := by decide +kernel
  have s0 : 0 < W.heap.size := World.block_lt_of_cell? _ _ (h1 0 (by omega))
  have s1 : 1 < W.heap.size := World.block_lt_of_cell? _ _ (h2 0 (by omega)).1
  intro g k l hg
  unfold tabs at hg
  by_cases g0 : g = 0
  · subst g0
    simp only [Nat.beq_refl, cond_true, Option.some.injEq, Prod.mk.injEq] at hg
    obtain ⟨rfl, rfl⟩ := hg
    refine ⟨s0, fun hv => hv, fun j x hx => ?_⟩
    have hj : j < 256 := by rw [← l1]; exact (List.getElem?_eq_some_iff.1 hx).1
    have := h1 j hj
    have e := first_eq ⟨j, hj⟩
    simp only at e
    rw [e, List.getD_eq_getElem?_getD, hx] at this
    exact this
  · have hb : Nat.beq g 0 = false := by
      cases hh : Nat.beq g 0
      · rfl
      · exact absurd (Nat.eq_of_beq_eq_true hh) g0
    rw [hb, cond_false] at hg
    by_cases g1 : g = 1
    · subst g1
      simp only [Nat.beq_refl, cond_true, Option.some.injEq, Prod.mk.injEq] at hg
      obtain ⟨rfl, rfl⟩ := hg
      refine ⟨s1, fun hv => hv, fun j x hx => ?_⟩
      have hj : j < 32 := by rw [← l2]; exact (List.getElem?_eq_some_iff.1 hx).1
      have e := acc_eq ⟨j / 2, by omega⟩
      obtain ⟨q1, q2⟩ := h2 (j / 2) (by omega)
      simp only at e
      rw [e.1] at q1
      rw [e.2] at q2
      rcases Nat.mod_two_eq_zero_or_one j with hm | hm
      · have ej : 2 * (j / 2) = j := by omega
        rw [ej, List.getD_eq_getElem?_getD, hx] at q1
        exact q1
      · have ej : 2 * (j / 2) + 1 = j := by omega
        rw [ej, List.getD_eq_getElem?_getD, hx] at q2
        exact q2
    · have hb : Nat.beq g 1 = false := by
        cases hh : Nat.beq g 1
        · rfl
        · exact absurd (Nat.eq_of_beq_eq_true hh) g1
      rw [hb, cond_false] at hg
      cases hg
/-- The numbers of this program's types and tables. -/
def utRen : Ren := ⟨fun x => x, fun n => if n = 5 then 5 else if n = 119 then 67 else if n = 138 then 69 else 70, fun n => if n = 3 then 0 else 1⟩
theorem tabOk_of_laid {W : World} (hL : laidMet Tryd.prog [("unicode/utf8.acceptRanges", Rows.laid_unicode_utf8_acceptRanges), ("unicode/utf8.first", Rows.laid_unicode_utf8_first)] W) : TabOk (env0 W) := by
  have e1 : Rows.laid_unicode_utf8_first = Lib.firstData := Pinned.utf8First_eq
  have e2 : (Rows.laid_unicode_utf8_acceptRanges : DataW Unit) = Lib.acceptData := by kernel_rfl
  rw [e1, e2] at hL
  exact tabOk_of (utf8Tabs_of_readsT (P := Tryd.prog) (ρ := utRen) ⟨by kernel_rfl, by kernel_rfl, by kernel_rfl, by kernel_rfl⟩ ⟨by kernel_rfl, by kernel_rfl, by kernel_rfl, by kernel_rfl, by kernel_rfl, by kernel_rfl, by kernel_rfl⟩
    (Lib.laidMet.reads hL (.tail _ (.head _))) (Lib.laidMet.reads hL (.head _)))
end Go.Proofs.YtobjehjfdmelhaaDoor.Abs
end
section
namespace Go.Proofs.YtobjehjfdmelhaaDoor.cborNests
open Go Go.ChangeShapes Go.WideShapes Go.ChangeAt Go.RowKit Go.Proofs.YtobjehjfdmelhaaDoor.Abs
set_option linter.unusedVariables false
set_option linter.unusedSimpArgs false
theorem own : ownKnob Tryd.prog.godebug = none := by kernel_rfl
theorem laidOut : laidOutB Tryd.prog = true := by kernel_rfl
noncomputable def laidWorld (os : Os) : World := World.laidAll Tryd.prog os Rows.cborNestsRow.laid
theorem laid_met (os : Os) (args : Array Value) : laidMetH Tryd.prog Rows.cborNestsRow.laid ((laidWorld os).forCall (fun _ _ => 0) ⟨#[], args, []⟩).memory := by
  rw [MakeChecks.laidMetH_plain _ _ _ (by kernel_rfl)]
  exact laidMet_laidAll args (by kernel_rfl) (by kernel_rfl)
set_option maxRecDepth 100000 in
theorem lifted (os : Os) (started : os.Started) (H : Type) (enc : TypeId × Value → H) :
    ReturnsInHanded {} Tryd.checked os 6 .any (fun w args => (Rows.cborNestsSpec.pre enc Tryd.prog Tryd.f6 [] false w args ∧ laidMetH Tryd.prog Rows.cborNestsRow.laid w) ∧ sizedMet enc Tryd.prog Tryd.f6 (OpenSpec.ofChange Rows.cborNestsSpec) false w args)
      (Rows.cborNestsSpec.post enc Tryd.prog Tryd.f6 false true false false) := by
  refine returnsInHanded_of_change_and (C := Tryd.checked) (X := fun w _ => laidMetH Tryd.prog Rows.cborNestsRow.laid w) (fun _ _ _ hh h => h.of_heap hh) own started (by kernel_rfl) Tryd.func6
    (ChangeSpec.witness_shaped (enc := enc) (C := Tryd.checked) (os := os) (X := fun w _ => laidMetH Tryd.prog Rows.cborNestsRow.laid w) false (laidWorld os) #[.int .i64 0, .int .i64 0, .bool false] 8 (World.laidAll_os _ _ _) (World.shaped_of_RefB (by kernel_rfl) (by kernel_rfl)) (by kernel_rfl) (by kernel_rfl) (by kernel_rfl) (laid_met os _)) ?_
  intro W base args ds gs before hval0 hW _ _ hL _
  have hval : ∀ (j : Nat) t v, Tryd.f6.params[j]? = some t → args[j]? = some v → Value.okWide Tryd.prog W .any base t v := hval0
  have hW' := hW
  obtain ⟨p, q, hA0, hV, rfl, hfz, hnd⟩ := hW
  have hA : DataW.TrodAll enc Tryd.prog W 0 (fun _ => true) true Tryd.f6.params.toList args.toList ds p := hA0
  rw [Tryd.params6] at hA hval
  rw [MakeChecks.laidMetH_plain _ _ _ (by kernel_rfl)] at hL
  have htab : TabOk (env0 W) := tabOk_of_laid hL
  obtain ⟨v0, vs0, d0, ds0, p0, q0, hargs, rfl, rfl, h0, r0⟩ := trodAll_cons hA
  obtain ⟨v1, vs1, d1, ds1, p1, q1, rfl, rfl, rfl, h1, r1⟩ := trodAll_cons r0
  obtain ⟨v2, vs2, d2, ds2, p2, q2, rfl, rfl, rfl, h2, r2⟩ := trodAll_cons r1
  obtain ⟨rfl, rfl, rfl⟩ := trodAll_nil r2
  obtain rfl : args = #[v0, v1, v2] := by cases args; simp_all
  obtain ⟨rfl, rfl⟩ := trodVars_none hV
  obtain ⟨a0, rfl, rfl, rfl, w0⟩ := open_int Tryd.underlying3 (hval 0 3 v0 rfl rfl) h0
  obtain ⟨a1, rfl, rfl, rfl, w1⟩ := open_int Tryd.underlying3 (hval 1 3 v1 rfl rfl) h1
  obtain ⟨a2, rfl, rfl, rfl⟩ := open_bool Tryd.underlying4 (hval 2 4 v2 rfl rfl) h2
  clear hA0 hval0
  refine (ACall.row (cborNests_ok a0 a1 a2 (wf_i64 w0) (wf_i64 w1)) (by simp [pureL, pureV, pureL_bys, pureL_ints, pureL_toks]) (W := W) (vals := [.int .i64 a0, .int .i64 a1, .bool a2]) (by simp only [RepL]; exact ⟨_, _, rfl, rep_int _ _ _, ⟨_, _, rfl, rep_int _ _ _, ⟨_, _, rfl, rep_bool _ _, rfl⟩⟩⟩) htab).mono fun e W' ⟨he, bel⟩ => ?_
  subst he
  exact ⟨_, rfl, _, _, _, [], _, [], hW', trodAll_mk1 (shut_bool Tryd.underlying4 _), (trodAll_cons_mk (shut_int Tryd.underlying3 w0) (trodAll_cons_mk (shut_int Tryd.underlying3 w1) (trodAll_cons_mk (shut_bool Tryd.underlying4 _) trodAll_mk0))), rfl, bel.frame _, fun h => by cases h⟩
theorem over : Rows.cborNestsRow.holds Tryd.pinned (OpenSpec.ofChange Rows.cborNestsSpec) :=
  OpenClaim.holds_of_wide 6 Tryd.f6 rfl rfl rfl rfl rfl rfl rfl ⟨rfl, rfl, rfl, rfl, rfl⟩ rfl rfl rfl rfl rfl (by kernel_rfl) Tryd.func6 (by kernel_rfl)
    (of_decide_eq_true (by kernel_rfl)) (by unfold Func.isWrapper; first | (rw [if_pos (by decide +kernel)]; kernel_rfl) | (rw [if_neg (by decide +kernel)]; exact ⟨rfl, rfl⟩))
    (fun os started H enc _ => lifted os started H enc)
/-- The tied card. -/
theorem card : Claim7.holds Tryd.pinned (.plain (OpenSpec.ofChange Rows.cborNestsSpec)) Rows.cborNestsCard :=
  Claim7.holds_tied_plain_at .later [] [.data, .pinned] true (true, "b2619b6392df5b047e91519415014f563fa691233174b37f4c7f108c787f7674") false
    over (fun _ h => by cases h) (by kernel_rfl) (fun _ h => by cases h) cborNests_row_tie rfl ⟨rfl, rfl⟩ (by kernel_rfl) rfl
    (fun f fn hf hfn => by
      obtain rfl : f = 6 := Option.some.inj ((show Tryd.prog.funcNamed "codicil/codicillaw10.CborNests" = some 6 by kernel_rfl).symm.trans hf) |>.symm
      obtain rfl : fn = Tryd.f6 := (Option.some.inj (Tryd.func6.symm.trans hfn)).symm
      exact ⟨by kernel_rfl, fun j t ht => by
        rw [Tryd.params6] at ht
        have hm : t ∈ [3, 3, 4] := by simpa using Array.mem_of_getElem? ht
        have hall : ([3, 3, 4].all fun u => !Tryd.prog.wantsStandIn u) = true := by kernel_rfl
        exact (show Tryd.prog.wantsStandIn t = false by simpa using List.all_eq_true.1 hall t hm)⟩)
    (by kernel_rfl)
end Go.Proofs.YtobjehjfdmelhaaDoor.cborNests
namespace Go.Proofs.YtobjehjfdmelhaaDoor
/-- The law CborNests. -/
theorem cborNests_holds : Rows.CborNestsCardSaid := cborNests.card
end Go.Proofs.YtobjehjfdmelhaaDoor
end
