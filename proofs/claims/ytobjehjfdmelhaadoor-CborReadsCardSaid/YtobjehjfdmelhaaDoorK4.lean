/- Texts CT to X4, merged. -/
import Derived.Test.YtobjehjfdmelhaaDoorRows
import Derived.Test.YtobjehjfdmelhaaDoorProg
import Derived.Lib.LaidU8T
import Derived.PinnedBridge
import Derived.Test.YtobjehjfdmelhaaDoorCards
import Derived.Test.YtobjehjfdmelhaaDoorTie
import Derived.WalkKit
import Derived.ProofKit
import Derived.OpenShut
import Derived.ShutString
import Derived.ChangeOld
import Derived.Below
import Derived.SizedLaws
import Derived.Carry
import Derived.ChangeSlices
import Derived.LaidMore
import Derived.Stop.Joined
import Derived.SevenTiedAt
import Derived.Lay
import Derived.Test.YtobjehjfdmelhaaDoorK3
section
set_option linter.unusedVariables false
set_option linter.unusedSimpArgs false
namespace Go.Proofs.YtobjehjfdmelhaaDoor.Abs
open Go
def rLoop (g : Nat → Option (Nat × List Int)) (mp : Bool) : Nat → Nat → Nat → List Int → List Int → Option (Nat × List Int)
  | 0, _, at', b, _ => some (at', b)
  | n + 1, i, at', b, last =>
    match g at' with
    | none => none
    | some (a, x) =>
      if 32768 < b.length + x.length then none
      else if mp = true ∧ i % 2 = 0 then
        if 0 < i ∧ (bytesLt x last || decide (x = last)) = true then none else rLoop g mp n (i + 1) a (b ++ x) x
      else rLoop g mp n (i + 1) a (b ++ x) last
def rBad (t : Tok) : Prop := ((t.k = 3 ∨ t.k = 4) ∧ t.n ≠ 0) ∨ (¬ (t.k = 3 ∨ t.k = 4) ∧ 0 < t.b.length) ∨ t.n < 0
instance (t : Tok) : Decidable (rBad t) := by unfold rBad; infer_instance
/-- An item from a token on: where the next one is, the bytes; f: how deep arrays may still be. -/
def rItem (u : List Int → Bool) (l : List Tok) : Nat → Nat → Option (Nat × List Int)
  | f, at' =>
    if h : l.length ≤ at' then none
    else
      let t := l[at']'(by omega)
      if rBad t then none
      else if t.k = 1 then some (at' + 1, putL 0 t.n)
      else if t.k = 2 then some (at' + 1, putL 1 t.n)
      else if t.k = 3 then some (at' + 1, putL 2 t.b.length ++ t.b)
      else if t.k = 4 then if u t.b = true then some (at' + 1, putL 3 t.b.length ++ t.b) else none
      else if t.k = 5 ∨ t.k = 6 then
        match f with
        | 0 => none
        | f + 1 =>
          if 64 < t.n then none
          else if t.k = 6 then rLoop (rItem u l f) true (2 * t.n.toNat) 0 (at' + 1) (putL 5 t.n) []
          else rLoop (rItem u l f) false t.n.toNat 0 (at' + 1) (putL 4 t.n) []
      else none
theorem lt_tri : ∀ (a b : List Int), (bytesLt a b || decide (a = b)) = !bytesLt b a
  | [], [] => by simp [bytesLt]
  | [], _ :: _ => by simp [bytesLt]
  | _ :: _, [] => by simp [bytesLt]
  | x :: a, y :: b => by
    have ih := lt_tri a b
    simp only [bytesLt]
    by_cases h1 : x < y
    · have h2 : ¬ y < x := by omega
      have h3 : ¬ y = x := by omega
      simp [h1, h2, h3]
    · by_cases h2 : y < x
      · have h3 : ¬ x = y := by omega
        simp [h1, h2, h3]
      · obtain rfl : x = y := by omega
        simpa using ih
theorem cmp_ge {a b : List Int} : decide (0 ≤ cmpI a b) = !bytesLt a b := by
  unfold cmpI
  cases bytesLt a b with
  | true => simp
  | false => by_cases h : a = b <;> simp [h]
/-- What a loop goes over. -/
theorem rLoop_grow {g : Nat → Option (Nat × List Int)} {mp : Bool} : ∀ (n i at' : Nat) (b last : List Int) (a : Nat) (bs : List Int), rLoop g mp n i at' b last = some (a, bs) → b <+: bs
  | 0, i, at', b, last, a, bs, h => by
    simp only [rLoop, Option.some.injEq, Prod.mk.injEq] at h
    rw [h.2]
    exact List.prefix_refl _
  | n + 1, i, at', b, last, a, bs, h => by
    unfold rLoop at h
    split at h
    · cases h
    rename_i a' x hg
    split at h
    · cases h
    split at h
    · split at h
      · cases h
      · exact (List.prefix_append _ _).trans (rLoop_grow n _ _ _ _ _ _ h)
    · exact (List.prefix_append _ _).trans (rLoop_grow n _ _ _ _ _ _ h)
/-- A step of the writer that does what a step of the reckoning does. -/
def Fits (W' : W → W) (g : Nat → Option (Nat × List Int)) : Prop :=
  ∀ (at' : Nat) (out : List Int) (a : Nat) (bs : List Int), g at' = some (a, bs) → out.length + bs.length ≤ 32768 → W' ⟨at', out, false⟩ = ⟨a, out ++ bs, false⟩
theorem arr_fits {w : W → W} {g : Nat → Option (Nat × List Int)} (H : Fits w g) : ∀ (n i at' : Nat) (out b last : List Int) (a : Nat) (bs : List Int), rLoop g false n i at' b last = some (a, bs) → out.length + bs.length ≤ 32768 →
    wArr w n ⟨at', out ++ b, false⟩ = ⟨a, out ++ bs, false⟩
  | 0, i, at', out, b, last, a, bs, h, hl => by
    simp only [rLoop, Option.some.injEq, Prod.mk.injEq] at h
    rw [h.1, h.2]
    rfl
  | n + 1, i, at', out, b, last, a, bs, h, hl => by
    unfold rLoop at h
    split at h
    · cases h
    rename_i a' x hg
    split at h
    · cases h
    rw [if_neg (by simp)] at h
    have hp := (rLoop_grow _ _ _ _ _ _ _ h).length_le
    simp only [List.length_append] at hp
    have e := H at' (out ++ b) a' x hg (by simp; omega)
    rw [wArr, if_neg (by simp), e, List.append_assoc]
    exact arr_fits H n _ _ out (b ++ x) last a bs h hl
theorem map_fits {w : W → W} {g : Nat → Option (Nat × List Int)} (H : Fits w g) : ∀ (n i at' : Nat) (out b last : List Int) (from' to' : Nat) (a : Nat) (bs : List Int), rLoop g true (2 * n) (2 * i) at' b last = some (a, bs) → out.length + bs.length ≤ 32768 →
    (0 < i → to' ≤ (out ++ b).length ∧ last = ((out ++ b).drop from').take (to' - from')) → wMap w n i from' to' ⟨at', out ++ b, false⟩ = ⟨a, out ++ bs, false⟩
  | 0, i, at', out, b, last, from', to', a, bs, h, hl, _ => by
    simp only [Nat.mul_zero, rLoop, Option.some.injEq, Prod.mk.injEq] at h
    rw [h.1, h.2]
    rfl
  | n + 1, i, at', out, b, last, from', to', a, bs, h, hl, hk => by
    rw [show 2 * (n + 1) = 2 * n + 1 + 1 by omega] at h
    unfold rLoop at h
    split at h
    · cases h
    rename_i a' x hg
    split at h
    · cases h
    rw [if_pos ⟨rfl, by omega⟩] at h
    split at h
    · cases h
    rename_i hlt
    unfold rLoop at h
    split at h
    · cases h
    rename_i a2 y hg2
    split at h
    · cases h
    rw [if_neg (by omega)] at h
    have hp := (rLoop_grow _ _ _ _ _ _ _ h).length_le
    simp only [List.length_append] at hp
    have e := H at' (out ++ b) a' x hg (by simp; omega)
    have e2 := H a' (out ++ b ++ x) a2 y hg2 (by simp; omega)
    have hcond : ¬ (((w ⟨at', out ++ b, false⟩).bad || (decide (0 < i) && decide (0 ≤ cmpI (((w ⟨at', out ++ b, false⟩).out.drop from').take (to' - from')) ((w ⟨at', out ++ b, false⟩).out.drop (out ++ b).length)))) = true) := by
      rw [e]
      simp only [Bool.false_or]
      by_cases hi : 0 < i
      · obtain ⟨k1, k2⟩ := hk hi
        have d1 : ((out ++ b ++ x).drop from').take (to' - from') = last := by
          rw [k2]
          by_cases hf : from' ≤ (out ++ b).length
          · rw [List.drop_append_of_le_length hf, List.take_append_of_le_length (by simp; simp at k1; omega)]
          · rw [show to' - from' = 0 by omega]; simp
        have d2 : (out ++ b ++ x).drop (out ++ b).length = x := by simp
        rw [d1, d2, cmp_ge]
        have : ¬ (bytesLt x last || decide (x = last)) = true := fun hh => hlt ⟨by omega, hh⟩
        rw [lt_tri] at this
        simpa [hi] using this
      · simp [hi]
    rw [wMap, if_neg (by simp), if_neg hcond, e, e2]
    have hout : out ++ b ++ x ++ y = out ++ (b ++ x ++ y) := by simp [List.append_assoc]
    simp only
    rw [hout]
    refine map_fits H n (i + 1) a2 out (b ++ x ++ y) x _ _ a bs (by rw [show 2 * (i + 1) = 2 * i + 1 + 1 by omega]; exact h) hl (fun _ => ⟨?_, ?_⟩)
    · simp
    · rw [show out ++ (b ++ x ++ y) = out ++ b ++ (x ++ y) by simp [List.append_assoc], List.drop_left, show (out ++ b ++ x).length - (out ++ b).length = x.length by simp; omega]
      simp
theorem wHead_yes {M n : Int} (hM : 0 ≤ M ∧ M < 8) (hn : 0 ≤ n) (at' : Nat) (out : List Int) : wHead M n ⟨at', out, false⟩ = ⟨at', out ++ putL M n, false⟩ := by
  simp only [wHead, putS]
  rw [if_neg (by omega)]
  simp
theorem item_fits1 (u : List Int → Bool) (l : List Tok) (f : Nat) (ih : ∀ f', f = f' + 1 → Fits (wItem u l f') (rItem u l f')) : Fits (wItem u l f) (rItem u l f) := by
    intro at' out a bs h hl
    unfold rItem at h
    split at h
    · cases h
    rename_i hat
    simp only at h
    split at h
    · cases h
    rename_i hbad
    have hat' : at' < l.length := by omega
    have hb : ∀ t : Tok, ¬ rBad t → (t.k = 3 ∨ t.k = 4 → t.n = 0) ∧ (¬ (t.k = 3 ∨ t.k = 4) → t.b = []) ∧ 0 ≤ t.n := by
      intro t ht
      simp only [rBad] at ht
      exact ⟨by omega, fun hk => List.length_eq_zero_iff.1 (by omega), by omega⟩
    obtain ⟨hb1, hb2, hb3⟩ := hb _ hbad
    unfold wItem
    rw [dif_neg (show ¬ (l.length ≤ (⟨at', out, false⟩ : W).at' ∨ 32768 < (⟨at', out, false⟩ : W).out.length) by simp only; omega)]
    simp only
    split at h
    · rename_i k1
      rw [if_pos k1]
      simp only [Option.some.injEq, Prod.mk.injEq] at h
      obtain ⟨rfl, rfl⟩ := h
      rw [wNumber, hb2 (by omega)]
      simp only [List.length_nil, Int.natCast_zero, Int.lt_irrefl, decide_false, Bool.or_false]
      exact wHead_yes (by omega) hb3 _ _
    rename_i k1; rw [if_neg k1]
    split at h
    · rename_i k2
      rw [if_pos k2]
      simp only [Option.some.injEq, Prod.mk.injEq] at h
      obtain ⟨rfl, rfl⟩ := h
      rw [wNumber, hb2 (by omega)]
      simp only [List.length_nil, Int.natCast_zero, Int.lt_irrefl, decide_false, Bool.or_false]
      exact wHead_yes (by omega) hb3 _ _
    rename_i k2; rw [if_neg k2]
    split at h
    · rename_i k3
      rw [if_pos (.inl k3)]
      simp only [Option.some.injEq, Prod.mk.injEq] at h
      obtain ⟨rfl, rfl⟩ := h
      simp only [List.length_append] at hl
      have n4 : ¬ l[at'].k = 4 := by omega
      rw [wBytes, if_neg (by simp [n4, hb1 (.inl k3)]; omega), if_neg n4]
      rw [wHead_yes (by omega) (by omega)]
      simp
    rename_i k3
    split at h
    · rename_i k4
      rw [if_pos (.inr k4)]
      split at h
      case isFalse => cases h
      rename_i hu
      simp only [Option.some.injEq, Prod.mk.injEq] at h
      obtain ⟨rfl, rfl⟩ := h
      simp only [List.length_append] at hl
      rw [wBytes, if_neg (by simp [k4, hu, hb1 (.inr k4)]; omega), if_pos k4]
      rw [wHead_yes (by omega) (by omega)]
      simp
    rename_i k4
    rw [if_neg (by omega)]
    split at h
    case isFalse => cases h
    rename_i k5
    rw [if_pos k5]
    cases f with
    | zero => cases h
    | succ f =>
      simp only at h ⊢
      split at h
      · cases h
      rename_i hn
      rw [if_neg (by simp [wManyBad, hb2 (by omega)]; omega)]
      have ih := ih f rfl
      split at h
      · rename_i k6
        rw [if_neg (by omega), wHead_yes (by omega) hb3]
        exact map_fits ih _ 0 _ out _ [] 0 0 a bs h hl (fun hh => absurd hh (by omega))
      · rename_i k6
        rw [if_pos (by omega), wHead_yes (by omega) hb3]
        exact arr_fits ih _ 0 _ out _ [] a bs h hl
theorem item_fits (u : List Int → Bool) (l : List Tok) : ∀ f : Nat, Fits (wItem u l f) (rItem u l f)
  | 0 => item_fits1 u l 0 (fun f' h => by omega)
  | f + 1 => item_fits1 u l (f + 1) (fun f' h => by obtain rfl : f = f' := by omega
                                                    exact item_fits u l f)
/-- And the other way round. -/
def Back (W' : W → W) (g : Nat → Option (Nat × List Int)) : Prop :=
  ∀ (w : W), (W' w).bad = false → (W' w).out.length ≤ 32768 → ∃ bs, (W' w).out = w.out ++ bs ∧ g w.at' = some ((W' w).at', bs)
theorem arr_back {w : W → W} {g : Nat → Option (Nat × List Int)} (hm : Mono w) (H : Back w g) : ∀ (n i : Nat) (v : W) (out b last : List Int), v.out = out ++ b → (wArr w n v).bad = false → (wArr w n v).out.length ≤ 32768 →
    ∃ bs, (wArr w n v).out = out ++ bs ∧ rLoop g false n i v.at' b last = some ((wArr w n v).at', bs)
  | 0, i, v, out, b, last, hv, h1, h2 => ⟨b, hv, rfl⟩
  | n + 1, i, v, out, b, last, hv, h1, h2 => by
    have hb := (wArr_mono w hm (n + 1) v h1).1
    rw [wArr, if_neg (by simp [hb])] at h1 h2 ⊢
    obtain ⟨k1, k2⟩ := wArr_mono w hm n _ h1
    have k3 := k2.length_le
    obtain ⟨x, hx, hg⟩ := H v k1 (by omega)
    obtain ⟨bs, e1, e2⟩ := arr_back hm H n (i + 1) (w v) out (b ++ x) last (by rw [hx, hv, List.append_assoc]) h1 h2
    refine ⟨bs, e1, ?_⟩
    rw [hx, hv] at k3
    simp only [List.length_append] at k3
    unfold rLoop
    rw [hg]
    simp only
    rw [if_neg (by omega), if_neg (by simp)]
    exact e2
theorem map_back {w : W → W} {g : Nat → Option (Nat × List Int)} (hm : Mono w) (H : Back w g) : ∀ (n i : Nat) (v : W) (out b last : List Int) (from' to' : Nat), v.out = out ++ b →
    (0 < i → to' ≤ (out ++ b).length ∧ last = ((out ++ b).drop from').take (to' - from')) → (wMap w n i from' to' v).bad = false → (wMap w n i from' to' v).out.length ≤ 32768 →
    ∃ bs, (wMap w n i from' to' v).out = out ++ bs ∧ rLoop g true (2 * n) (2 * i) v.at' b last = some ((wMap w n i from' to' v).at', bs)
  | 0, i, v, out, b, last, from', to', hv, hk, h1, h2 => ⟨b, hv, rfl⟩
  | n + 1, i, v, out, b, last, from', to', hv, hk, h1, h2 => by
    have hb := (wMap_mono w hm (n + 1) i from' to' v h1).1
    rw [wMap, if_neg (by simp [hb])] at h1 h2 ⊢
    split at h1
    · simp at h1
    rename_i hc
    rw [if_neg hc] at h2 ⊢
    obtain ⟨k1, k2⟩ := wMap_mono w hm n _ _ _ _ h1
    obtain ⟨k3, k4⟩ := hm _ k1
    have k5 := k2.length_le
    have k6 := k4.length_le
    obtain ⟨x, hx, hg⟩ := H v k3 (by omega)
    obtain ⟨y, hy, hg2⟩ := H (w v) k1 (by omega)
    have hvl : v.out.length = (out ++ b).length := by rw [hv]
    obtain ⟨bs, e1, e2⟩ := map_back hm H n (i + 1) (w (w v)) out (b ++ x ++ y) x v.out.length (w v).out.length (by rw [hy, hx, hv]; simp [List.append_assoc]) (fun _ => ⟨by rw [hx, hv]; simp, by
      rw [hx, hv, show out ++ (b ++ x ++ y) = out ++ b ++ (x ++ y) by simp [List.append_assoc], List.drop_left, show (out ++ b ++ x).length - (out ++ b).length = x.length by simp; omega]
      simp⟩) h1 h2
    refine ⟨bs, e1, ?_⟩
    have hlt : ¬ (0 < 2 * i ∧ (bytesLt x last || decide (x = last)) = true) := by
      rintro ⟨q1, q2⟩
      obtain ⟨p1, p2⟩ := hk (by omega)
      apply hc
      rw [k3, Bool.false_or, hx, hv]
      have d1 : ((out ++ b ++ x).drop from').take (to' - from') = last := by
        rw [p2]
        by_cases hf : from' ≤ (out ++ b).length
        · rw [List.drop_append_of_le_length hf, List.take_append_of_le_length (by simp; simp at p1; omega)]
        · rw [show to' - from' = 0 by omega]; simp
      have d2 : (out ++ b ++ x).drop (out ++ b).length = x := by simp
      rw [d1, d2, cmp_ge]
      rw [lt_tri] at q2
      simp only [Bool.not_eq_true'] at q2
      simp [q2]
      omega
    have k7 : (w (w v)).out.length ≤ 32768 := by omega
    rw [hy, hx, hv] at k7
    simp only [List.length_append] at k7
    rw [show 2 * (n + 1) = 2 * n + 1 + 1 by omega]
    unfold rLoop
    rw [hg]
    simp only
    rw [if_neg (by omega), if_pos ⟨trivial, by omega⟩, if_neg hlt]
    unfold rLoop
    rw [hg2]
    simp only
    rw [if_neg (by simp; omega), if_neg (by omega)]
    rw [show 2 * i + 1 + 1 = 2 * (i + 1) by omega]
    exact e2
theorem item_back1 (u : List Int → Bool) (l : List Tok) (f : Nat) (ih : ∀ f', f = f' + 1 → Back (wItem u l f') (rItem u l f')) : Back (wItem u l f) (rItem u l f) := by
    intro w h hl
    have hw := (wItem_mono u l f w h).1
    obtain ⟨at', out, bad⟩ := w
    simp only at hw
    subst hw
    unfold wItem at h hl ⊢
    split at h
    · simp at h
    rename_i hh
    rw [dif_neg hh] at hl ⊢
    simp only at hh h hl ⊢
    have hat : ¬ l.length ≤ at' := by omega
    unfold rItem
    rw [dif_neg hat]
    simp only
    have num : ∀ (M : Int) (t : Tok), 0 ≤ M ∧ M < 8 → ¬ (t.k = 3 ∨ t.k = 4) → (wNumber M t ⟨at' + 1, out, false⟩).bad = false → ¬ rBad t ∧ wNumber M t ⟨at' + 1, out, false⟩ = ⟨at' + 1, out ++ putL M t.n, false⟩ := by
      intro M t hM hk hn
      unfold wNumber at hn ⊢
      obtain ⟨q1, q2, q3⟩ := wHead_ok hn hM
      simp only [Bool.false_or, decide_eq_false_iff_not] at q3
      refine ⟨by simp only [rBad]; omega, by rw [q2]⟩
    split at h
    · rename_i k1
      rw [if_pos k1] at hl ⊢
      obtain ⟨q1, q2⟩ := num 0 _ (by omega) (by omega) h
      rw [q2, if_neg q1, if_pos k1]
      exact ⟨_, rfl, rfl⟩
    rename_i k1; rw [if_neg k1] at hl ⊢
    split at h
    · rename_i k2
      rw [if_pos k2] at hl ⊢
      obtain ⟨q1, q2⟩ := num 1 _ (by omega) (by omega) h
      rw [q2, if_neg q1, if_neg k1, if_pos k2]
      exact ⟨_, rfl, rfl⟩
    rename_i k2; rw [if_neg k2] at hl ⊢
    split at h
    · rename_i k3
      rw [if_pos k3] at hl ⊢
      obtain ⟨q1, q2, q3, q4⟩ := wBytes_ok h
      have nb : ¬ rBad l[at'] := by simp only [rBad]; omega
      rw [q4, if_neg nb, if_neg k1, if_neg k2]
      by_cases k4 : l[at'].k = 4
      · rw [if_neg (show ¬ l[at'].k = 3 by omega), if_pos k4, if_pos k4, if_pos (q3 k4)]
        exact ⟨_, by simp, rfl⟩
      · rw [if_pos (show l[at'].k = 3 by omega), if_neg k4]
        exact ⟨_, by simp, rfl⟩
    rename_i k3; rw [if_neg k3] at hl ⊢
    split at h
    case isFalse => simp at h
    rename_i k5
    rw [if_pos k5] at hl ⊢
    cases f with
    | zero => simp at h
    | succ f =>
      simp only at h hl ⊢
      split at h
      · simp at h
      rename_i hb
      rw [if_neg hb] at hl ⊢
      have ih := ih f rfl
      have hmo := wItem_mono u l f
      have hb' : l[at'].b.length = 0 ∧ 0 ≤ l[at'].n ∧ ¬ 64 < l[at'].n := by
        simp only [wManyBad, Bool.or_eq_true, decide_eq_true_eq, not_or] at hb
        omega
      have nb : ¬ rBad l[at'] := by simp only [rBad]; omega
      rw [if_neg nb, if_neg k1, if_neg k2, if_neg (show ¬ l[at'].k = 3 by omega), if_neg (show ¬ l[at'].k = 4 by omega), if_pos k5, if_neg hb'.2.2]
      split at h
      · rename_i k6
        rw [if_pos k6] at hl ⊢
        rw [if_neg (show ¬ l[at'].k = 6 by omega)]
        rw [wHead_yes (by omega) hb'.2.1] at h hl ⊢
        exact arr_back hmo ih _ 0 _ out _ [] rfl h hl
      · rename_i k6
        rw [if_neg k6] at hl ⊢
        rw [if_pos (show l[at'].k = 6 by omega)]
        rw [wHead_yes (by omega) hb'.2.1] at h hl ⊢
        exact map_back hmo ih _ 0 _ out _ [] 0 0 rfl (fun hh => absurd hh (by omega)) h hl
theorem item_back (u : List Int → Bool) (l : List Tok) : ∀ f : Nat, Back (wItem u l f) (rItem u l f)
  | 0 => item_back1 u l 0 (fun f' h => by omega)
  | f + 1 => item_back1 u l (f + 1) (fun f' h => by obtain rfl : f = f' := by omega
                                                    exact item_back u l f)
/-- What a row's bytes are, by the reckoning. -/
theorem encR_iff (u : List Int → Bool) (l : List Tok) (a : List Int) : encR u l = (a, 0) ↔ l.length ≤ 600 ∧ rItem u l 6 0 = some (l.length, a) ∧ a.length ≤ 32768 := by
  constructor
  · intro h
    obtain ⟨h1, h2, h3⟩ := encR_yes h
    obtain ⟨bs, e1, e2⟩ := item_back u l 6 ⟨0, [], false⟩ (by rw [h2]) (by rw [h2]; exact h3)
    rw [h2] at e1 e2
    simp only [List.nil_append] at e1
    subst e1
    exact ⟨h1, e2, h3⟩
  · rintro ⟨h1, h2, h3⟩
    have := item_fits u l 6 0 [] l.length a h2 (by simpa using h3)
    unfold encR
    rw [if_neg (by omega), this]
    simp
    omega
end Go.Proofs.YtobjehjfdmelhaaDoor.Abs
end
section
set_option linter.unusedVariables false
set_option linter.unusedSimpArgs false
namespace Go.Proofs.YtobjehjfdmelhaaDoor.Abs
open Go
def shf (p : Nat) (r : Nat × List Int) : Nat × List Int := (p + r.1, r.2)
theorem rLoop_shift {g g' : Nat → Option (Nat × List Int)} {mp : Bool} {p : Nat} (H : ∀ k, g' (p + k) = (g k).map (shf p)) : ∀ (n i at' : Nat) (b last : List Int), rLoop g' mp n i (p + at') b last = (rLoop g mp n i at' b last).map (shf p)
  | 0, i, at', b, last => rfl
  | n + 1, i, at', b, last => by
    unfold rLoop
    rw [H at']
    cases hg : g at' with
    | none => rfl
    | some r =>
      obtain ⟨a, x⟩ := r
      simp only [Option.map_some, shf]
      split
      · rfl
      split
      · split
        · rfl
        · exact rLoop_shift H n _ _ _ _
      · exact rLoop_shift H n _ _ _ _
theorem rLoop_imp {g g' : Nat → Option (Nat × List Int)} {mp : Bool} (H : ∀ k r, g k = some r → g' k = some r) : ∀ (n i at' : Nat) (b last : List Int) (r : Nat × List Int), rLoop g mp n i at' b last = some r → rLoop g' mp n i at' b last = some r
  | 0, i, at', b, last, r, h => h
  | n + 1, i, at', b, last, r, h => by
    unfold rLoop at h ⊢
    split at h
    · cases h
    rename_i a x hg
    rw [H _ _ hg]
    simp only
    split at h
    · cases h
    rename_i h1
    rw [if_neg h1]
    split at h
    · rename_i h2
      rw [if_pos h2]
      split at h
      · cases h
      · rename_i h3
        rw [if_neg h3]
        exact rLoop_imp H n _ _ _ _ _ h
    · rename_i h2
      rw [if_neg h2]
      exact rLoop_imp H n _ _ _ _ _ h
theorem rLoop_split {g : Nat → Option (Nat × List Int)} {mp : Bool} (m : Nat) : ∀ (n i at' : Nat) (b last : List Int) (r : Nat × List Int), rLoop g mp (n + m) i at' b last = some r →
    ∃ a' b' last', rLoop g mp n i at' b last = some (a', b') ∧ rLoop g mp m (i + n) a' b' last' = some r
  | 0, i, at', b, last, r, h => ⟨at', b, last, rfl, by rw [Nat.zero_add] at h; exact h⟩
  | n + 1, i, at', b, last, r, h => by
    rw [show n + 1 + m = n + m + 1 by omega] at h
    unfold rLoop at h
    split at h
    · cases h
    rename_i a x hg
    split at h
    · cases h
    rename_i h1
    rw [show i + (n + 1) = i + 1 + n by omega]
    split at h
    · rename_i h2
      split at h
      · cases h
      · rename_i h3
        obtain ⟨a', b', l', k1, k2⟩ := rLoop_split m n _ _ _ _ _ h
        refine ⟨a', b', l', ?_, k2⟩
        unfold rLoop
        rw [hg]
        simp only
        rw [if_neg h1, if_pos h2, if_neg h3]
        exact k1
    · rename_i h2
      obtain ⟨a', b', l', k1, k2⟩ := rLoop_split m n _ _ _ _ _ h
      refine ⟨a', b', l', ?_, k2⟩
      unfold rLoop
      rw [hg]
      simp only
      rw [if_neg h1, if_neg h2]
      exact k1
/-- On goes every step. -/
def Gos (g : Nat → Option (Nat × List Int)) (L : Nat) : Prop := ∀ k a x, g k = some (a, x) → k < a ∧ a ≤ L ∧ 0 < x.length
theorem rLoop_go {g : Nat → Option (Nat × List Int)} {mp : Bool} {L : Nat} (H : Gos g L) : ∀ (n i at' : Nat) (b last : List Int) (a : Nat) (bs : List Int), rLoop g mp n i at' b last = some (a, bs) → at' + n ≤ a ∧ (at' ≤ L → a ≤ L) ∧ b.length + n ≤ bs.length
  | 0, i, at', b, last, a, bs, h => by
    simp only [rLoop, Option.some.injEq, Prod.mk.injEq] at h
    rw [h.1, h.2]
    exact ⟨Nat.le_refl _, fun h => h, Nat.le_refl _⟩
  | n + 1, i, at', b, last, a, bs, h => by
    unfold rLoop at h
    split at h
    · cases h
    rename_i a1 x hg
    obtain ⟨q1, q2, q3⟩ := H _ _ _ hg
    have fin : ∀ lst, rLoop g mp n (i + 1) a1 (b ++ x) lst = some (a, bs) → at' + (n + 1) ≤ a ∧ (at' ≤ L → a ≤ L) ∧ b.length + (n + 1) ≤ bs.length := by
      intro lst hh
      obtain ⟨p1, p2, p3⟩ := rLoop_go H n _ _ _ _ _ _ hh
      simp only [List.length_append] at p3
      exact ⟨by omega, fun _ => p2 q2, by omega⟩
    split at h
    · cases h
    split at h
    · split at h
      · cases h
      · exact fin _ h
    · exact fin _ h
theorem putL_pos (M n : Int) : 0 < (putL M n).length := by simp [putL]
theorem rItem_go (u : List Int → Bool) (l : List Tok) : ∀ f : Nat, Gos (rItem u l f) l.length
  | 0 => fun k a x h => by
    unfold rItem at h
    split at h
    · cases h
    simp only at h
    have p0 := putL_pos
    split at h
    · cases h
    split at h
    · simp only [Option.some.injEq, Prod.mk.injEq] at h; obtain ⟨rfl, rfl⟩ := h; exact ⟨by omega, by omega, p0 _ _⟩
    split at h
    · simp only [Option.some.injEq, Prod.mk.injEq] at h; obtain ⟨rfl, rfl⟩ := h; exact ⟨by omega, by omega, p0 _ _⟩
    split at h
    · simp only [Option.some.injEq, Prod.mk.injEq] at h; obtain ⟨rfl, rfl⟩ := h; exact ⟨by omega, by omega, by simp only [List.length_append]; have := p0 2 (l[k].b.length : Int); omega⟩
    split at h
    · split at h
      · simp only [Option.some.injEq, Prod.mk.injEq] at h; obtain ⟨rfl, rfl⟩ := h; exact ⟨by omega, by omega, by simp only [List.length_append]; have := p0 3 (l[k].b.length : Int); omega⟩
      · cases h
    split at h
    · cases h
    · cases h
  | f + 1 => fun k a x h => by
    unfold rItem at h
    split at h
    · cases h
    simp only at h
    have p0 := putL_pos
    split at h
    · cases h
    split at h
    · simp only [Option.some.injEq, Prod.mk.injEq] at h; obtain ⟨rfl, rfl⟩ := h; exact ⟨by omega, by omega, p0 _ _⟩
    split at h
    · simp only [Option.some.injEq, Prod.mk.injEq] at h; obtain ⟨rfl, rfl⟩ := h; exact ⟨by omega, by omega, p0 _ _⟩
    split at h
    · simp only [Option.some.injEq, Prod.mk.injEq] at h; obtain ⟨rfl, rfl⟩ := h; exact ⟨by omega, by omega, by simp only [List.length_append]; have := p0 2 (l[k].b.length : Int); omega⟩
    split at h
    · split at h
      · simp only [Option.some.injEq, Prod.mk.injEq] at h; obtain ⟨rfl, rfl⟩ := h; exact ⟨by omega, by omega, by simp only [List.length_append]; have := p0 3 (l[k].b.length : Int); omega⟩
      · cases h
    split at h
    · split at h
      · cases h
      have ih := rItem_go u l f
      split at h
      · obtain ⟨q1, q2, q3⟩ := rLoop_go ih _ _ _ _ _ _ _ h
        exact ⟨by omega, q2 (by omega), by have := p0 5 l[k].n; omega⟩
      · obtain ⟨q1, q2, q3⟩ := rLoop_go ih _ _ _ _ _ _ _ h
        exact ⟨by omega, q2 (by omega), by have := p0 4 l[k].n; omega⟩
    · cases h
/-- What an item is, of its token and of what stands behind. -/
def rTok (u : List Int → Bool) (g : Nat → Option (Nat × List Int)) (z : Bool) (t : Tok) (k : Nat) : Option (Nat × List Int) :=
  if rBad t then none
  else if t.k = 1 then some (k, putL 0 t.n)
  else if t.k = 2 then some (k, putL 1 t.n)
  else if t.k = 3 then some (k, putL 2 t.b.length ++ t.b)
  else if t.k = 4 then if u t.b = true then some (k, putL 3 t.b.length ++ t.b) else none
  else if t.k = 5 ∨ t.k = 6 then
    if z = true then none
    else if 64 < t.n then none
    else if t.k = 6 then rLoop g true (2 * t.n.toNat) 0 k (putL 5 t.n) []
    else rLoop g false t.n.toNat 0 k (putL 4 t.n) []
  else none
def rSub (u : List Int → Bool) (l : List Tok) : Nat → Nat → Option (Nat × List Int)
  | 0 => fun _ => none
  | f + 1 => rItem u l f
theorem rItem_tok (u : List Int → Bool) (l : List Tok) (f k : Nat) (hk : k < l.length) : rItem u l f k = rTok u (rSub u l f) (decide (f = 0)) l[k] (k + 1) := by
  cases f with
  | zero =>
    unfold rItem rTok rSub
    rw [dif_neg (by omega)]
    simp
  | succ f =>
    unfold rItem rTok rSub
    rw [dif_neg (by omega)]
    simp
theorem rItem_none (u : List Int → Bool) (l : List Tok) (f k : Nat) (hk : l.length ≤ k) : rItem u l f k = none := by
  unfold rItem
  rw [dif_pos hk]
theorem rTok_shift {u : List Int → Bool} {g g' : Nat → Option (Nat × List Int)} {z : Bool} {p : Nat} (H : ∀ k, g' (p + k) = (g k).map (shf p)) (t : Tok) (k : Nat) : rTok u g' z t (p + k) = (rTok u g z t k).map (shf p) := by
  unfold rTok
  split
  · rfl
  split
  · rfl
  split
  · rfl
  split
  · rfl
  split
  · split <;> rfl
  split
  · split
    · rfl
    split
    · rfl
    split
    · exact rLoop_shift H _ _ _ _ _
    · exact rLoop_shift H _ _ _ _ _
  · rfl
theorem rTok_imp {u : List Int → Bool} {g g' : Nat → Option (Nat × List Int)} {z z' : Bool} (hz : z' = true → z = true) (H : ∀ k r, g k = some r → g' k = some r) (t : Tok) (k : Nat) (r : Nat × List Int) (h : rTok u g z t k = some r) : rTok u g' z' t k = some r := by
  unfold rTok at h ⊢
  split at h
  · cases h
  rename_i h0; rw [if_neg h0]
  split at h
  · rename_i h1; rw [if_pos h1]; exact h
  rename_i h1; rw [if_neg h1]
  split at h
  · rename_i h2; rw [if_pos h2]; exact h
  rename_i h2; rw [if_neg h2]
  split at h
  · rename_i h3; rw [if_pos h3]; exact h
  rename_i h3; rw [if_neg h3]
  split at h
  · rename_i h4; rw [if_pos h4]; exact h
  rename_i h4; rw [if_neg h4]
  split at h
  · rename_i h5
    rw [if_pos h5]
    split at h
    · cases h
    rename_i h6
    rw [if_neg (fun e => h6 (hz e))]
    split at h
    · cases h
    rename_i h7
    rw [if_neg h7]
    split at h
    · rename_i h8; rw [if_pos h8]; exact rLoop_imp H _ _ _ _ _ _ h
    · rename_i h8; rw [if_neg h8]; exact rLoop_imp H _ _ _ _ _ _ h
  · cases h
theorem rItem_shift (u : List Int → Bool) (pre l : List Tok) : ∀ (f k : Nat), rItem u (pre ++ l) f (pre.length + k) = (rItem u l f k).map (shf pre.length)
  | f, k => by
    by_cases hk : k < l.length
    · rw [rItem_tok u (pre ++ l) f (pre.length + k) (by simp; omega), rItem_tok u l f k hk]
      have e : (pre ++ l)[pre.length + k]'(by simp; omega) = l[k] := by simp [List.getElem_append_right]
      rw [e, show pre.length + k + 1 = pre.length + (k + 1) by omega]
      cases f with
      | zero => exact rTok_shift (fun k => rfl) _ _
      | succ f => exact rTok_shift (fun k => rItem_shift u pre l f k) _ _
    · rw [rItem_none _ _ _ _ (by simp; omega), rItem_none _ _ _ _ (by omega)]
      rfl
theorem rItem_ext (u : List Int → Bool) (l q : List Tok) : ∀ (f k : Nat) (r : Nat × List Int), rItem u l f k = some r → rItem u (l ++ q) f k = some r
  | f, k, r, h => by
    by_cases hk : k < l.length
    · rw [rItem_tok u l f k hk] at h
      rw [rItem_tok u (l ++ q) f k (by simp; omega)]
      have e : (l ++ q)[k]'(by simp; omega) = l[k] := by simp [List.getElem_append_left, hk]
      rw [e]
      cases f with
      | zero => exact rTok_imp (fun h => h) (fun k r h => h) _ _ _ h
      | succ f => exact rTok_imp (fun h => h) (fun k r h => rItem_ext u l q f k r h) _ _ _ h
    · rw [rItem_none _ _ _ _ (by omega)] at h
      cases h
theorem rItem_deep (u : List Int → Bool) (l : List Tok) : ∀ (f k : Nat) (r : Nat × List Int), rItem u l f k = some r → rItem u l (f + 1) k = some r
  | f, k, r, h => by
    by_cases hk : k < l.length
    · rw [rItem_tok u l f k hk] at h
      rw [rItem_tok u l (f + 1) k hk]
      cases f with
      | zero => exact rTok_imp (fun h => by simp at h) (fun k r h => by cases h) _ _ _ h
      | succ f => exact rTok_imp (fun h => by simp at h) (fun k r h => rItem_deep u l f k r h) _ _ _ h
    · rw [rItem_none _ _ _ _ (by omega)] at h
      cases h
/-- An array of three: its head, and theirs. -/
theorem inside3 {u : List Int → Bool} {a b c : List Tok} {x y z s : List Int} (ha : encR u a = (x, 0)) (hb : encR u b = (y, 0)) (hc : encR u c = (z, 0)) (h : encR u ([⟨5, 3, []⟩] ++ a ++ b ++ c) = (s, 0)) : s = [131] ++ x ++ y ++ z := by
  rw [encR_iff] at ha hb hc h
  obtain ⟨_, ha, _⟩ := ha
  obtain ⟨_, hb, _⟩ := hb
  obtain ⟨_, hc, _⟩ := hc
  obtain ⟨_, h, _⟩ := h
  have place : ∀ (pre l post : List Tok) (w : List Int), rItem u l 6 0 = some (l.length, w) → ∀ r, rItem u (pre ++ l ++ post) 5 pre.length = some r → r = (pre.length + l.length, w) := by
    intro pre l post w hw r hr
    have h1 := rItem_ext u (pre ++ l) post 6 pre.length (pre.length + l.length, w) (by
      have := rItem_shift u pre l 6 0
      rw [hw] at this
      simpa [shf] using this)
    have h2 := rItem_deep _ _ _ _ _ hr
    rw [h1] at h2
    exact (Option.some.inj h2).symm
  rw [rItem_tok _ _ _ _ (by simp)] at h
  have e0 : ([⟨5, 3, []⟩] ++ a ++ b ++ c : List Tok)[0]'(by simp) = ⟨5, 3, []⟩ := by simp
  rw [e0] at h
  have ep : putL 4 3 = [131] := by decide
  unfold rTok rSub at h
  rw [if_neg (by simp [rBad]), if_neg (by simp), if_neg (by simp), if_neg (by simp), if_neg (by simp), if_pos (by simp), if_neg (by simp), if_neg (by simp), if_neg (by simp)] at h
  simp only [ep, show (3 : Int).toNat = 3 from rfl] at h
  unfold rLoop at h
  split at h
  · cases h
  rename_i a1 x1 h1
  split at h
  · cases h
  rw [if_neg (by simp)] at h
  unfold rLoop at h
  split at h
  · cases h
  rename_i a2 x2 h2
  split at h
  · cases h
  rw [if_neg (by simp)] at h
  unfold rLoop at h
  split at h
  · cases h
  rename_i a3 x3 h3
  split at h
  · cases h
  rw [if_neg (by simp)] at h
  simp only [rLoop, Option.some.injEq, Prod.mk.injEq] at h
  have k1 := place [⟨5, 3, []⟩] a (b ++ c) x ha (a1, x1) (by simpa [List.append_assoc] using h1)
  simp only [Prod.mk.injEq, List.length_singleton] at k1
  obtain ⟨rfl, rfl⟩ := k1
  have k2 := place ([⟨5, 3, []⟩] ++ a) b c y hb (a2, x2) (by simpa [List.append_assoc, Nat.add_comm] using h2)
  simp only [Prod.mk.injEq, List.length_append, List.length_singleton] at k2
  obtain ⟨rfl, rfl⟩ := k2
  have k3 := place ([⟨5, 3, []⟩] ++ a ++ b) c [] z hc (a3, x3) (by
    rw [show ([⟨5, 3, []⟩] ++ a ++ b : List Tok).length = 1 + a.length + b.length by simp; omega]
    simpa using h3)
  simp only [Prod.mk.injEq] at k3
  rw [← h.2, k3.2]
end Go.Proofs.YtobjehjfdmelhaaDoor.Abs
end
section
set_option linter.unusedVariables false
set_option linter.unusedSimpArgs false
namespace Go.Proofs.YtobjehjfdmelhaaDoor.Abs
open Go
attribute [local irreducible] ifB fitP Does Weaker
def wkC (r : Option (Nat × List Int)) : List AV := match r with
  | some (a, bs) => [.int .i64 (a : Int), .own bs.length 1 (bys bs), .bool false]
  | none => [.int .i64 0, .own 0 1 [], .bool true]
def RItemOk (l : List Tok) (f : Nat) : Prop := ∀ at' : Nat, at' ≤ 1000000 → ACall Tryd.prog 29 [.ro l.length (toksC l), .int .i64 at', .int .i64 (6 - (f : Int))] (.agg (wkC (rItem validR l f at'))) []
theorem ritem_none (l : List Tok) (f : Nat) (hl : l.length ≤ 1000000) (at' : Nat) (h : l.length ≤ at') (d : Int) : ACall Tryd.prog 29 [.ro l.length (toksC l), .int .i64 at', .int .i64 d] (.agg (wkC none)) [] := by
  refine ACall.of_does TTok Tryd.func29 rfl Tryd.call29 rfl (wpc_sound (M := MC) (PL := PL0) (CU := noCut) TTok mixed _ _ _ ?_)
  conv => whnf
  repeat ((first | (refine ifB_pos (decide_eq_true (by first | omega | rfl | (dsimp only; omega))) ?_) | refine ⟨rfl, ?_⟩ | refine ⟨_, rfl, ?_⟩ | refine ⟨⟨rfl, rfl⟩, ?_⟩ | (refine ⟨⟨rfl, rfl, ?_⟩, ?_⟩; (focus (first | exact Nat.le_of_ble_eq_true rfl | (simp; done))))); conv => whnf)
  rfl
def PLri1 : Plan := (takesTo [0, 1, 2, 6] (.all [(3, (takesTo [4] (.all [(5, (.all [(7, (.all [(8, (takesTo [9] (.all [(10, .done)])))]))])), (7, (.all [(5, (.all [(8, (takesTo [9] (.all [(10, .done)])))]))]))]))), (7, (.all [(3, (takesTo [4] (.all [(5, (.all [(8, (takesTo [9] (.all [(10, .done)])))]))])))]))]))
def PLri : Nat → Bool × Plan := plans [(13, (false, PLri1)), (17, (false, PLri1))]
set_option maxHeartbeats 4000000 in
theorem ritem_at (l : List Tok) (hl : ToksOk l) (hlb : ∀ t ∈ l, t.b.length ≤ 1099511627776) (hll : l.length ≤ 1000000) (at' : Nat) (ha : at' < l.length) (f : Nat) (hf : f ≤ 6)
    (hm : (l[at'].k = 5 ∨ l[at'].k = 6) → ¬ rBad l[at'] → ACall Tryd.prog 29 [.ro l.length (toksC l), .int .i64 at', .int .i64 (6 - (f : Int))] (.agg (wkC (rItem validR l f at'))) []) :
    ACall Tryd.prog 29 [.ro l.length (toksC l), .int .i64 at', .int .i64 (6 - (f : Int))] (.agg (wkC (rItem validR l f at'))) [] := by
  have hL := pureL_toks l
  by_cases hmm : (l[at'].k = 5 ∨ l[at'].k = 6) ∧ ¬ rBad l[at']
  · exact hm hmm.1 hmm.2
  clear hm
  rw [rItem_tok _ _ _ _ ha]
  obtain ⟨t, ht⟩ : ∃ t, t = l[at'] := ⟨_, rfl⟩
  have hto : TokOk t := by rw [ht]; exact hl _ (List.getElem_mem ha)
  have htb : t.b.length ≤ 1099511627776 := by rw [ht]; exact hlb _ (List.getElem_mem ha)
  have hld : ∀ m s : Nat, m = 3 * at' → s = 3 → takeN s ((toksC l).drop m) = some (tokC t) := by
    intro m s hm hs
    rw [takeN_tok ha hm hs, ht]
  rw [← ht] at hmm ⊢
  obtain ⟨k, n, b⟩ := t
  clear ht
  simp only [rBad] at htb hmm
  replace hld : ∀ m s : Nat, m = 3 * at' → s = 3 → takeN s ((toksC l).drop m) = some [.int .i64 k, .int .i64 n, .ro b.length (bys b)] := hld
  refine ACall.of_does TTok Tryd.func29 rfl Tryd.call29 rfl (wpc_sound (M := MC) (PL := PLri) (CU := cutAt [200005]) TTok mixed _ _ _ ?_)
  conv => whnf
  repeat ((first | (refine ifB_neg (decide_eq_false (by first | omega | rfl | (dsimp only; omega))) ?_) | refine ⟨rfl, ?_⟩ | (refine ⟨⟨rfl, rfl, ?_⟩, ?_⟩; (focus (first | exact Nat.le_of_ble_eq_true rfl | (simp; done)))) | (refine ⟨⟨?_, ?_, ?_⟩, ?_⟩; (focus omega); (focus (first | omega | (simp; done) | (simp; omega))); (focus (first | (simp; done) | (simp; omega) | (rw [toksC_length]; simp; omega))))); conv => whnf)
  refine ⟨_, hld _ _ (by simp; omega) rfl, ?_⟩
  conv => whnf
  repeat ((first | refine ⟨rfl, ?_⟩ | (refine ⟨⟨rfl, rfl, ?_⟩, ?_⟩; (focus (first | exact Nat.le_of_ble_eq_true rfl | (simp; done))))); conv => whnf)
  refine Does.seqCut (α := Unit) (fun _ => mkSt [(0, .ro l.length (toksC l)), (1, .int .i64 (at' : Int)), (2, .int .i64 (6 - (f : Int))), (6, .ptr 0 0), (7, .ptr 1 0), (8, .ptr 2 0), (57, .bool (decide (rBad ⟨k, n, b⟩)))]
    [(0, [.int .i64 0, .nil, .bool false]), (1, [.int .i64 0, .nil, .bool true]), (2, [.int .i64 k, .int .i64 n, .ro b.length (bys b)])] 3 191) (fun _ => True) ?_ (fun _ _ => ?_)
  · refine wpc_sound (M := MC) (PL := PL0) (CU := noCut) TTok mixed _ _ _ ?_
    conv => whnf
    repeat' (first | (refine ifB_t ?_; (conv => whnf)) | (refine ifB_f ?_; (conv => whnf)) | (refine ifB_neg (decide_eq_false (by first | omega | rfl | (dsimp only; omega))) ?_; (conv => whnf)) | (refine ifB_pos (decide_eq_true (by first | omega | rfl | (dsimp only; omega))) ?_; (conv => whnf)) | (exact ⟨(), trivial, weaker_of [(0, 0), (1, 1), (2, 2)] rfl rfl ⟨⟨rfl, rfl, hL⟩, ⟨rfl, rfl⟩, ⟨rfl, rfl⟩, ⟨rfl, rfl⟩, ⟨rfl, rfl⟩, ⟨rfl, rfl⟩, leP_bool (by first | exact (decide_eq_true (p := rBad ⟨k, n, b⟩) (by simp only [rBad]; omega)).symm | exact (decide_eq_false (p := rBad ⟨k, n, b⟩) (by simp only [rBad]; omega)).symm | exact decide_eq_decide.2 (by simp only [rBad]; omega)), trivial⟩ ⟨⟨⟨rfl, rfl⟩, trivial, rfl, trivial⟩, ⟨⟨rfl, rfl⟩, trivial, rfl, trivial⟩, ⟨⟨rfl, rfl⟩, ⟨rfl, rfl⟩, ⟨rfl, rfl, pureL_bys _⟩, trivial⟩, trivial⟩⟩) | (refine ⟨_, rfl, ?_⟩; conv => whnf) | (refine ifB_dec (fun _ => ?_) (fun _ => ?_) <;> conv => whnf) | (refine And.intro ?_ ?_ <;> conv => whnf))
  · refine wpc_sound (M := MC) (PL := PLri) (CU := noCut) TTok mixed _ _ _ ?_
    conv => whnf
    unfold rTok
    refine ifB_bool (fun hC => ?_) (fun hC => ?_)
    · rw [if_pos (of_decide_eq_true hC)]
      conv => whnf
      repeat ((first | refine ⟨rfl, ?_⟩ | refine ⟨_, rfl, ?_⟩ | refine ⟨⟨rfl, rfl⟩, ?_⟩ | (refine ⟨⟨rfl, rfl, ?_⟩, ?_⟩; (focus (first | exact Nat.le_of_ble_eq_true rfl | (simp; done))))); conv => whnf)
      rfl
    have hC := of_decide_eq_false hC
    rw [if_neg hC]
    simp only [rBad] at hC
    conv => whnf
    repeat ((refine ⟨_, rfl, ?_⟩); conv => whnf)
    have hp2 := putL_short 2 (n := (b.length : Int)) (by omega)
    have hp3 := putL_short 3 (n := (b.length : Int)) (by omega)
    refine ifB_dec (fun k1 => ?_) (fun k1 => ?_)
    · rw [if_pos k1]
      conv => whnf
      repeat ((first | (refine fit_i64 ⟨by first | omega | rfl | (dsimp only; omega), by first | omega | rfl | (dsimp only; omega)⟩ ?_) | refine ⟨rfl, ?_⟩ | refine ⟨_, rfl, ?_⟩); conv => whnf)
      refine ⟨_, _, refHead_ok 0 n (by omega) (by omega) (by omega), by first | rfl | simp [noRoIf, noRoL, noRoV, noRoL_bys], ?_⟩
      conv => whnf
      repeat ((first | refine ⟨rfl, ?_⟩ | refine ⟨_, rfl, ?_⟩ | refine ⟨⟨rfl, rfl⟩, ?_⟩ | (refine ⟨⟨rfl, rfl, rfl, ?_, pureL_bys _⟩, ?_⟩; (focus (simp; done))) | (refine ⟨⟨rfl, rfl, ?_⟩, ?_⟩; (focus (first | exact Nat.le_of_ble_eq_true rfl | (simp; done))))); conv => whnf)
      rfl
    rw [if_neg k1]
    conv => whnf
    refine ifB_dec (fun k2 => ?_) (fun k2 => ?_)
    · rw [if_pos k2]
      conv => whnf
      repeat ((first | (refine fit_i64 ⟨by first | omega | rfl | (dsimp only; omega), by first | omega | rfl | (dsimp only; omega)⟩ ?_) | refine ⟨rfl, ?_⟩ | refine ⟨_, rfl, ?_⟩); conv => whnf)
      refine ⟨_, _, refHead_ok 1 n (by omega) (by omega) (by omega), by first | rfl | simp [noRoIf, noRoL, noRoV, noRoL_bys], ?_⟩
      conv => whnf
      repeat ((first | refine ⟨rfl, ?_⟩ | refine ⟨_, rfl, ?_⟩ | refine ⟨⟨rfl, rfl⟩, ?_⟩ | (refine ⟨⟨rfl, rfl, rfl, ?_, pureL_bys _⟩, ?_⟩; (focus (simp; done))) | (refine ⟨⟨rfl, rfl, ?_⟩, ?_⟩; (focus (first | exact Nat.le_of_ble_eq_true rfl | (simp; done))))); conv => whnf)
      rfl
    rw [if_neg k2]
    conv => whnf
    refine ifB_dec (fun k3 => ?_) (fun k3 => ?_)
    · rw [if_pos k3]
      conv => whnf
      refine ⟨by kernel_rfl, ?_⟩
      conv => whnf
      repeat' (first | (refine fit_i64 ⟨by first | omega | rfl | (dsimp only; omega), by first | omega | rfl | (dsimp only; omega)⟩ ?_; (conv => whnf)) | (refine ⟨ones_bys _, ?_⟩; (conv => whnf)) | (refine ⟨rfl, ?_⟩; (conv => whnf)) | (refine ⟨⟨rfl, rfl⟩, ?_⟩; (conv => whnf)) | (refine ⟨⟨rfl, rfl, ?_⟩, ?_⟩; (focus (first | exact Nat.le_of_ble_eq_true rfl | (simp; done))); (conv => whnf)) | (refine ⟨⟨rfl, rfl, ?_, ?_⟩, ?_⟩; (focus (first | (simp; done) | (simp; omega))); (focus (first | (simp [limB]; done) | (simp [limB]; omega))); (conv => whnf)) | (refine And.intro ?_ ?_; (focus (first | (simp [limB]; done) | (simp [limB]; omega))); (conv => whnf)) | (refine ⟨_, _, refHead_ok 2 b.length (by omega) (by omega) (by omega), by first | rfl | simp [noRoIf, noRoL, noRoV, noRoL_bys], ?_⟩; conv => whnf) | (refine ⟨⟨by simp, rfl, by rw [bys_append], by simp, pureL_bys _⟩, ?_⟩; conv => whnf) | (rfl) | (refine ⟨_, rfl, ?_⟩; conv => whnf) | (refine And.intro ?_ ?_ <;> conv => whnf))
    rw [if_neg k3]
    conv => whnf
    refine ifB_dec (fun k4 => ?_) (fun k4 => ?_)
    · rw [if_pos k4]
      have hu := refUtf8_ok b hto.2.2 htb
      cases hv : validR b
      · rw [hv] at hu
        rw [if_neg (by simp)]
        conv => whnf
        repeat ((first | refine ⟨pureL_bys _, ?_⟩ | refine ⟨rfl, ?_⟩ | refine ⟨_, rfl, ?_⟩); conv => whnf)
        refine ⟨_, _, hu, by first | rfl | simp [noRoIf, noRoL, noRoV, noRoL_bys], ?_⟩
        conv => whnf
        repeat ((first | refine ifB_t ?_ | refine ⟨rfl, ?_⟩ | refine ⟨_, rfl, ?_⟩ | refine ⟨⟨rfl, rfl⟩, ?_⟩ | (refine ⟨⟨rfl, rfl, ?_⟩, ?_⟩; (focus (first | exact Nat.le_of_ble_eq_true rfl | (simp; done))))); conv => whnf)
        rfl
      rw [hv] at hu
      rw [if_pos rfl]
      conv => whnf
      repeat ((first | refine ⟨pureL_bys _, ?_⟩ | refine ⟨rfl, ?_⟩ | refine ⟨_, rfl, ?_⟩); conv => whnf)
      refine ⟨_, _, hu, by first | rfl | simp [noRoIf, noRoL, noRoV, noRoL_bys], ?_⟩
      conv => whnf
      repeat ((refine ifB_f ?_); conv => whnf)
      refine ⟨by kernel_rfl, ?_⟩
      conv => whnf
      repeat' (first | (refine fit_i64 ⟨by first | omega | rfl | (dsimp only; omega), by first | omega | rfl | (dsimp only; omega)⟩ ?_; (conv => whnf)) | (refine ⟨ones_bys _, ?_⟩; (conv => whnf)) | (refine ⟨rfl, ?_⟩; (conv => whnf)) | (refine ⟨⟨rfl, rfl⟩, ?_⟩; (conv => whnf)) | (refine ⟨⟨rfl, rfl, ?_⟩, ?_⟩; (focus (first | exact Nat.le_of_ble_eq_true rfl | (simp; done))); (conv => whnf)) | (refine ⟨⟨rfl, rfl, ?_, ?_⟩, ?_⟩; (focus (first | (simp; done) | (simp; omega))); (focus (first | (simp [limB]; done) | (simp [limB]; omega))); (conv => whnf)) | (refine And.intro ?_ ?_; (focus (first | (simp [limB]; done) | (simp [limB]; omega))); (conv => whnf)) | (refine ⟨_, _, refHead_ok 3 b.length (by omega) (by omega) (by omega), by first | rfl | simp [noRoIf, noRoL, noRoV, noRoL_bys], ?_⟩; conv => whnf) | (refine ⟨⟨by simp, rfl, by rw [bys_append], by simp, pureL_bys _⟩, ?_⟩; conv => whnf) | (rfl) | (refine ⟨_, rfl, ?_⟩; conv => whnf) | (refine And.intro ?_ ?_ <;> conv => whnf))
    rw [if_neg k4]
    clear hp2 hp3
    have k5 : k ≠ 5 := by omega
    have k6 : k ≠ 6 := by omega
    rw [if_neg (show ¬ (k = 5 ∨ k = 6) by omega)]
    conv => whnf
    repeat ((first | (refine ifB_neg (decide_eq_false (by first | omega | rfl | (dsimp only; omega))) ?_) | refine ⟨rfl, ?_⟩ | refine ⟨_, rfl, ?_⟩ | refine ⟨⟨rfl, rfl⟩, ?_⟩ | (refine ⟨⟨rfl, rfl, ?_⟩, ?_⟩; (focus (first | exact Nat.le_of_ble_eq_true rfl | (simp; done))))); conv => whnf)
    rfl
end Go.Proofs.YtobjehjfdmelhaaDoor.Abs
end
section
set_option linter.unusedVariables false
set_option linter.unusedSimpArgs false
namespace Go.Proofs.YtobjehjfdmelhaaDoor.Abs
open Go
attribute [local irreducible] ifB fitP Does Weaker
def PLrm : Nat → Bool × Plan := plans [(38, (false, (takesTo [0, 2, 4] (.all [(1, (.all [(3, (takesTo [7] (.all [(5, (.all [(6, (.all [(8, (takesTo [9] (.all [(10, .done)])))]))]))]))), (5, (.all [(3, (takesTo [7] (.all [(6, (.all [(8, (takesTo [9] (.all [(10, .done)])))]))])))]))])), (3, (.all [(1, (takesTo [7] (.all [(5, (.all [(6, (.all [(8, (takesTo [9] (.all [(10, .done)])))]))]))]))), (5, (.all [(1, (takesTo [7] (.all [(6, (.all [(8, (takesTo [9] (.all [(10, .done)])))]))]))), (6, (.all [(1, (takesTo [7] (.all [(8, (takesTo [9] (.all [(10, .done)])))])))]))]))])), (5, (.all [(1, (.all [(3, (takesTo [7] (.all [(6, (.all [(8, (takesTo [9] (.all [(10, .done)])))]))])))])), (3, (.all [(1, (takesTo [7] (.all [(6, (.all [(8, (takesTo [9] (.all [(10, .done)])))]))]))), (6, (.all [(1, (takesTo [7] (.all [(8, (takesTo [9] (.all [(10, .done)])))])))]))]))]))]))))]
theorem Does.weakerTo' {P : Program} {k : Nat} {c : Code} {Q : AX → St → Prop} {st : St} {env : List (Nat × AV)} {heap : List (Nat × List AV)} {nx n : Nat} (g : List (Nat × Nat)) (hn : st.n = n) (hg : renOk k g heap nx = true)
    (he : envLe (oldOf k g) st.env env) (hh : heapLe (oldOf k g) st.heap heap) (h : Does P k c Q (mkSt env heap nx n)) : Does P k c Q st := Does.weaker (weaker_of g hn hg he hh) h
theorem whole_bys (l : List Int) : (List.drop 0 (bys l)).take (l.length * 1) = bys l := by rw [List.drop_zero, Nat.mul_one]; exact List.take_of_length_le (by simp)
theorem rItem_byt {l : List Tok} (hl : ToksOk l) {f a a' : Nat} {x : List Int} (h : rItem validR l f a = some (a', x)) (hx : x.length ≤ 32768) : Byt x := by
  have := item_fits validR l f a [] a' x h (by simpa using hx)
  have h2 := wItem_byt validR l hl f ⟨a, [], false⟩ (by simp [Byt])
  rw [this] at h2
  simpa using h2
theorem rLoop_len {g : Nat → Option (Nat × List Int)} {mp : Bool} : ∀ (n i at' : Nat) (b last : List Int) (a : Nat) (bs : List Int), rLoop g mp n i at' b last = some (a, bs) → bs.length ≤ max 32768 b.length
  | 0, i, at', b, last, a, bs, h => by
    simp only [rLoop, Option.some.injEq, Prod.mk.injEq] at h
    rw [h.2]; omega
  | n + 1, i, at', b, last, a, bs, h => by
    unfold rLoop at h
    split at h
    · cases h
    rename_i a1 x hg
    split at h
    · cases h
    split at h
    · split at h
      · cases h
      · have := rLoop_len n _ _ _ _ _ _ h
        simp only [List.length_append] at this; omega
    · have := rLoop_len n _ _ _ _ _ _ h
      simp only [List.length_append] at this; omega
theorem rItem_len {u : List Int → Bool} {l : List Tok} (hlb : ∀ t ∈ l, t.b.length ≤ 1099511627776) {f k a : Nat} {x : List Int} (h : rItem u l f k = some (a, x)) : x.length ≤ 1099511627785 := by
  by_cases hk : k < l.length
  · rw [rItem_tok u l f k hk] at h
    have hb := hlb _ (List.getElem_mem hk)
    have fin : ∀ (g : Nat → Option (Nat × List Int)) (mp : Bool) (n i at' : Nat) (M N : Int) (last : List Int), 0 ≤ N → rLoop g mp n i at' (putL M N) last = some (a, x) → x.length ≤ 1099511627785 := by
      intro g mp n i at' M N last hN h
      have h1 := rLoop_len _ _ _ _ _ _ _ h
      have h2 := putL_short M hN
      omega
    unfold rTok at h
    split at h
    · cases h
    rename_i h0
    simp only [rBad] at h0
    split at h
    · simp only [Option.some.injEq, Prod.mk.injEq] at h; obtain ⟨rfl, rfl⟩ := h; have := putL_short 0 (n := l[k].n) (by omega); omega
    split at h
    · simp only [Option.some.injEq, Prod.mk.injEq] at h; obtain ⟨rfl, rfl⟩ := h; have := putL_short 1 (n := l[k].n) (by omega); omega
    split at h
    · simp only [Option.some.injEq, Prod.mk.injEq] at h; obtain ⟨rfl, rfl⟩ := h; have := putL_short 2 (n := (l[k].b.length : Int)) (by omega); simp only [List.length_append]; omega
    split at h
    · split at h
      · simp only [Option.some.injEq, Prod.mk.injEq] at h; obtain ⟨rfl, rfl⟩ := h; have := putL_short 3 (n := (l[k].b.length : Int)) (by omega); simp only [List.length_append]; omega
      · cases h
    split at h
    · split at h
      · cases h
      split at h
      · cases h
      split at h
      · exact fin _ _ _ _ _ _ _ _ (by omega) h
      · exact fin _ _ _ _ _ _ _ _ (by omega) h
    · cases h
  · rw [rItem_none _ _ _ _ (by omega)] at h
    cases h
set_option maxHeartbeats 4000000 in
theorem ritem_many (l : List Tok) (hl : ToksOk l) (hlb : ∀ t ∈ l, t.b.length ≤ 1099511627776) (hll : l.length ≤ 1000000) (at' : Nat) (ha : at' < l.length) (f : Nat) (hf : f ≤ 6) (hi : ∀ f', f = f' + 1 → RItemOk l f')
    (hk : l[at'].k = 5 ∨ l[at'].k = 6) (hb : ¬ rBad l[at']) :
    ACall Tryd.prog 29 [.ro l.length (toksC l), .int .i64 at', .int .i64 (6 - (f : Int))] (.agg (wkC (rItem validR l f at'))) [] := by
  have hL := pureL_toks l
  rw [rItem_tok _ _ _ _ ha]
  obtain ⟨t, ht⟩ : ∃ t, t = l[at'] := ⟨_, rfl⟩
  have hto : TokOk t := by rw [ht]; exact hl _ (List.getElem_mem ha)
  have hld : ∀ m s : Nat, m = 3 * at' → s = 3 → takeN s ((toksC l).drop m) = some (tokC t) := by
    intro m s hm hs
    rw [takeN_tok ha hm hs, ht]
  rw [← ht] at hk hb ⊢
  obtain ⟨k, n, b⟩ := t
  clear ht
  obtain ⟨q1, q2, _⟩ := hto
  simp only at hk q2
  have hrt : rTok validR (rSub validR l f) (decide (f = 0)) ⟨k, n, b⟩ (at' + 1) =
      if f = 0 ∨ 64 < n then none else rLoop (rSub validR l f) (decide (k = 6)) (if k = 6 then 2 * n.toNat else n.toNat) 0 (at' + 1) (putL (k - 1) n) [] := by
    unfold rTok
    rw [if_neg hb]
    simp only
    rw [if_neg (show ¬ k = 1 by omega), if_neg (show ¬ k = 2 by omega), if_neg (show ¬ k = 3 by omega), if_neg (show ¬ k = 4 by omega), if_pos hk]
    by_cases h0 : f = 0
    · simp [h0]
    · rcases hk with rfl | rfl <;> simp [h0]
  rw [hrt]
  clear hrt
  simp only [rBad] at hb
  have hb0 : b = [] := List.length_eq_zero_iff.1 (by omega)
  subst hb0
  obtain ⟨N, rfl⟩ : ∃ N : Nat, n = N := ⟨n.toNat, by omega⟩
  replace hld : ∀ m s : Nat, m = 3 * at' → s = 3 → takeN s ((toksC l).drop m) = some [.int .i64 k, .int .i64 N, .ro 0 []] := hld
  rw [Int.toNat_natCast]
  refine ACall.of_does TTok Tryd.func29 rfl Tryd.call29 rfl (wpc_sound (M := MC) (PL := PLrm) (CU := noCut) TTok mixed _ _ _ ?_)
  conv => whnf
  repeat ((first | (refine ifB_neg (decide_eq_false (by first | omega | rfl | (dsimp only; omega))) ?_) | refine ⟨rfl, ?_⟩ | (refine ⟨⟨rfl, rfl, ?_⟩, ?_⟩; (focus (first | exact Nat.le_of_ble_eq_true rfl | (simp; done)))) | (refine ⟨⟨?_, ?_, ?_⟩, ?_⟩; (focus omega); (focus (first | omega | (simp; done) | (simp; omega))); (focus (first | (simp; done) | (simp; omega) | (rw [toksC_length]; simp; omega))))); conv => whnf)
  refine ⟨_, hld _ _ (by simp; omega) rfl, ?_⟩
  conv => whnf
  repeat ((first | refine ifB_t ?_ | refine ifB_f ?_ | (refine ifB_neg (decide_eq_false (by first | omega | rfl | (dsimp only; omega))) ?_) | (refine ifB_pos (decide_eq_true (by first | omega | rfl | (dsimp only; omega))) ?_) | refine ⟨rfl, ?_⟩ | refine ⟨_, rfl, ?_⟩ | (refine ⟨⟨rfl, rfl, ?_⟩, ?_⟩; (focus (first | exact Nat.le_of_ble_eq_true rfl | (simp; done))))); conv => whnf)
  by_cases h0 : f = 0 ∨ 64 < (N : Int)
  · rw [if_pos h0]
    rcases hk with rfl | rfl
    all_goals
      conv => whnf
      repeat' (first | (refine ifB_t ?_; (conv => whnf)) | (refine ifB_f ?_; (conv => whnf)) | (refine ifB_pos (decide_eq_true (by first | omega | rfl | (dsimp only; omega))) ?_; (conv => whnf)) | (refine ⟨rfl, ?_⟩; (conv => whnf)) | (refine ⟨⟨rfl, rfl⟩, ?_⟩; (conv => whnf)) | (refine ⟨⟨rfl, rfl, ?_⟩, ?_⟩; (focus (first | exact Nat.le_of_ble_eq_true rfl | (simp; done))); (conv => whnf)) | (rfl) | (omega) | (refine ⟨_, rfl, ?_⟩; conv => whnf) | (refine ifB_dec (fun _ => ?_) (fun _ => ?_) <;> conv => whnf) | (refine And.intro ?_ ?_ <;> conv => whnf))
  rw [if_neg h0]
  obtain ⟨f, rfl⟩ : ∃ f', f = f' + 1 := ⟨f - 1, by omega⟩
  have hi := hi f rfl
  obtain ⟨mp, hmp⟩ : ∃ mp, mp = decide (k = 6) := ⟨_, rfl⟩
  obtain ⟨items, hit⟩ : ∃ items : Nat, items = if k = 6 then 2 * N else N := ⟨_, rfl⟩
  rw [← hmp, ← hit]
  have hgo := rItem_go validR l f
  have hi' : ∀ a : Nat, a ≤ l.length → ACall Tryd.prog 29 [.ro l.length (toksC l), .int .i64 a, .int .i64 (6 - ((f + 1 : Nat) : Int) + 1)] (.agg (wkC (rItem validR l f a))) [] := by
    intro a h
    have := hi a (by omega)
    rwa [show (6 : Int) - (f : Int) = 6 - ((f + 1 : Nat) : Int) + 1 by omega] at this
  have hp4 := putL_short 4 (n := (N : Int)) (by omega)
  have hp5 := putL_short 5 (n := (N : Int)) (by omega)
  obtain ⟨R, hR⟩ : ∃ R, R = rLoop (rSub validR l (f + 1)) mp items 0 (at' + 1) (putL (k - 1) N) [] := ⟨_, rfl⟩
  rw [← hR]
  rcases hk with rfl | rfl
  · have hmp : mp = false := hmp
    subst hmp
    have hit : items = N := hit
    conv => whnf
    repeat ((first | refine ifB_t ?_ | refine ifB_f ?_ | (refine ifB_neg (decide_eq_false (by first | omega | rfl | (dsimp only; omega))) ?_) | (refine fit_i64 ⟨by first | omega | rfl | (dsimp only; omega), by first | omega | rfl | (dsimp only; omega)⟩ ?_) | refine ⟨rfl, ?_⟩ | refine ⟨_, rfl, ?_⟩); conv => whnf)
    refine ⟨_, _, refHead_ok 4 N (by omega) (by omega) (by omega), by first | rfl | simp [noRoIf, noRoL, noRoV, noRoL_bys], ?_⟩
    conv => whnf
    repeat ((first | refine ifB_f ?_ | refine ⟨rfl, ?_⟩ | refine ⟨_, rfl, ?_⟩ | (refine ⟨⟨rfl, rfl, ?_⟩, ?_⟩; (focus (first | exact Nat.le_of_ble_eq_true rfl | (simp; done))))); conv => whnf)
    refine Does.loop (fun p : Nat × Nat × List Int × List Int => mkSt [(0, .ro l.length (toksC l)), (2, .int .i64 (6 - ((f + 1 : Nat) : Int))), (6, .ptr 0 0), (7, .ptr 1 0), (8, .ptr 2 0), (9, .int .i64 items), (10, .ptr 3 0), (11, .ro p.2.2.2.length (bys p.2.2.2)), (12, .int .i64 (p.1 : Int))]
      [(0, [.int .i64 0, .nil, .bool false]), (1, [.int .i64 0, .nil, .bool true]), (2, [.int .i64 5, .int .i64 N, .ro 0 []]), (3, [.int .i64 (p.2.1 : Int), .sl 4 0 p.2.2.1.length 1 false, .bool false]), (4, bys p.2.2.1)] 5 191)
      (fun p => p.1 ≤ items ∧ p.2.1 ≤ l.length ∧ p.2.2.1.length ≤ 32768 ∧ Byt p.2.2.2 ∧ rLoop (rItem validR l f) false (items - p.1) p.1 p.2.1 p.2.2.1 p.2.2.2 = R) (fun p => items - p.1) ?_ (0, at' + 1, putL 4 N, []) ⟨Nat.zero_le _, by simp only; omega, by simp only; omega, by simp [Byt], hR.symm⟩ ?_
    · rintro ⟨i, a, bs, last⟩ ⟨p1, p2, p3, pb, p4⟩
      simp only at p1 p2 p3 pb p4
      refine wpc_sound (M := MC) (PL := PLrm) (CU := cutAt [100032]) TTok mixed _ _ _ ?_
      conv => whnf
      refine ifB_dec (fun j1 => ?_) (fun j1 => ?_)
      · have c1 : i < items := by simp only at j1; omega
        obtain ⟨m, hm⟩ : ∃ m, items - i = m + 1 := ⟨items - i - 1, by omega⟩
        rw [hm] at p4
        unfold rLoop at p4
        have hx := hi' a p2
        cases hr : rItem validR l f a with
        | none =>
          rw [hr] at p4 hx
          simp only at p4
          rw [← p4]
          conv => whnf
          repeat ((first | (refine fit_i64 ⟨by first | omega | rfl | (dsimp only; omega), by first | omega | rfl | (dsimp only; omega)⟩ ?_) | refine ⟨rfl, ?_⟩ | refine ⟨_, rfl, ?_⟩ | (refine And.intro (by first | omega | rfl | (dsimp only; omega)) ?_)); conv => whnf)
          refine ⟨_, _, hx, by first | rfl | simp [noRoIf, noRoL, noRoV, noRoL_bys], ?_⟩
          conv => whnf
          repeat ((first | refine ⟨rfl, ?_⟩ | (refine ⟨⟨rfl, rfl, ?_⟩, ?_⟩; (focus (first | exact Nat.le_of_ble_eq_true rfl | (simp; done))))); conv => whnf)
          refine wpc_sound (M := MC) (PL := PLrm) (CU := noCut) TTok mixed _ _ _ ?_
          conv => whnf
          repeat ((first | refine ifB_t ?_ | refine ⟨rfl, ?_⟩ | refine ⟨_, rfl, ?_⟩ | refine ⟨⟨rfl, rfl⟩, ?_⟩ | (refine ⟨⟨rfl, rfl, ?_⟩, ?_⟩; (focus (first | exact Nat.le_of_ble_eq_true rfl | (simp; done))))); conv => whnf)
          rfl
        | some r =>
          obtain ⟨a', x⟩ := r
          obtain ⟨g1, g2, g3⟩ := hgo _ _ _ hr
          have xl := rItem_len hlb hr
          rw [hr] at p4 hx
          simp only at p4
          simp only [wkC] at hx
          conv => whnf
          repeat ((first | (refine fit_i64 ⟨by first | omega | rfl | (dsimp only; omega), by first | omega | rfl | (dsimp only; omega)⟩ ?_) | refine ⟨rfl, ?_⟩ | refine ⟨_, rfl, ?_⟩ | (refine And.intro (by first | omega | rfl | (dsimp only; omega)) ?_)); conv => whnf)
          refine ⟨_, _, hx, by first | rfl | simp [noRoIf, noRoL, noRoV, noRoL_bys], ?_⟩
          conv => whnf
          repeat ((first | refine ⟨rfl, ?_⟩ | (refine ⟨⟨rfl, rfl, ?_⟩, ?_⟩; (focus (first | exact Nat.le_of_ble_eq_true rfl | (simp; done))))); conv => whnf)
          refine Does.freeze 5 rfl (Does.weakerTo' (env := [(0, .ro l.length (toksC l)), (2, .int .i64 (6 - ((f + 1 : Nat) : Int))), (6, .ptr 0 0), (7, .ptr 1 0), (8, .ptr 2 0), (9, .int .i64 items), (10, .ptr 3 0), (11, .ro last.length (bys last)), (12, .int .i64 (i : Int)), (13, .ptr 5 0)])
            (heap := [(0, [.int .i64 0, .nil, .bool false]), (1, [.int .i64 0, .nil, .bool true]), (2, [.int .i64 5, .int .i64 N, .ro 0 []]), (3, [.int .i64 (a : Int), .sl 4 0 bs.length 1 false, .bool false]), (4, bys bs), (5, [.int .i64 a', .ro x.length (bys x), .bool false])]) (nx := 6) (n := 191) [(0, 0), (1, 1), (2, 2), (3, 3), (4, 4), (5, 6)] rfl rfl ?_ ?_ ?_)
          · exact ⟨⟨rfl, rfl, hL⟩, ⟨rfl, rfl⟩, ⟨rfl, rfl⟩, ⟨rfl, rfl⟩, ⟨rfl, rfl⟩, ⟨rfl, rfl⟩, ⟨rfl, rfl⟩, ⟨rfl, rfl, pureL_bys _⟩, ⟨rfl, rfl⟩, ⟨rfl, rfl⟩, trivial⟩
          · exact ⟨⟨⟨rfl, rfl⟩, trivial, rfl, trivial⟩, ⟨⟨rfl, rfl⟩, trivial, rfl, trivial⟩, ⟨⟨rfl, rfl⟩, ⟨rfl, rfl⟩, ⟨rfl, rfl, rfl⟩, trivial⟩, ⟨⟨rfl, rfl⟩, ⟨rfl, rfl, rfl, rfl, id⟩, rfl, trivial⟩, lesP_bys (frzL_bys _), ⟨⟨rfl, rfl⟩, ⟨rfl, whole_bys _, pureL_bys _⟩, rfl, trivial⟩, trivial⟩
          refine wpc_sound (M := MC) (PL := PLrm) (CU := noCut) TTok mixed _ _ _ ?_
          conv => whnf
          repeat ((first | refine ifB_f ?_ | (refine fit_i64 ⟨by first | omega | rfl | (dsimp only; omega), by first | omega | rfl | (dsimp only; omega)⟩ ?_) | refine ⟨_, rfl, ?_⟩); conv => whnf)
          refine ifB_dec (fun j2 => ?_) (fun j2 => ?_)
          · rw [if_pos (by omega)] at p4
            rw [← p4]
            conv => whnf
            repeat ((first | refine ⟨rfl, ?_⟩ | refine ⟨_, rfl, ?_⟩ | refine ⟨⟨rfl, rfl⟩, ?_⟩ | (refine ⟨⟨rfl, rfl, ?_⟩, ?_⟩; (focus (first | exact Nat.le_of_ble_eq_true rfl | (simp; done))))); conv => whnf)
            rfl
          rw [if_neg (by omega)] at p4
          have xb := rItem_byt hl hr (by omega)
          rw [if_neg (by simp)] at p4
          have p5 := p4
          conv => whnf
          repeat ((first | refine ifB_f ?_ | refine ⟨_, rfl, ?_⟩); conv => whnf)
          refine ⟨by kernel_rfl, ?_⟩
          conv => whnf
          repeat' (first | (refine fit_i64 ⟨by first | omega | rfl | (dsimp only; omega), by first | omega | rfl | (dsimp only; omega)⟩ ?_; (conv => whnf)) | (refine ⟨ones_bys _, ?_⟩; (conv => whnf)) | (refine ⟨⟨rfl, rfl, ?_⟩, ?_⟩; (focus (first | exact Nat.le_of_ble_eq_true rfl | (simp; done))); (conv => whnf)) | (refine ⟨⟨rfl, rfl, ?_, ?_⟩, ?_⟩; (focus (first | (simp; done) | (simp; omega))); (focus (first | (simp [limB]; done) | (simp [limB]; omega))); (conv => whnf)) | (refine And.intro ?_ ?_; (focus (first | (simp [limB]; done) | (simp [limB]; omega))); (conv => whnf)) | (exact ⟨(i + 1, a', bs ++ x, last), ⟨by omega, g2, by simp; omega, pb, by rw [show items - (i + 1) = m by omega]; exact p5⟩, by simp only; omega, weaker_of [(0, 0), (1, 1), (2, 2), (3, 3), (4, 6)] rfl rfl ⟨⟨rfl, rfl, hL⟩, ⟨rfl, rfl⟩, ⟨rfl, rfl⟩, ⟨rfl, rfl⟩, ⟨rfl, rfl⟩, ⟨rfl, rfl⟩, ⟨rfl, rfl⟩, ⟨rfl, rfl, pureL_bys _⟩, ⟨rfl, rfl⟩, trivial⟩ ⟨⟨⟨rfl, rfl⟩, trivial, rfl, trivial⟩, ⟨⟨rfl, rfl⟩, trivial, rfl, trivial⟩, ⟨⟨rfl, rfl⟩, ⟨rfl, rfl⟩, ⟨rfl, rfl, rfl⟩, trivial⟩, ⟨⟨rfl, rfl⟩, ⟨rfl, by simp, by simp, rfl, id⟩, rfl, trivial⟩, lesP_bys (by rw [bys_append]), trivial⟩⟩) | (refine ⟨_, rfl, ?_⟩; conv => whnf) | (refine And.intro ?_ ?_ <;> conv => whnf))
      · have : items - i = 0 := by simp only at j1; omega
        rw [this] at p4
        simp only [rLoop] at p4
        rw [← p4]
        conv => whnf
        repeat ((first | refine ⟨rfl, ?_⟩ | refine ⟨_, rfl, ?_⟩ | refine ⟨⟨rfl, rfl⟩, ?_⟩ | (refine ⟨⟨rfl, rfl, rfl, ?_, pureL_bys _⟩, ?_⟩; (focus (simp; done))) | (refine ⟨⟨rfl, rfl, ?_⟩, ?_⟩; (focus (first | exact Nat.le_of_ble_eq_true rfl | (simp; done))))); conv => whnf)
        rfl
    · refine weaker_of [(0, 0), (1, 1), (2, 2), (3, 4), (4, 3)] rfl rfl ⟨⟨rfl, rfl, hL⟩, ⟨rfl, rfl⟩, ⟨rfl, rfl⟩, ⟨rfl, rfl⟩, ⟨rfl, rfl⟩, ⟨rfl, by omega⟩, ⟨rfl, rfl⟩, ⟨rfl, rfl⟩, ⟨rfl, rfl⟩, trivial⟩ ⟨⟨⟨rfl, rfl⟩, trivial, rfl, trivial⟩, ⟨⟨rfl, rfl⟩, trivial, rfl, trivial⟩, ⟨⟨rfl, rfl⟩, ⟨rfl, rfl⟩, ⟨rfl, rfl, rfl⟩, trivial⟩, ⟨⟨rfl, rfl⟩, ⟨rfl, rfl, rfl, rfl, id⟩, rfl, trivial⟩, lesP_bys rfl, trivial⟩
  · have hmp : mp = true := hmp
    subst hmp
    have hit : items = 2 * N := hit
    conv => whnf
    repeat ((first | refine ifB_t ?_ | refine ifB_f ?_ | (refine ifB_neg (decide_eq_false (by first | omega | rfl | (dsimp only; omega))) ?_) | (refine fit_i64 ⟨by first | omega | rfl | (dsimp only; omega), by first | omega | rfl | (dsimp only; omega)⟩ ?_) | refine ⟨rfl, ?_⟩ | refine ⟨_, rfl, ?_⟩); conv => whnf)
    refine ⟨_, _, refHead_ok 4 N (by omega) (by omega) (by omega), by first | rfl | simp [noRoIf, noRoL, noRoV, noRoL_bys], ?_⟩
    conv => whnf
    repeat ((first | refine ifB_t ?_ | (refine fit_i64 ⟨by first | omega | rfl | (dsimp only; omega), by first | omega | rfl | (dsimp only; omega)⟩ ?_) | refine ⟨rfl, ?_⟩ | refine ⟨_, rfl, ?_⟩ | (refine ⟨⟨rfl, rfl, ?_⟩, ?_⟩; (focus (first | exact Nat.le_of_ble_eq_true rfl | (simp; done))))); conv => whnf)
    refine ⟨_, _, refHead_ok 5 N (by omega) (by omega) (by omega), by first | rfl | simp [noRoIf, noRoL, noRoV, noRoL_bys], ?_⟩
    conv => whnf
    repeat ((refine ⟨⟨rfl, rfl, ?_⟩, ?_⟩; (focus (first | exact Nat.le_of_ble_eq_true rfl | (simp; done)))); conv => whnf)
    refine Does.loop (fun p : Nat × Nat × List Int × List Int => mkSt [(0, .ro l.length (toksC l)), (2, .int .i64 (6 - ((f + 1 : Nat) : Int))), (6, .ptr 0 0), (7, .ptr 1 0), (8, .ptr 2 0), (9, .int .i64 items), (10, .ptr 3 0), (11, .ro p.2.2.2.length (bys p.2.2.2)), (12, .int .i64 (p.1 : Int))]
      [(0, [.int .i64 0, .nil, .bool false]), (1, [.int .i64 0, .nil, .bool true]), (2, [.int .i64 6, .int .i64 N, .ro 0 []]), (3, [.int .i64 (p.2.1 : Int), .sl 4 0 p.2.2.1.length 1 false, .bool false]), (4, bys p.2.2.1)] 5 191)
      (fun p => p.1 ≤ items ∧ p.2.1 ≤ l.length ∧ p.2.2.1.length ≤ 32768 ∧ Byt p.2.2.2 ∧ rLoop (rItem validR l f) true (items - p.1) p.1 p.2.1 p.2.2.1 p.2.2.2 = R) (fun p => items - p.1) ?_ (0, at' + 1, putL 5 N, []) ⟨Nat.zero_le _, by simp only; omega, by simp only; omega, by simp [Byt], hR.symm⟩ ?_
    · rintro ⟨i, a, bs, last⟩ ⟨p1, p2, p3, pb, p4⟩
      simp only at p1 p2 p3 pb p4
      refine wpc_sound (M := MC) (PL := PLrm) (CU := cutAt [100032]) TTok mixed _ _ _ ?_
      conv => whnf
      refine ifB_dec (fun j1 => ?_) (fun j1 => ?_)
      · have c1 : i < items := by simp only at j1; omega
        obtain ⟨m, hm⟩ : ∃ m, items - i = m + 1 := ⟨items - i - 1, by omega⟩
        rw [hm] at p4
        unfold rLoop at p4
        have hx := hi' a p2
        cases hr : rItem validR l f a with
        | none =>
          rw [hr] at p4 hx
          simp only at p4
          rw [← p4]
          conv => whnf
          repeat ((first | (refine fit_i64 ⟨by first | omega | rfl | (dsimp only; omega), by first | omega | rfl | (dsimp only; omega)⟩ ?_) | refine ⟨rfl, ?_⟩ | refine ⟨_, rfl, ?_⟩ | (refine And.intro (by first | omega | rfl | (dsimp only; omega)) ?_)); conv => whnf)
          refine ⟨_, _, hx, by first | rfl | simp [noRoIf, noRoL, noRoV, noRoL_bys], ?_⟩
          conv => whnf
          repeat ((first | refine ⟨rfl, ?_⟩ | (refine ⟨⟨rfl, rfl, ?_⟩, ?_⟩; (focus (first | exact Nat.le_of_ble_eq_true rfl | (simp; done))))); conv => whnf)
          refine wpc_sound (M := MC) (PL := PLrm) (CU := noCut) TTok mixed _ _ _ ?_
          conv => whnf
          repeat ((first | refine ifB_t ?_ | refine ⟨rfl, ?_⟩ | refine ⟨_, rfl, ?_⟩ | refine ⟨⟨rfl, rfl⟩, ?_⟩ | (refine ⟨⟨rfl, rfl, ?_⟩, ?_⟩; (focus (first | exact Nat.le_of_ble_eq_true rfl | (simp; done))))); conv => whnf)
          rfl
        | some r =>
          obtain ⟨a', x⟩ := r
          obtain ⟨g1, g2, g3⟩ := hgo _ _ _ hr
          have xl := rItem_len hlb hr
          rw [hr] at p4 hx
          simp only at p4
          simp only [wkC] at hx
          conv => whnf
          repeat ((first | (refine fit_i64 ⟨by first | omega | rfl | (dsimp only; omega), by first | omega | rfl | (dsimp only; omega)⟩ ?_) | refine ⟨rfl, ?_⟩ | refine ⟨_, rfl, ?_⟩ | (refine And.intro (by first | omega | rfl | (dsimp only; omega)) ?_)); conv => whnf)
          refine ⟨_, _, hx, by first | rfl | simp [noRoIf, noRoL, noRoV, noRoL_bys], ?_⟩
          conv => whnf
          repeat ((first | refine ⟨rfl, ?_⟩ | (refine ⟨⟨rfl, rfl, ?_⟩, ?_⟩; (focus (first | exact Nat.le_of_ble_eq_true rfl | (simp; done))))); conv => whnf)
          refine Does.freeze 5 rfl (Does.weakerTo' (env := [(0, .ro l.length (toksC l)), (2, .int .i64 (6 - ((f + 1 : Nat) : Int))), (6, .ptr 0 0), (7, .ptr 1 0), (8, .ptr 2 0), (9, .int .i64 items), (10, .ptr 3 0), (11, .ro last.length (bys last)), (12, .int .i64 (i : Int)), (13, .ptr 5 0)])
            (heap := [(0, [.int .i64 0, .nil, .bool false]), (1, [.int .i64 0, .nil, .bool true]), (2, [.int .i64 6, .int .i64 N, .ro 0 []]), (3, [.int .i64 (a : Int), .sl 4 0 bs.length 1 false, .bool false]), (4, bys bs), (5, [.int .i64 a', .ro x.length (bys x), .bool false])]) (nx := 6) (n := 191) [(0, 0), (1, 1), (2, 2), (3, 3), (4, 4), (5, 6)] rfl rfl ?_ ?_ ?_)
          · exact ⟨⟨rfl, rfl, hL⟩, ⟨rfl, rfl⟩, ⟨rfl, rfl⟩, ⟨rfl, rfl⟩, ⟨rfl, rfl⟩, ⟨rfl, rfl⟩, ⟨rfl, rfl⟩, ⟨rfl, rfl, pureL_bys _⟩, ⟨rfl, rfl⟩, ⟨rfl, rfl⟩, trivial⟩
          · exact ⟨⟨⟨rfl, rfl⟩, trivial, rfl, trivial⟩, ⟨⟨rfl, rfl⟩, trivial, rfl, trivial⟩, ⟨⟨rfl, rfl⟩, ⟨rfl, rfl⟩, ⟨rfl, rfl, rfl⟩, trivial⟩, ⟨⟨rfl, rfl⟩, ⟨rfl, rfl, rfl, rfl, id⟩, rfl, trivial⟩, lesP_bys (frzL_bys _), ⟨⟨rfl, rfl⟩, ⟨rfl, whole_bys _, pureL_bys _⟩, rfl, trivial⟩, trivial⟩
          refine wpc_sound (M := MC) (PL := PLrm) (CU := noCut) TTok mixed _ _ _ ?_
          conv => whnf
          repeat ((first | refine ifB_f ?_ | (refine fit_i64 ⟨by first | omega | rfl | (dsimp only; omega), by first | omega | rfl | (dsimp only; omega)⟩ ?_) | refine ⟨_, rfl, ?_⟩); conv => whnf)
          refine ifB_dec (fun j2 => ?_) (fun j2 => ?_)
          · rw [if_pos (by omega)] at p4
            rw [← p4]
            conv => whnf
            repeat ((first | refine ⟨rfl, ?_⟩ | refine ⟨_, rfl, ?_⟩ | refine ⟨⟨rfl, rfl⟩, ?_⟩ | (refine ⟨⟨rfl, rfl, ?_⟩, ?_⟩; (focus (first | exact Nat.le_of_ble_eq_true rfl | (simp; done))))); conv => whnf)
            rfl
          rw [if_neg (by omega)] at p4
          have xb := rItem_byt hl hr (by omega)
          have tm : (i : Int).tmod 2 = (i : Int) % 2 := Int.tmod_eq_emod_of_nonneg (by omega)
          conv => whnf
          repeat ((first | refine ifB_t ?_ | refine ⟨_, rfl, ?_⟩ | (refine And.intro (by first | omega | rfl | (dsimp only; omega)) ?_)); conv => whnf)
          rw [tm]
          refine ifB_dec (fun j3 => ?_) (fun j3 => ?_)
          · rw [if_pos ⟨trivial, by omega⟩] at p4
            conv => whnf
            refine ifB_dec (fun j4 => ?_) (fun j4 => ?_)
            · conv => whnf
              repeat ((first | refine ifB_t ?_ | refine ⟨_, rfl, ?_⟩ | (refine And.intro ?_ ?_; (focus (first | (simp [limB]; done) | (simp [limB]; omega))))); conv => whnf)
              refine ⟨x, ⟨rfl, xb⟩, ?_⟩
              conv => whnf
              repeat ((first | refine ifB_t ?_ | (refine And.intro ?_ ?_; (focus (first | (simp [limB]; done) | (simp [limB]; omega))))); conv => whnf)
              refine ⟨last, ⟨rfl, pb⟩, ?_⟩
              conv => whnf
              repeat ((refine ifB_t ?_); conv => whnf)
              refine ifB_bool (fun hc => ?_) (fun hc => ?_)
              · rw [if_pos ⟨by omega, hc⟩] at p4
                rw [← p4]
                conv => whnf
                repeat ((first | refine ⟨rfl, ?_⟩ | refine ⟨_, rfl, ?_⟩ | refine ⟨⟨rfl, rfl⟩, ?_⟩ | (refine ⟨⟨rfl, rfl, ?_⟩, ?_⟩; (focus (first | exact Nat.le_of_ble_eq_true rfl | (simp; done))))); conv => whnf)
                rfl
              · rw [if_neg (fun h => by rw [hc] at h; simp at h)] at p4
                have p5 := p4
                conv => whnf
                repeat ((refine ⟨_, rfl, ?_⟩); conv => whnf)
                refine ⟨by kernel_rfl, ?_⟩
                conv => whnf
                repeat' (first | (refine fit_i64 ⟨by first | omega | rfl | (dsimp only; omega), by first | omega | rfl | (dsimp only; omega)⟩ ?_; (conv => whnf)) | (refine ⟨ones_bys _, ?_⟩; (conv => whnf)) | (refine ⟨⟨rfl, rfl, ?_⟩, ?_⟩; (focus (first | exact Nat.le_of_ble_eq_true rfl | (simp; done))); (conv => whnf)) | (refine ⟨⟨rfl, rfl, ?_, ?_⟩, ?_⟩; (focus (first | (simp; done) | (simp; omega))); (focus (first | (simp [limB]; done) | (simp [limB]; omega))); (conv => whnf)) | (refine And.intro ?_ ?_; (focus (first | (simp [limB]; done) | (simp [limB]; omega))); (conv => whnf)) | (exact ⟨(i + 1, a', bs ++ x, x), ⟨by omega, g2, by simp; omega, xb, by rw [show items - (i + 1) = m by omega]; exact p5⟩, by simp only; omega, weaker_of [(0, 0), (1, 1), (2, 2), (3, 3), (4, 6)] rfl rfl ⟨⟨rfl, rfl, hL⟩, ⟨rfl, rfl⟩, ⟨rfl, rfl⟩, ⟨rfl, rfl⟩, ⟨rfl, rfl⟩, ⟨rfl, rfl⟩, ⟨rfl, rfl⟩, ⟨rfl, rfl, pureL_bys _⟩, ⟨rfl, rfl⟩, trivial⟩ ⟨⟨⟨rfl, rfl⟩, trivial, rfl, trivial⟩, ⟨⟨rfl, rfl⟩, trivial, rfl, trivial⟩, ⟨⟨rfl, rfl⟩, ⟨rfl, rfl⟩, ⟨rfl, rfl, rfl⟩, trivial⟩, ⟨⟨rfl, rfl⟩, ⟨rfl, by simp, by simp, rfl, id⟩, rfl, trivial⟩, lesP_bys (by rw [bys_append]), trivial⟩⟩) | (refine ⟨_, rfl, ?_⟩; conv => whnf) | (refine And.intro ?_ ?_ <;> conv => whnf))
            · rw [if_neg (by omega)] at p4
              have p5 := p4
              conv => whnf
              repeat ((first | refine ifB_f ?_ | refine ⟨_, rfl, ?_⟩); conv => whnf)
              refine ⟨by kernel_rfl, ?_⟩
              conv => whnf
              repeat' (first | (refine fit_i64 ⟨by first | omega | rfl | (dsimp only; omega), by first | omega | rfl | (dsimp only; omega)⟩ ?_; (conv => whnf)) | (refine ⟨ones_bys _, ?_⟩; (conv => whnf)) | (refine ⟨⟨rfl, rfl, ?_⟩, ?_⟩; (focus (first | exact Nat.le_of_ble_eq_true rfl | (simp; done))); (conv => whnf)) | (refine ⟨⟨rfl, rfl, ?_, ?_⟩, ?_⟩; (focus (first | (simp; done) | (simp; omega))); (focus (first | (simp [limB]; done) | (simp [limB]; omega))); (conv => whnf)) | (refine And.intro ?_ ?_; (focus (first | (simp [limB]; done) | (simp [limB]; omega))); (conv => whnf)) | (exact ⟨(i + 1, a', bs ++ x, x), ⟨by omega, g2, by simp; omega, xb, by rw [show items - (i + 1) = m by omega]; exact p5⟩, by simp only; omega, weaker_of [(0, 0), (1, 1), (2, 2), (3, 3), (4, 6)] rfl rfl ⟨⟨rfl, rfl, hL⟩, ⟨rfl, rfl⟩, ⟨rfl, rfl⟩, ⟨rfl, rfl⟩, ⟨rfl, rfl⟩, ⟨rfl, rfl⟩, ⟨rfl, rfl⟩, ⟨rfl, rfl, pureL_bys _⟩, ⟨rfl, rfl⟩, trivial⟩ ⟨⟨⟨rfl, rfl⟩, trivial, rfl, trivial⟩, ⟨⟨rfl, rfl⟩, trivial, rfl, trivial⟩, ⟨⟨rfl, rfl⟩, ⟨rfl, rfl⟩, ⟨rfl, rfl, rfl⟩, trivial⟩, ⟨⟨rfl, rfl⟩, ⟨rfl, by simp, by simp, rfl, id⟩, rfl, trivial⟩, lesP_bys (by rw [bys_append]), trivial⟩⟩) | (refine ⟨_, rfl, ?_⟩; conv => whnf) | (refine And.intro ?_ ?_ <;> conv => whnf))
          · rw [if_neg (by omega)] at p4
            have p5 := p4
            conv => whnf
            refine ⟨by kernel_rfl, ?_⟩
            conv => whnf
            repeat' (first | (refine fit_i64 ⟨by first | omega | rfl | (dsimp only; omega), by first | omega | rfl | (dsimp only; omega)⟩ ?_; (conv => whnf)) | (refine ⟨ones_bys _, ?_⟩; (conv => whnf)) | (refine ⟨⟨rfl, rfl, ?_⟩, ?_⟩; (focus (first | exact Nat.le_of_ble_eq_true rfl | (simp; done))); (conv => whnf)) | (refine ⟨⟨rfl, rfl, ?_, ?_⟩, ?_⟩; (focus (first | (simp; done) | (simp; omega))); (focus (first | (simp [limB]; done) | (simp [limB]; omega))); (conv => whnf)) | (refine And.intro ?_ ?_; (focus (first | (simp [limB]; done) | (simp [limB]; omega))); (conv => whnf)) | (exact ⟨(i + 1, a', bs ++ x, last), ⟨by omega, g2, by simp; omega, pb, by rw [show items - (i + 1) = m by omega]; exact p5⟩, by simp only; omega, weaker_of [(0, 0), (1, 1), (2, 2), (3, 3), (4, 6)] rfl rfl ⟨⟨rfl, rfl, hL⟩, ⟨rfl, rfl⟩, ⟨rfl, rfl⟩, ⟨rfl, rfl⟩, ⟨rfl, rfl⟩, ⟨rfl, rfl⟩, ⟨rfl, rfl⟩, ⟨rfl, rfl, pureL_bys _⟩, ⟨rfl, rfl⟩, trivial⟩ ⟨⟨⟨rfl, rfl⟩, trivial, rfl, trivial⟩, ⟨⟨rfl, rfl⟩, trivial, rfl, trivial⟩, ⟨⟨rfl, rfl⟩, ⟨rfl, rfl⟩, ⟨rfl, rfl, rfl⟩, trivial⟩, ⟨⟨rfl, rfl⟩, ⟨rfl, by simp, by simp, rfl, id⟩, rfl, trivial⟩, lesP_bys (by rw [bys_append]), trivial⟩⟩) | (refine ⟨_, rfl, ?_⟩; conv => whnf) | (refine And.intro ?_ ?_ <;> conv => whnf))
      · have : items - i = 0 := by simp only at j1; omega
        rw [this] at p4
        simp only [rLoop] at p4
        rw [← p4]
        conv => whnf
        repeat ((first | refine ⟨rfl, ?_⟩ | refine ⟨_, rfl, ?_⟩ | refine ⟨⟨rfl, rfl⟩, ?_⟩ | (refine ⟨⟨rfl, rfl, rfl, ?_, pureL_bys _⟩, ?_⟩; (focus (simp; done))) | (refine ⟨⟨rfl, rfl, ?_⟩, ?_⟩; (focus (first | exact Nat.le_of_ble_eq_true rfl | (simp; done))))); conv => whnf)
        rfl
    · refine weaker_of [(0, 0), (1, 1), (2, 2), (3, 4), (4, 5)] rfl rfl ⟨⟨rfl, rfl, hL⟩, ⟨rfl, rfl⟩, ⟨rfl, rfl⟩, ⟨rfl, rfl⟩, ⟨rfl, rfl⟩, ⟨rfl, by omega⟩, ⟨rfl, rfl⟩, ⟨rfl, rfl⟩, ⟨rfl, rfl⟩, trivial⟩ ⟨⟨⟨rfl, rfl⟩, trivial, rfl, trivial⟩, ⟨⟨rfl, rfl⟩, trivial, rfl, trivial⟩, ⟨⟨rfl, rfl⟩, ⟨rfl, rfl⟩, ⟨rfl, rfl, rfl⟩, trivial⟩, ⟨⟨rfl, rfl⟩, ⟨rfl, rfl, rfl, rfl, id⟩, rfl, trivial⟩, lesP_bys rfl, trivial⟩
end Go.Proofs.YtobjehjfdmelhaaDoor.Abs
end
section
set_option linter.unusedVariables false
set_option linter.unusedSimpArgs false
namespace Go.Proofs.YtobjehjfdmelhaaDoor.Abs
open Go
attribute [local irreducible] ifB fitP Does Weaker
theorem ritem_ok (l : List Tok) (hl : ToksOk l) (hlb : ∀ t ∈ l, t.b.length ≤ 1099511627776) (hll : l.length ≤ 1000000) : ∀ f : Nat, f ≤ 6 → RItemOk l f
  | f, hf => by
    intro at' ha
    by_cases h : at' < l.length
    · refine ritem_at l hl hlb hll at' h f hf (fun hk hb => ritem_many l hl hlb hll at' h f hf (fun f' hf' => ?_) hk hb)
      subst hf'
      exact ritem_ok l hl hlb hll f' (by omega)
    · rw [rItem_none _ _ _ _ (by omega)]
      exact ritem_none l f hll at' (by omega) _
theorem refEncode_ok (l : List Tok) (hl : ToksOk l) (hlb : ∀ t ∈ l, t.b.length ≤ 1099511627776) : ACall Tryd.prog 22 [.ro l.length (toksC l)]
    (.tuple [.own (encR validR l).1.length 1 (bys (encR validR l).1), .bool (decide ((encR validR l).2 = 0))]) [] := by
  have hL := pureL_toks l
  have no : (∀ a, encR validR l ≠ (a, 0)) → encR validR l = ([], 1) := fun h => (encR_or validR l).resolve_right (fun ⟨a, e⟩ => h a e)
  refine ACall.of_does TTok Tryd.func22 rfl Tryd.call22 rfl (wpc_sound (M := MC) (PL := PL0) (CU := noCut) TTok mixed _ _ _ ?_)
  conv => whnf
  refine ifB_dec (fun k1 => ?_) (fun k1 => ?_)
  · rw [no (fun a h => by have := (encR_iff _ _ _).1 h; omega)]
    conv => whnf
    repeat ((first | refine ⟨rfl, ?_⟩ | refine ⟨⟨rfl, rfl⟩, ?_⟩); conv => whnf)
    rfl
  have hi := ritem_ok l hl hlb (by omega) 6 (by omega) 0 (by omega)
  replace hi : ACall Tryd.prog 29 [.ro l.length (toksC l), .int .i64 0, .int .i64 0] (.agg (wkC (rItem validR l 6 0))) [] := hi
  cases hr : rItem validR l 6 0 with
  | none =>
    rw [no (fun a h => by have := (encR_iff _ _ _).1 h; rw [hr] at this; simp at this)]
    rw [hr] at hi
    conv => whnf
    repeat ((first | refine ⟨rfl, ?_⟩ | (refine And.intro (by first | omega | rfl | (dsimp only; omega)) ?_)); conv => whnf)
    refine ⟨_, _, hi, by first | rfl | simp [noRoIf, noRoL, noRoV, noRoL_bys], ?_⟩
    conv => whnf
    repeat ((first | refine ifB_t ?_ | refine ⟨rfl, ?_⟩ | refine ⟨_, rfl, ?_⟩ | refine ⟨⟨rfl, rfl⟩, ?_⟩ | (refine ⟨⟨rfl, rfl, ?_⟩, ?_⟩; (focus (first | exact Nat.le_of_ble_eq_true rfl | (simp; done))))); conv => whnf)
    rfl
  | some r =>
    obtain ⟨a, bs⟩ := r
    rw [hr] at hi
    simp only [wkC] at hi
    have hlen := rItem_len hlb hr
    conv => whnf
    repeat ((first | refine ⟨rfl, ?_⟩ | (refine And.intro (by first | omega | rfl | (dsimp only; omega)) ?_)); conv => whnf)
    refine ⟨_, _, hi, by first | rfl | simp [noRoIf, noRoL, noRoV, noRoL_bys], ?_⟩
    conv => whnf
    repeat ((first | refine ifB_f ?_ | refine ⟨rfl, ?_⟩ | refine ⟨_, rfl, ?_⟩ | (refine ⟨⟨rfl, rfl, ?_⟩, ?_⟩; (focus (first | exact Nat.le_of_ble_eq_true rfl | (simp; done))))); conv => whnf)
    refine ifB_dec (fun k2 => ?_) (fun k2 => ?_)
    · rw [no (fun a h => by have := (encR_iff _ _ _).1 h; rw [hr] at this; simp at this; omega)]
      conv => whnf
      repeat ((first | refine ifB_t ?_ | refine ⟨rfl, ?_⟩ | refine ⟨⟨rfl, rfl⟩, ?_⟩); conv => whnf)
      rfl
    conv => whnf
    repeat ((first | refine ifB_f ?_ | refine ⟨_, rfl, ?_⟩); conv => whnf)
    refine ifB_dec (fun k3 => ?_) (fun k3 => ?_)
    · rw [no (fun a h => by have := (encR_iff _ _ _).1 h; rw [hr] at this; simp at this; obtain ⟨_, ⟨_, rfl⟩, _⟩ := this; omega)]
      conv => whnf
      repeat ((first | refine ⟨rfl, ?_⟩ | refine ⟨⟨rfl, rfl⟩, ?_⟩); conv => whnf)
      rfl
    rw [(encR_iff validR l bs).2 ⟨by omega, by rw [hr, show a = l.length by omega], by omega⟩]
    conv => whnf
    repeat ((first | refine ⟨rfl, ?_⟩ | refine ⟨_, rfl, ?_⟩ | (refine ⟨⟨rfl, rfl, rfl, ?_, pureL_bys _⟩, ?_⟩; (focus (simp; done)))); conv => whnf)
    rfl
end Go.Proofs.YtobjehjfdmelhaaDoor.Abs
end
section
set_option linter.unusedVariables false
set_option linter.unusedSimpArgs false
namespace Go.Proofs.YtobjehjfdmelhaaDoor.Abs
open Go
def tMany (g : Nat → List Tok → Option (List Tok × Nat)) : Nat → Nat → List Tok → Option (List Tok × Nat)
  | 0, x, l => some (l, x)
  | n + 1, x, l => match g x l with
    | none => none
    | some (l', x') => tMany g n x' l'
/-- What a head and what stands behind it are; g: an item one deeper; z: there is no deeper one. -/
def tGo (b : List Int) (g : Nat → List Tok → Option (List Tok × Nat)) (z : Bool) (m n : Int) (x : Nat) (l : List Tok) : Option (List Tok × Nat) :=
  if m = 0 then some (l ++ [⟨1, n, []⟩], x)
  else if m = 1 then some (l ++ [⟨2, n, []⟩], x)
  else if m = 2 ∨ m = 3 then if (b.length : Int) - x < n then none else some (l ++ [⟨m + 1, 0, (b.drop x).take n.toNat⟩], x + n.toNat)
  else if m = 4 ∨ m = 5 then if 64 < n ∨ z = true then none else tMany g (n * (m - 3)).toNat x (l ++ [⟨m + 1, n, []⟩])
  else none
def tBad (b : List Int) (at' : Nat) (l : List Tok) : Prop := (getR b at').2.2.2 ≠ 0 ∨ 600 ≤ l.length
instance (b : List Int) (at' : Nat) (l : List Tok) : Decidable (tBad b at' l) := by unfold tBad; infer_instance
mutual
def tItem (b : List Int) : Nat → Nat → List Tok → Option (List Tok × Nat)
  | f, at', l => if tBad b at' l then none else tGo b (tSub b f) (decide (f = 0)) (getR b at').1 (getR b at').2.1 (getR b at').2.2.1.toNat l
  termination_by f => 2 * f + 1
def tSub (b : List Int) : Nat → Nat → List Tok → Option (List Tok × Nat)
  | 0 => fun _ _ => none
  | f + 1 => fun at' l => tItem b f at' l
  termination_by f => 2 * f
end
theorem tItem_eq (b : List Int) (f at' : Nat) (l : List Tok) : tItem b f at' l = if tBad b at' l then none else tGo b (tSub b f) (decide (f = 0)) (getR b at').1 (getR b at').2.1 (getR b at').2.2.1.toNat l := by rw [tItem]
theorem tSub_succ (b : List Int) (f : Nat) : tSub b (f + 1) = fun at' l => tItem b f at' l := by rw [tSub]
/-- A step of the reading that goes with a step of the reckoning. -/
def Reads (u : List Int → Bool) (l : List Tok) (g : Nat → Option (Nat × List Int)) (h : List Int → Nat → List Tok → Option (List Tok × Nat)) : Prop :=
  ∀ (k k' : Nat) (x p q : List Int), g k = some (k', x) → l.length ≤ 600 → h (p ++ x ++ q) p.length (l.take k) = some (l.take k', (p ++ x).length)
theorem tMany_reads {u : List Int → Bool} {l : List Tok} {g : Nat → Option (Nat × List Int)} {h : List Int → Nat → List Tok → Option (List Tok × Nat)} {mp : Bool} (H : Reads u l g h) (hl : l.length ≤ 600) :
    ∀ (n i k : Nat) (b last : List Int) (k' : Nat) (bs p q : List Int), rLoop g mp n i k b last = some (k', bs) → tMany (h (p ++ bs ++ q)) n (p ++ b).length (l.take k) = some (l.take k', (p ++ bs).length)
  | 0, i, k, b, last, k', bs, p, q, e => by
    simp only [rLoop, Option.some.injEq, Prod.mk.injEq] at e
    obtain ⟨rfl, rfl⟩ := e
    rfl
  | n + 1, i, k, b, last, k', bs, p, q, e => by
    unfold rLoop at e
    split at e
    · cases e
    rename_i a x hg
    have fin : ∀ lst, rLoop g mp n (i + 1) a (b ++ x) lst = some (k', bs) → tMany (h (p ++ bs ++ q)) (n + 1) (p ++ b).length (l.take k) = some (l.take k', (p ++ bs).length) := by
      intro lst e2
      obtain ⟨r, hr⟩ := rLoop_grow _ _ _ _ _ _ _ e2
      have h1 := H k a x (p ++ b) (r ++ q) hg hl
      rw [show p ++ b ++ x ++ (r ++ q) = p ++ bs ++ q by rw [← hr]; simp [List.append_assoc]] at h1
      rw [tMany, h1]
      simp only
      rw [show p ++ b ++ x = p ++ (b ++ x) by simp [List.append_assoc]]
      exact tMany_reads H hl n _ _ _ _ _ _ _ _ e2
    split at e
    · cases e
    split at e
    · split at e
      · cases e
      · exact fin _ e
    · exact fin _ e
theorem tItem_reads1 (u : List Int → Bool) (l : List Tok) (hto : ToksOk l) (hlb : ∀ t ∈ l, t.b.length ≤ 1099511627776) (f : Nat) (ih : ∀ f', f = f' + 1 → Reads u l (rItem u l f') (fun s => tItem s f')) : Reads u l (rItem u l f) (fun s => tItem s f) := by
    intro k k' x p q h hl
    by_cases hk : k < l.length
    case neg => rw [rItem_none _ _ _ _ (by omega)] at h; cases h
    obtain ⟨t1, t2, t3⟩ := hto _ (List.getElem_mem hk)
    have t4 := hlb _ (List.getElem_mem hk)
    rw [rItem_tok u l f k hk] at h
    simp only
    rw [tItem_eq]
    have hlt : (l.take k).length < 600 := by simp; omega
    -- the head
    have head : ∀ (M n : Int) (y : List Int), 0 ≤ M → M < 8 → 0 ≤ n → n < 9223372036854775808 → x = putL M n ++ y →
        (if tBad (p ++ x ++ q) p.length (l.take k) then none else tGo (p ++ x ++ q) (tSub (p ++ x ++ q) f) (decide (f = 0)) (getR (p ++ x ++ q) p.length).1 (getR (p ++ x ++ q) p.length).2.1 (getR (p ++ x ++ q) p.length).2.2.1.toNat (l.take k)) =
        tGo (p ++ x ++ q) (tSub (p ++ x ++ q) f) (decide (f = 0)) M n (p ++ putL M n).length (l.take k) := by
      intro M n y hM _ hn hn2 hx
      have hg := getR_put p (y ++ q) M n hM hn hn2
      rw [show p ++ putL M n ++ (y ++ q) = p ++ x ++ q by rw [hx]; simp [List.append_assoc]] at hg
      rw [if_neg (by unfold tBad; rw [hg]; simp only; omega), hg]
      simp only [Int.toNat_natCast]
    have snoc := take_tok hk
    obtain ⟨t, ht⟩ : ∃ t, t = l[k] := ⟨_, rfl⟩
    rw [← ht] at h t1 t2 t3 t4 snoc
    obtain ⟨tk, tn, tb⟩ := t
    simp only at t1 t2 t3 t4
    unfold rTok at h
    simp only at h
    split at h
    · cases h
    rename_i hbad
    simp only [rBad] at hbad
    split at h
    · rename_i k1
      simp only [Option.some.injEq, Prod.mk.injEq] at h
      obtain ⟨rfl, rfl⟩ := h
      have hb0 : tb = [] := List.length_eq_zero_iff.1 (by omega)
      rw [head 0 tn [] (by omega) (by omega) (by omega) t2.2 (by simp), tGo, if_pos rfl, snoc, k1, hb0]
    split at h
    · rename_i k1
      simp only [Option.some.injEq, Prod.mk.injEq] at h
      obtain ⟨rfl, rfl⟩ := h
      have hb0 : tb = [] := List.length_eq_zero_iff.1 (by omega)
      rw [head 1 tn [] (by omega) (by omega) (by omega) t2.2 (by simp), tGo, if_neg (by omega), if_pos rfl, snoc, k1, hb0]
    have str : ∀ M : Int, (M = 2 ∨ M = 3) → tk = M + 1 → tn = 0 → x = putL M tb.length ++ tb → k' = k + 1 → tb.length < 9223372036854775808 →
        (if tBad (p ++ x ++ q) p.length (l.take k) then none else tGo (p ++ x ++ q) (tSub (p ++ x ++ q) f) (decide (f = 0)) (getR (p ++ x ++ q) p.length).1 (getR (p ++ x ++ q) p.length).2.1 (getR (p ++ x ++ q) p.length).2.2.1.toNat (l.take k)) = some (l.take k', (p ++ x).length) := by
      intro M hM hk0 hn0 hx hk' hlt
      rw [head M tb.length tb (by omega) (by omega) (by omega) (by omega) hx, tGo, if_neg (by omega), if_neg (by omega), if_pos hM]
      rw [if_neg (by rw [hx]; simp only [List.length_append]; omega)]
      rw [hk', snoc, hk0, hn0, hx]
      have e : ((p ++ (putL M tb.length ++ tb) ++ q).drop (p ++ putL M tb.length).length).take tb.length = tb := by
        rw [show p ++ (putL M tb.length ++ tb) ++ q = (p ++ putL M tb.length) ++ (tb ++ q) by simp [List.append_assoc], List.drop_left]
        simp
      rw [Int.toNat_natCast, e]
      simp [Nat.add_assoc]
    split at h
    · rename_i k3
      simp only [Option.some.injEq, Prod.mk.injEq] at h
      obtain ⟨rfl, rfl⟩ := h
      exact str 2 (.inl rfl) (by omega) (by omega) rfl rfl (by omega)
    split at h
    · rename_i k4
      split at h
      case isFalse => cases h
      simp only [Option.some.injEq, Prod.mk.injEq] at h
      obtain ⟨rfl, rfl⟩ := h
      exact str 3 (.inr rfl) (by omega) (by omega) rfl rfl (by omega)
    split at h
    case isFalse => cases h
    rename_i k56
    split at h
    · cases h
    rename_i hz
    split at h
    · cases h
    rename_i h64
    have hb0 : tb = [] := List.length_eq_zero_iff.1 (by omega)
    subst hb0
    obtain ⟨f', hf'⟩ : ∃ f', f = f' + 1 := ⟨f - 1, by simp at hz; omega⟩
    have ih := ih f' hf'
    have es : rSub u l f = rItem u l f' := by rw [hf']; rfl
    rw [es] at h
    have arr : ∀ (M : Int) (mp : Bool) (n : Nat), (M = 4 ∨ M = 5) → tk = M + 1 → n = (tn * (M - 3)).toNat → rLoop (rItem u l f') mp n 0 (k + 1) (putL M tn) [] = some (k', x) →
        (if tBad (p ++ x ++ q) p.length (l.take k) then none else tGo (p ++ x ++ q) (tSub (p ++ x ++ q) f) (decide (f = 0)) (getR (p ++ x ++ q) p.length).1 (getR (p ++ x ++ q) p.length).2.1 (getR (p ++ x ++ q) p.length).2.2.1.toNat (l.take k)) = some (l.take k', (p ++ x).length) := by
      intro M mp n hM hk0 hn e
      obtain ⟨y, hy⟩ := rLoop_grow _ _ _ _ _ _ _ e
      rw [head M tn y (by omega) (by omega) (by omega) (by omega) hy.symm, tGo, if_neg (by omega), if_neg (by omega), if_neg (by omega), if_pos hM, if_neg (by simp; omega)]
      have := tMany_reads (p := p) (q := q) ih hl n 0 (k + 1) (putL M tn) [] k' x e
      rw [snoc, hk0, hn] at this
      rw [hf', tSub_succ]
      exact this
    split at h
    · rename_i k6
      exact arr 5 true _ (.inr rfl) (by omega) (by omega) h
    · rename_i k6
      exact arr 4 false _ (.inl rfl) (by omega) (by omega) h
theorem tItem_reads (u : List Int → Bool) (l : List Tok) (hto : ToksOk l) (hlb : ∀ t ∈ l, t.b.length ≤ 1099511627776) : ∀ f : Nat, Reads u l (rItem u l f) (fun s => tItem s f)
  | 0 => tItem_reads1 u l hto hlb 0 (fun f' h => by omega)
  | f + 1 => tItem_reads1 u l hto hlb (f + 1) (fun f' h => by obtain rfl : f = f' := by omega
                                                              exact tItem_reads u l hto hlb f)
end Go.Proofs.YtobjehjfdmelhaaDoor.Abs
end
section
set_option linter.unusedVariables false
set_option linter.unusedSimpArgs false
namespace Go.Proofs.YtobjehjfdmelhaaDoor.Abs
open Go
attribute [local irreducible] ifB fitP Does Weaker
def PLref : Nat → Bool × Plan := plans [(26, (false, .take 0 (.take 1 (.take 3 (.take 4 (.take 5 (.take 6 (.take 7 (.take 8 (.take 9 (.all [(2, .all [(10, .take 11 .done)])])))))))))))]
theorem refGet_ok (b : List Int) (hb : Byt b) (hl : b.length ≤ 1048576) (at' : Int) (ha : -9223372036854775808 ≤ at' ∧ at' < 9223372036854775808) : ACall Tryd.prog 28 [.ro b.length (bys b), .int .i64 at'] (tup4 (getR b at')) [] := by
  refine ACall.of_does TTok Tryd.func28 rfl Tryd.call28 rfl (wpc_sound (M := MH) (PL := PLref) (CU := cutAt [9, 18, 21]) TTok mixed _ _ _ ?_)
  conv => whnf
  repeat (refine ⟨rfl, ?_⟩; conv => whnf)
  refine ⟨_, _, in_ok at' 0 b.length, rfl, ?_⟩
  conv => whnf
  by_cases h1 : ¬ (0 ≤ at' ∧ at' ≤ b.length)
  · refine ifB_pos (by simp [h1]) ?_
    conv => whnf
    have e : getR b at' = (0, 0, 0, 1) := by
      have : at' < 0 ∨ (b.length : Int) < at' := by omega
      simp [getR, this]
    exact four_ok (T := TT) e
  have h1 := Classical.not_not.1 h1
  refine ifB_neg (by simp [h1]) ?_
  conv => whnf
  have hat : ∃ k : Nat, at' = k := ⟨at'.toNat, by omega⟩
  obtain ⟨k, rfl⟩ := hat
  have h2 : ¬ (b.length : Int) < k := by omega
  refine ifB_dec (fun h3 => ?_) (fun h3 => ?_)
  · conv => whnf
    have e : getR b k = (0, 0, 0, 3) := by
      have hk : ¬ k < b.length := by omega
      simp [getR, h2, hk]
    exact four_ok (T := TT) e
  have hk : k < b.length := by omega
  have hbk := hb b[k] (by simp)
  have e31 : bits .and .u8 b[k] 31 = b[k] % 32 := u8_and31 _ hbk.1 hbk.2
  have e5 : b[k] / 2 ^ min (Int.toNat 5) IntKind.u8.bits = b[k] / 32 := by
    have : (2 : Int) ^ min (Int.toNat 5) IntKind.u8.bits = 32 := by decide
    rw [this]
  conv => whnf
  refine ⟨by simp; omega, ?_⟩
  conv => whnf
  refine ⟨_, by simpa using get_bys hk, ?_⟩
  conv => whnf
  refine ⟨by omega, ?_⟩
  conv => whnf
  refine fit_i64 (by rw [e5]; omega) ?_
  conv => whnf
  refine ⟨by simp; omega, ?_⟩
  conv => whnf
  refine ⟨_, by simpa using get_bys hk, ?_⟩
  conv => whnf
  refine fit_i64 (by rw [e31]; omega) ?_
  conv => whnf
  let B : Nat := if b[k] % 32 = 24 then 1 else if b[k] % 32 = 25 then 2 else if b[k] % 32 = 26 then 4 else if b[k] % 32 = 27 then 8 else 0
  refine Does.seqCut (α := Unit) (fun _ => mkSt [(0, .ro b.length (bys b)), (1, .int .i64 k), (4, .int .i64 (b[k] / 32)), (8, .int .i64 (b[k] % 32)), (9, .int .i64 B)] [] 0 101) (fun _ => True) ?_ ?_
  · refine wpc_sound (M := MH) (PL := PLref) (CU := noCut) TTok mixed _ _ _ ?_
    conv => whnf
    have fin : ∀ (x y z : Int), x = b[k] / 32 → y = b[k] % 32 → z = B → (leP (oldOf (matL [AV.ro b.length (bys b), AV.int IntKind.i64 k] (noHeap, 0)).2.2 []) (.int .i64 (b[k] / 32)) (.int .i64 x)) := fun x y z h _ _ => ⟨rfl, h⟩
    refine ifB_dec (fun h5 => ?_) (fun h5 => ?_)
    · conv => whnf
      rw [e31] at h5
      refine ⟨(), trivial, weaker_of [] rfl rfl ?_ trivial⟩
      exact ⟨⟨rfl, rfl, pureL_bys _⟩, ⟨rfl, rfl⟩, ⟨rfl, e5⟩, ⟨rfl, e31⟩, ⟨rfl, by simp [B, h5]⟩, trivial⟩
    conv => whnf
    rw [e31] at h5
    refine ifB_dec (fun h6 => ?_) (fun h6 => ?_)
    · conv => whnf
      rw [e31] at h6
      refine ⟨(), trivial, weaker_of [] rfl rfl ?_ trivial⟩
      exact ⟨⟨rfl, rfl, pureL_bys _⟩, ⟨rfl, rfl⟩, ⟨rfl, e5⟩, ⟨rfl, e31⟩, ⟨rfl, by simp [B, h6]⟩, trivial⟩
    conv => whnf
    rw [e31] at h6
    refine ifB_dec (fun h7 => ?_) (fun h7 => ?_)
    · conv => whnf
      rw [e31] at h7
      refine ⟨(), trivial, weaker_of [] rfl rfl ?_ trivial⟩
      exact ⟨⟨rfl, rfl, pureL_bys _⟩, ⟨rfl, rfl⟩, ⟨rfl, e5⟩, ⟨rfl, e31⟩, ⟨rfl, by simp [B, h7]⟩, trivial⟩
    conv => whnf
    rw [e31] at h7
    refine ifB_dec (fun h8 => ?_) (fun h8 => ?_)
    · conv => whnf
      rw [e31] at h8
      refine ⟨(), trivial, weaker_of [] rfl rfl ?_ trivial⟩
      exact ⟨⟨rfl, rfl, pureL_bys _⟩, ⟨rfl, rfl⟩, ⟨rfl, e5⟩, ⟨rfl, e31⟩, ⟨rfl, by simp [B, h8]⟩, trivial⟩
    conv => whnf
    rw [e31] at h8
    refine ⟨(), trivial, weaker_of [] rfl rfl ?_ trivial⟩
    exact ⟨⟨rfl, rfl, pureL_bys _⟩, ⟨rfl, rfl⟩, ⟨rfl, e5⟩, ⟨rfl, e31⟩, ⟨rfl, by simp [B, h5, h6, h7, h8]⟩, trivial⟩
  rintro ⟨⟩ -
  have hB : B = moreOf b[k] ∨ 27 < b[k] % 32 := by
    simp only [B, moreOf]
    by_cases q : 27 < b[k] % 32
    · exact .inr q
    left
    by_cases q0 : 24 ≤ b[k] % 32
    · have : b[k] % 32 = 24 ∨ b[k] % 32 = 25 ∨ b[k] % 32 = 26 ∨ b[k] % 32 = 27 := by omega
      rcases this with e | e | e | e <;> simp [e]
    · have n1 : ¬ b[k] % 32 = 24 := by omega
      have n2 : ¬ b[k] % 32 = 25 := by omega
      have n3 : ¬ b[k] % 32 = 26 := by omega
      have n4 : ¬ b[k] % 32 = 27 := by omega
      simp [q0, n1, n2, n3, n4]
  have hB8 : B ≤ 8 := by
    simp only [B]
    repeat' split
    all_goals omega
  refine wpc_sound (M := MH) (PL := PLref) (CU := cutAt [18, 21]) TTok mixed _ _ _ ?_
  conv => whnf
  refine Does.seqCut (α := Unit) (fun _ => mkSt [(0, .ro b.length (bys b)), (1, .int .i64 k), (4, .int .i64 (b[k] / 32)), (8, .int .i64 (b[k] % 32)), (9, .int .i64 B)] [] 0 101)
    (fun _ => ¬ 27 < b[k] % 32 ∧ ¬ b.length < k + 1 + B ∧ ∀ h : k + 1 < b.length, B = 8 → b[k + 1] ≤ 127) ?_ ?_
  · refine wpc_sound (M := MH) (PL := PLref) (CU := noCut) TTok mixed _ _ _ ?_
    conv => whnf
    refine ifB_dec (fun h4 => ?_) (fun h4 => ?_)
    · conv => whnf
      repeat (first | (refine ifB_t ?_; conv => whnf) | (refine ifB_f ?_; conv => whnf))
      have e : getR b k = (0, 0, 0, 3) := by simp [getR, h2, hk, h4]
      exact four_ok (T := TT) e
    have hB := hB.resolve_right h4
    conv => whnf
    repeat (first | (refine ifB_t ?_; conv => whnf) | (refine ifB_f ?_; conv => whnf))
    refine fit_i64 ⟨by omega, by omega⟩ ?_
    conv => whnf
    repeat (first | (refine ifB_t ?_; conv => whnf) | (refine ifB_f ?_; conv => whnf))
    refine fit_i64 ⟨by omega, by omega⟩ ?_
    conv => whnf
    repeat (first | (refine ifB_t ?_; conv => whnf) | (refine ifB_f ?_; conv => whnf))
    refine ifB_dec (fun h6 => ?_) (fun h6 => ?_)
    · conv => whnf
      repeat (first | (refine ifB_t ?_; conv => whnf) | (refine ifB_f ?_; conv => whnf))
      have e : getR b k = (0, 0, 0, 3) := by
        have h6' : b.length < k + 1 + moreOf b[k] := by omega
        simp [getR, h2, hk, h4, h6']
      exact four_ok (T := TT) e
    conv => whnf
    repeat (first | (refine ifB_t ?_; conv => whnf) | (refine ifB_f ?_; conv => whnf))
    refine ifB_dec (fun h7 => ?_) (fun h7 => ?_)
    · have hm8 : B = 8 := by omega
      have hk1 : k + 1 < b.length := by omega
      have hb1 := hb b[k + 1] (by simp)
      conv => whnf
      repeat (first | (refine ifB_t ?_; conv => whnf) | (refine ifB_f ?_; conv => whnf))
      refine fit_i64 ⟨by omega, by omega⟩ ?_
      conv => whnf
      repeat (first | (refine ifB_t ?_; conv => whnf) | (refine ifB_f ?_; conv => whnf))
      refine ⟨by simp; omega, ?_⟩
      conv => whnf
      repeat (first | (refine ifB_t ?_; conv => whnf) | (refine ifB_f ?_; conv => whnf))
      refine ⟨_, by
        have e : ((k : Int) + 1).toNat = k + 1 := by omega
        simpa [e] using get_bys hk1, ?_⟩
      conv => whnf
      repeat (first | (refine ifB_t ?_; conv => whnf) | (refine ifB_f ?_; conv => whnf))
      refine ifB_dec (fun h8 => ?_) (fun h8 => ?_)
      · conv => whnf
        repeat (first | (refine ifB_t ?_; conv => whnf) | (refine ifB_f ?_; conv => whnf))
        have e : getR b k = (0, 0, 0, 3) := by
          have h6' : ¬ b.length < k + 1 + moreOf b[k] := by omega
          have h24 : 24 ≤ b[k] % 32 := by
            have : moreOf b[k] = 8 := by omega
            unfold moreOf at this
            split at this
            · assumption
            · omega
          obtain ⟨s, hs⟩ : ∃ s, s = (b.drop (k + 1)).take (moreOf b[k]) := ⟨_, rfl⟩
          have hsl : s.length = 8 := by rw [hs]; simp; omega
          have hsb : Byt s := fun x hx => hb x (by rw [hs] at hx; exact List.mem_of_mem_drop (List.mem_of_mem_take hx))
          have h0 : s[0] = b[k + 1] := by simp [hs]
          have := (num8 hsb hsl).2 (by omega)
          rw [hs] at this
          simp [getR, h2, hk, h4, h6', numOf, h24, this]
        exact four_ok (T := TT) e
      · conv => whnf
        repeat (first | (refine ifB_t ?_; conv => whnf) | (refine ifB_f ?_; conv => whnf))
        refine ⟨(), ⟨h4, by omega, fun _ _ => by omega⟩, weaker_of [] rfl rfl ?_ trivial⟩
        exact ⟨⟨rfl, rfl, pureL_bys _⟩, ⟨rfl, rfl⟩, ⟨rfl, rfl⟩, ⟨rfl, rfl⟩, ⟨rfl, rfl⟩, trivial⟩
    · conv => whnf
      repeat (first | (refine ifB_t ?_; conv => whnf) | (refine ifB_f ?_; conv => whnf))
      refine ⟨(), ⟨h4, by omega, fun _ _ => by omega⟩, weaker_of [] rfl rfl ?_ trivial⟩
      exact ⟨⟨rfl, rfl, pureL_bys _⟩, ⟨rfl, rfl⟩, ⟨rfl, rfl⟩, ⟨rfl, rfl⟩, ⟨rfl, rfl⟩, trivial⟩
  rintro ⟨⟩ ⟨h4, h6, h8⟩
  have hB := hB.resolve_right h4
  rw [hB] at hB8 h6 h8 ⊢
  clear_value B
  subst hB
  obtain ⟨m, hMM⟩ : ∃ m, moreOf b[k] = m := ⟨_, rfl⟩
  rw [hMM] at hB8 h6 h8 ⊢
  obtain ⟨s, hs⟩ : ∃ s, s = (b.drop (k + 1)).take m := ⟨_, rfl⟩
  have hsl : s.length = m := by rw [hs]; simp; omega
  have hsb : Byt s := fun x hx => hb x (by rw [hs] at hx; exact List.mem_of_mem_drop (List.mem_of_mem_take hx))
  have hsg : ∀ (j : Nat) (h : j < m), s[j]'(by omega) = b[k + 1 + j]'(by omega) := by
    intro j h
    subst hs
    simp
  have h24 : m ≠ 0 → 24 ≤ b[k] % 32 := by
    intro hm
    unfold moreOf at hMM
    split at hMM
    · assumption
    · exact absurd hMM.symm hm
  refine wpc_sound (M := MH) (PL := PLref) (CU := cutAt [21]) TTok mixed _ _ _ ?_
  conv => whnf
  refine Does.seqCut (α := Unit) (fun _ => mkSt [(0, .ro b.length (bys b)), (1, .int .i64 k), (4, .int .i64 (b[k] / 32)), (5, .int .i64 (numOf b[k] s)), (9, .int .i64 m)] [] 0 101) (fun _ => True) ?_ ?_
  · refine wpc_sound (M := MH) (PL := PLref) (CU := noCut) TTok mixed _ _ _ ?_
    conv => whnf
    refine ifB_dec (fun h9 => ?_) (fun h9 => ?_)
    · have hnv : ∀ t : List Int, numOf b[k] t = beVal t := fun t => by simp [numOf, h24 (by omega)]
      have e8 : (2 : Int) ^ min (Int.toNat 8) IntKind.i64.bits = 256 := by decide
      conv => whnf
      refine Does.loop (fun c : Nat => mkSt [(0, .ro b.length (bys b)), (1, .int .i64 k), (4, .int .i64 (b[k] / 32)), (5, .int .i64 (beVal (s.take c))), (9, .int .i64 m), (10, .int .i64 c)] [] 0 101)
        (fun c => c ≤ m) (fun c => m - c) ?_ 0 (Nat.zero_le _) ?_
      · intro c hc
        refine wpc_sound (M := MH) (PL := PLref) (CU := noCut) TTok mixed _ _ _ ?_
        conv => whnf
        refine ifB_dec (fun h => ?_) (fun h => ?_)
        · have hcs : c < s.length := by omega
          have hsc := hsb s[c] (by simp)
          have hv := beVal_bound (l := s.take c) (fun x hx => hsb x (List.mem_of_mem_take hx))
          rw [List.length_take, Nat.min_eq_left (by omega)] at hv
          have hvb : beVal (s.take c) < 36028797018963968 := by
            rcases Nat.lt_or_ge c 7 with h7 | h7
            · have hp6 : (256 : Int) ^ c ≤ 281474976710656 := by
                have : c = 0 ∨ c = 1 ∨ c = 2 ∨ c = 3 ∨ c = 4 ∨ c = 5 ∨ c = 6 := by omega
                rcases this with rfl | rfl | rfl | rfl | rfl | rfl | rfl <;> decide
              omega
            · have h7' : c = 7 := by omega
              subst h7'
              have hb1 := h8 (by omega) (by omega)
              refine num7 (fun x hx => hsb x (List.mem_of_mem_take hx)) (by simp; omega) ?_
              have := hsg 0 (by omega)
              simp at this ⊢
              omega
          conv => whnf
          refine ⟨by omega, ?_⟩
          conv => whnf
          refine fit_i64 (by rw [e8]; omega) ?_
          conv => whnf
          refine fit_i64 ⟨by omega, by omega⟩ ?_
          conv => whnf
          refine fit_i64 ⟨by omega, by omega⟩ ?_
          conv => whnf
          refine ⟨by simp; omega, ?_⟩
          conv => whnf
          have hkc : k + 1 + c < b.length := by omega
          refine ⟨_, by
            have e : ((k : Int) + 1 + c).toNat = k + 1 + c := by omega
            simpa [e] using get_bys hkc, ?_⟩
          have hscb : s[c] = b[k + 1 + c] := hsg c (by omega)
          rw [← hscb]
          conv => whnf
          refine fit_i64 ⟨by omega, by omega⟩ ?_
          conv => whnf
          refine fit_i64 ⟨by omega, by omega⟩ ?_
          conv => whnf
          refine ⟨c + 1, by omega, by omega, weaker_of [] rfl rfl ?_ trivial⟩
          refine ⟨⟨rfl, rfl, pureL_bys _⟩, ⟨rfl, rfl⟩, ⟨rfl, rfl⟩, ⟨rfl, ?_⟩, ⟨rfl, rfl⟩, ⟨rfl, rfl⟩, trivial⟩
          show bits .or .i64 (beVal (s.take c) * 2 ^ min (Int.toNat 8) IntKind.i64.bits) s[c] = beVal (s.take (c + 1))
          rw [e8, beVal_take hcs]
          exact bits_join .i64 63 (by decide) wrap_i64_63 8 _ _ (by omega) (by omega) (by omega) hsc.1 (by omega) (by omega)
        · conv => whnf
          have hcm : c = m := by omega
          refine ⟨(), trivial, weaker_of [] rfl rfl ?_ trivial⟩
          refine ⟨⟨rfl, rfl, pureL_bys _⟩, ⟨rfl, rfl⟩, ⟨rfl, rfl⟩, ⟨rfl, ?_⟩, ⟨rfl, rfl⟩, trivial⟩
          show beVal (s.take c) = numOf b[k] s
          rw [hnv, hcm, ← hsl, List.take_length]
      · refine weaker_of [] rfl rfl ?_ trivial
        exact ⟨⟨rfl, rfl, pureL_bys _⟩, ⟨rfl, rfl⟩, ⟨rfl, rfl⟩, ⟨rfl, rfl⟩, ⟨rfl, rfl⟩, ⟨rfl, rfl⟩, trivial⟩
    · conv => whnf
      refine ⟨(), trivial, weaker_of [] rfl rfl ?_ trivial⟩
      refine ⟨⟨rfl, rfl, pureL_bys _⟩, ⟨rfl, rfl⟩, ⟨rfl, rfl⟩, ⟨rfl, ?_⟩, ⟨rfl, rfl⟩, trivial⟩
      show b[k] % 32 = numOf b[k] s
      have hn : ¬ 24 ≤ b[k] % 32 := by
        intro hh
        have : moreOf b[k] = 0 := by omega
        simp only [moreOf, if_pos hh] at this
        have := Nat.pow_pos (n := (b[k] % 32 - 24).toNat) (show 0 < 2 by omega)
        omega
      simp [numOf, hn]
  rintro ⟨⟩ -
  have hnum : 0 ≤ numOf b[k] s ∧ numOf b[k] s ≤ 9223372036854775807 := by
    unfold numOf
    split
    · have h0 := (beVal_bound hsb).1
      rcases Nat.lt_or_ge m 8 with h7 | h7
      · have := num_small hsb (by omega)
        omega
      · have hm8 : m = 8 := by omega
        have hl8 : s.length = 8 := by omega
        have := num8 hsb hl8
        have hb1 := h8 (by omega) hm8
        have := hsg 0 (by omega)
        simp at this
        omega
    · omega
  refine wpc_sound (M := MH) (PL := PLref) (CU := noCut) TTok mixed _ _ _ ?_
  conv => whnf
  refine ⟨by kernel_rfl, ?_⟩
  conv => whnf
  refine fit_i64 ⟨by omega, by omega⟩ ?_
  conv => whnf
  refine fit_i64 ⟨by omega, by omega⟩ ?_
  conv => whnf
  refine ⟨⟨by simp, by omega, by omega, by omega⟩, ?_⟩
  conv => whnf
  repeat (refine ⟨rfl, ?_⟩; conv => whnf)
  refine ⟨_, _, refHead_ok (b[k] / 32) (numOf b[k] s) (by omega) (by omega) hnum.1, rfl, ?_⟩
  conv => whnf
  have hL : lenB (some (k : Int)) (some ((k : Int) + 1 + m)) b.length = (b[k] :: s).length := by simp [lenB, hsl]; omega
  have hC : cutB (bys b) (some (k : Int)) (some ((k : Int) + 1 + m)) 1 = bys (b[k] :: s) := by
    have e1 : ((k : Int) + 1 + m).toNat - k = m + 1 := by omega
    have e2 : b.drop k = b[k] :: b.drop (k + 1) := by simp
    have e3 : (b.drop k).take (m + 1) = b[k] :: s := by rw [e2, List.take_succ_cons, hs]
    rw [← e3, ← bys_take, ← bys_drop]
    simp [cutB, e1]
  have hc : ACall Tryd.prog 13 [.ro (putL (b[k] / 32) (numOf b[k] s)).length (bys (putL (b[k] / 32) (numOf b[k] s))), .ro (lenB (some (k : Int)) (some ((k : Int) + 1 + m)) b.length) (cutB (bys b) (some (k : Int)) (some ((k : Int) + 1 + m)) 1)]
      (.bool (decide (putL (b[k] / 32) (numOf b[k] s) = b[k] :: s))) [] := by
    rw [hL, hC]
    exact bytes_ok _ _ (by have := sizeR_le _ hnum.1; simp [putL]; omega)
  refine ⟨pureL_bys _, ?_⟩
  refine Or.inl ⟨⟨rfl, by simp⟩, ?_⟩
  conv => whnf
  refine ⟨by
    have : pureL (cutB (bys b) (some (k : Int)) (some ((k : Int) + 1 + m)) 1) = true := by rw [hC]; exact pureL_bys _
    exact this, ?_⟩
  conv => whnf
  refine ⟨rfl, _, _, hc, rfl, ?_⟩
  conv => whnf
  have hbig : ¬ 9223372036854775807 < numOf b[k] s := by omega
  by_cases heq : putL (b[k] / 32) (numOf b[k] s) = b[k] :: s
  · refine ifB_neg (by simp [heq]) ?_
    conv => whnf
    refine fit_i64 ⟨by omega, by omega⟩ ?_
    conv => whnf
    refine fit_i64 ⟨by omega, by omega⟩ ?_
    conv => whnf
    have hsz : (sizeR (numOf b[k] s)).1 = m := by
      have := congrArg List.length heq
      simp [putL, hsl] at this
      exact this
    have e : getR b k = (b[k] / 32, numOf b[k] s, (k : Int) + 1 + m, 0) := by
      rw [← hMM] at h6 hs hsz ⊢
      rw [hs] at hbig hsz ⊢
      simp [getR, h2, hk, h4, h6, hbig, hsz]
    exact four_ok (T := TT) e
  · refine ifB_pos (by simp [heq]) ?_
    conv => whnf
    have hsz : ¬ (sizeR (numOf b[k] s)).1 = m := by
      intro hh
      exact heq (putL_of hbk.1 h4 hsb (by omega) (by omega))
    have e : getR b k = (0, 0, 0, 3) := by
      rw [← hMM] at h6 hs hsz
      rw [hs] at hbig hsz
      simp [getR, h2, hk, h4, h6, hbig, hsz]
    exact four_ok (T := TT) e
end Go.Proofs.YtobjehjfdmelhaaDoor.Abs
end
section
set_option linter.unusedVariables false
set_option linter.unusedSimpArgs false
namespace Go.Proofs.YtobjehjfdmelhaaDoor.Abs
open Go
attribute [local irreducible] ifB fitP Does Weaker
def tkC (r : Option (List Tok × Nat)) : List AV := match r with
  | some (l, x) => [.own l.length 3 (toksC l), .int .i64 (x : Int), .bool true]
  | none => [.own 0 3 [], .int .i64 0, .bool false]
def TItemOk (b : List Int) (f : Nat) : Prop := ∀ (at' : Nat) (l : List Tok), at' ≤ b.length → l.length ≤ 600 →
  ACall Tryd.prog 21 [.ro b.length (bys b), .int .i64 (at' : Int), .own l.length 3 (toksC l), .int .i64 (6 - (f : Int))] (.tuple (tkC (tItem b f at' l))) []
theorem tMany_inv {b : List Int} {g : Nat → List Tok → Option (List Tok × Nat)} (H : ∀ x l l' x', x ≤ b.length → l.length ≤ 600 → g x l = some (l', x') → x' ≤ b.length ∧ l'.length ≤ 600) :
    ∀ (n x : Nat) (l l' : List Tok) (x' : Nat), x ≤ b.length → l.length ≤ 600 → tMany g n x l = some (l', x') → x' ≤ b.length ∧ l'.length ≤ 600
  | 0, x, l, l', x', h1, h2, h => by
    simp only [tMany, Option.some.injEq, Prod.mk.injEq] at h
    obtain ⟨rfl, rfl⟩ := h
    exact ⟨h1, h2⟩
  | n + 1, x, l, l', x', h1, h2, h => by
    unfold tMany at h
    split at h
    · cases h
    rename_i l1 x1 hg
    obtain ⟨q1, q2⟩ := H _ _ _ _ h1 h2 hg
    exact tMany_inv H n _ _ _ _ q1 q2 h
theorem tItem_inv (b : List Int) (hb : Byt b) : ∀ (f x : Nat) (l l' : List Tok) (x' : Nat), x ≤ b.length → l.length ≤ 600 → tItem b f x l = some (l', x') → x' ≤ b.length ∧ l'.length ≤ 600
  | f, x, l, l', x', h1, h2, h => by
    rw [tItem_eq] at h
    split at h
    · cases h
    rename_i hbad
    simp only [tBad, not_or] at hbad
    obtain ⟨M, n, X, e, _, hn, hX, _⟩ := getR_right b hb x (by omega)
    rw [e] at h
    simp only [Int.toNat_natCast] at h
    unfold tGo at h
    split at h
    · simp only [Option.some.injEq, Prod.mk.injEq] at h; obtain ⟨rfl, rfl⟩ := h; exact ⟨hX, by simp; omega⟩
    split at h
    · simp only [Option.some.injEq, Prod.mk.injEq] at h; obtain ⟨rfl, rfl⟩ := h; exact ⟨hX, by simp; omega⟩
    split at h
    · split at h
      · cases h
      · simp only [Option.some.injEq, Prod.mk.injEq] at h; obtain ⟨rfl, rfl⟩ := h; exact ⟨by omega, by simp; omega⟩
    split at h
    · split at h
      · cases h
      · cases f with
        | zero => rename_i hz; simp at hz
        | succ f =>
          rw [tSub_succ] at h
          exact tMany_inv (fun x l l' x' => tItem_inv b hb f x l l' x') _ _ _ _ _ hX (by simp; omega) h
    · cases h
set_option maxHeartbeats 4000000 in
theorem tokens_at (b : List Int) (hb : Byt b) (hbl : b.length ≤ 32768) (f : Nat) (hf : f ≤ 6) (hi : ∀ f', f = f' + 1 → TItemOk b f') : TItemOk b f := by
  intro at' l hat hl
  have hget := refGet_ok b hb (by omega) at' (by omega)
  have hL : (toksC l).length = l.length * 3 := by rw [toksC_length]; omega
  rw [tItem_eq]
  refine ACall.of_does TTok Tryd.func21 rfl Tryd.call21 rfl (wpc_sound (M := MC) (PL := PL0) (CU := cutAt [99999]) TTok mixed _ _ _ ?_)
  conv => whnf
  repeat ((first | refine ⟨pureL_bys _, ?_⟩ | refine ⟨rfl, ?_⟩); conv => whnf)
  by_cases hbad : tBad b at' l
  · rw [if_pos hbad]
    simp only [tBad] at hbad
    refine ⟨_, _, hget, by first | rfl | simp [noRoIf, noRoL, noRoV, noRoL_bys], ?_⟩
    conv => whnf
    conv => whnf
    repeat' (first | (refine ifB_t ?_; (conv => whnf)) | (refine ifB_f ?_; (conv => whnf)) | (refine ifB_pos (decide_eq_true (by first | omega | rfl | (dsimp only; omega))) ?_; (conv => whnf)) | (refine ⟨rfl, ?_⟩; (conv => whnf)) | (refine ⟨⟨rfl, rfl⟩, ?_⟩; (conv => whnf)) | (omega) | (refine wpc_sound (M := MC) (PL := PL0) (CU := noCut) TTok mixed _ _ _ ?_; conv => whnf) | (rfl) | (refine ⟨_, rfl, ?_⟩; conv => whnf) | (refine ifB_dec (fun _ => ?_) (fun _ => ?_) <;> conv => whnf) | (refine And.intro ?_ ?_ <;> conv => whnf))
  rw [if_neg hbad]
  simp only [tBad, not_or] at hbad
  obtain ⟨M, n, X, e, hM, hn, hX, _⟩ := getR_right b hb at' (by omega)
  rw [e] at hget ⊢
  simp only [tup4] at hget
  simp only [Int.toNat_natCast]
  unfold tGo
  refine ⟨_, _, hget, by first | rfl | simp [noRoIf, noRoL, noRoV, noRoL_bys], ?_⟩
  conv => whnf
  repeat ((first | refine ifB_f ?_ | (refine ifB_neg (decide_eq_false (by first | omega | rfl | (dsimp only; omega))) ?_)); conv => whnf)
  refine ifB_dec (fun m0 => ?_) (fun m0 => ?_)
  · rw [if_pos m0]
    conv => whnf
    repeat ((first | (refine Or.inl ⟨⟨rfl, ?_⟩, ?_⟩; (focus (first | rfl | (simp; done) | (rw [toksC_length]; omega)))) | refine ⟨rfl, ?_⟩ | refine ⟨⟨rfl, rfl⟩, ?_⟩ | (refine And.intro ?_ ?_; (focus (first | (simp [limB]; done) | (simp [limB]; omega))))); conv => whnf)
    refine Does.weakerTo' (env := [(8, .sl 1 0 (l.length + 1) 3 false), (9, .int .i64 (X : Nat)), (10, .bool true)]) (heap := [(1, toksC (l ++ [⟨1, n, []⟩]))]) (nx := 2) (n := 114) [(1, 2)] rfl rfl ⟨⟨rfl, rfl, rfl, rfl, id⟩, ⟨rfl, by simp⟩, rfl, trivial⟩ ⟨by (conv => whnf); exact lesP_toks_nil, trivial⟩ ?_
    refine wpc_sound (M := MC) (PL := PL0) (CU := noCut) TTok mixed _ _ _ ?_
    conv => whnf
    refine ⟨⟨by simp, rfl, rfl, by simp [toksC_length]; omega, pureL_toks _⟩, ?_⟩
    conv => whnf
    repeat ((first | refine ⟨rfl, ?_⟩ | refine ⟨⟨rfl, rfl⟩, ?_⟩); conv => whnf)
    rfl
  rw [if_neg m0]
  conv => whnf
  refine ifB_dec (fun m1 => ?_) (fun m1 => ?_)
  · rw [if_pos m1]
    conv => whnf
    repeat ((first | (refine Or.inl ⟨⟨rfl, ?_⟩, ?_⟩; (focus (first | rfl | (simp; done) | (rw [toksC_length]; omega)))) | refine ⟨rfl, ?_⟩ | refine ⟨⟨rfl, rfl⟩, ?_⟩ | (refine And.intro ?_ ?_; (focus (first | (simp [limB]; done) | (simp [limB]; omega))))); conv => whnf)
    refine Does.weakerTo' (env := [(8, .sl 1 0 (l.length + 1) 3 false), (9, .int .i64 (X : Nat)), (10, .bool true)]) (heap := [(1, toksC (l ++ [⟨2, n, []⟩]))]) (nx := 2) (n := 114) [(1, 2)] rfl rfl ⟨⟨rfl, rfl, rfl, rfl, id⟩, ⟨rfl, by simp⟩, rfl, trivial⟩ ⟨by (conv => whnf); exact lesP_toks_nil, trivial⟩ ?_
    refine wpc_sound (M := MC) (PL := PL0) (CU := noCut) TTok mixed _ _ _ ?_
    conv => whnf
    refine ⟨⟨by simp, rfl, rfl, by simp [toksC_length]; omega, pureL_toks _⟩, ?_⟩
    conv => whnf
    repeat ((first | refine ⟨rfl, ?_⟩ | refine ⟨⟨rfl, rfl⟩, ?_⟩); conv => whnf)
    rfl
  rw [if_neg m1]
  by_cases m23 : M = 2 ∨ M = 3
  · rw [if_pos m23]
    by_cases hs : (b.length : Int) - X < n
    · rw [if_pos hs]
      conv => whnf
      repeat' (first | (refine ifB_t ?_; (conv => whnf)) | (refine ifB_pos (decide_eq_true (by first | omega | rfl | (dsimp only; omega))) ?_; (conv => whnf)) | (refine fit_i64 ⟨by first | omega | rfl | (dsimp only; omega), by first | omega | rfl | (dsimp only; omega)⟩ ?_; (conv => whnf)) | (refine ⟨rfl, ?_⟩; (conv => whnf)) | (refine ⟨⟨rfl, rfl⟩, ?_⟩; (conv => whnf)) | (omega) | (refine wpc_sound (M := MC) (PL := PL0) (CU := noCut) TTok mixed _ _ _ ?_; conv => whnf) | (rfl) | (refine ⟨_, rfl, ?_⟩; conv => whnf) | (refine ifB_dec (fun _ => ?_) (fun _ => ?_) <;> conv => whnf) | (refine And.intro ?_ ?_ <;> conv => whnf))
    rw [if_neg hs]
    obtain ⟨N, rfl⟩ : ∃ N : Nat, n = N := ⟨n.toNat, by omega⟩
    rw [Int.toNat_natCast]
    have ht := twin_ok ((b.drop X).take N) (by simp; omega)
    have hcl : ((b.drop X).take N).length = N := by simp; omega
    have e1 : ((X : Int) + N).toNat - X = N := by omega
    obtain ⟨K, hK⟩ : ∃ K, K = M + 1 := ⟨_, rfl⟩
    rw [← hK]
    rcases m23 with rfl | rfl
    all_goals
      conv => whnf
      repeat ((first | refine ifB_t ?_ | refine ifB_f ?_ | (refine ifB_neg (decide_eq_false (by first | omega | rfl | (dsimp only; omega))) ?_) | (refine fit_i64 ⟨by first | omega | rfl | (dsimp only; omega), by first | omega | rfl | (dsimp only; omega)⟩ ?_) | refine ⟨pureL_cutB _ _ _ _, ?_⟩ | refine ⟨rfl, ?_⟩ | (refine ⟨⟨?_, ?_⟩, ?_⟩; (focus (simp; done)); (focus (first | (simp only [okB]; omega) | (simp [okB]; omega))))); conv => whnf)
      refine ⟨_, _, ACall.arg1 ht (by simp [lenB]; omega) (by simp [cutB, bys_drop, bys_take]; rw [e1]), by first | rfl | simp [noRoIf, noRoL, noRoV, noRoL_bys], ?_⟩
      conv => whnf
      repeat ((first | (refine fit_i64 ⟨by first | omega | rfl | (dsimp only; omega), by first | omega | rfl | (dsimp only; omega)⟩ ?_) | (refine Or.inl ⟨⟨rfl, ?_⟩, ?_⟩; (focus (first | rfl | (simp; done) | (rw [toksC_length]; omega)))) | refine ⟨rfl, ?_⟩ | refine ⟨⟨rfl, rfl⟩, ?_⟩ | (refine And.intro ?_ ?_; (focus (first | (simp [limB]; done) | (simp [limB]; omega))))); conv => whnf)
      refine Does.freeze 1 rfl (Does.weakerTo' (env := [(8, .sl 1 0 (l.length + 1) 3 false), (9, .int .i64 ((X + N : Nat) : Int)), (10, .bool true)]) (heap := [(1, toksC (l ++ [⟨K, 0, (b.drop X).take N⟩]))]) (nx := 2) (n := 114) [(1, 3)] rfl rfl ⟨⟨rfl, rfl, rfl, rfl, id⟩, ⟨rfl, by simp⟩, rfl, trivial⟩ ⟨lesP_toks ?_, trivial⟩ ?_)
      · rw [frzL_app, frzL_toks, toksC_append]
        simp only [frzL, frzV, toksC, whole_bys, show Nat.beq 1 1 = true from rfl, cond_true]
        rw [hK]
        rfl
      refine wpc_sound (M := MC) (PL := PL0) (CU := noCut) TTok mixed _ _ _ ?_
      conv => whnf
      refine ⟨⟨by simp, rfl, rfl, by simp [toksC_length]; omega, pureL_toks _⟩, ?_⟩
      conv => whnf
      repeat ((first | refine ⟨rfl, ?_⟩ | refine ⟨⟨rfl, rfl⟩, ?_⟩); conv => whnf)
      rfl
  rw [if_neg m23]
  by_cases m45 : M = 4 ∨ M = 5
  case neg =>
    rw [if_neg m45]
    conv => whnf
    repeat' (first | (refine ifB_neg (decide_eq_false (by first | omega | rfl | (dsimp only; omega))) ?_; (conv => whnf)) | (refine ⟨rfl, ?_⟩; (conv => whnf)) | (refine ⟨⟨rfl, rfl⟩, ?_⟩; (conv => whnf)) | (omega) | (refine wpc_sound (M := MC) (PL := PL0) (CU := noCut) TTok mixed _ _ _ ?_; conv => whnf) | (rfl) | (refine ⟨_, rfl, ?_⟩; conv => whnf) | (refine ifB_dec (fun _ => ?_) (fun _ => ?_) <;> conv => whnf) | (refine And.intro ?_ ?_ <;> conv => whnf))
  rw [if_pos m45]
  by_cases hz : 64 < n ∨ decide (f = 0) = true
  · rw [if_pos hz]
    simp only [decide_eq_true_eq] at hz
    conv => whnf
    repeat' (first | (refine ifB_t ?_; (conv => whnf)) | (refine ifB_f ?_; (conv => whnf)) | (refine ifB_neg (decide_eq_false (by first | omega | rfl | (dsimp only; omega))) ?_; (conv => whnf)) | (refine ifB_pos (decide_eq_true (by first | omega | rfl | (dsimp only; omega))) ?_; (conv => whnf)) | (refine ⟨rfl, ?_⟩; (conv => whnf)) | (refine ⟨⟨rfl, rfl⟩, ?_⟩; (conv => whnf)) | (omega) | (refine wpc_sound (M := MC) (PL := PL0) (CU := noCut) TTok mixed _ _ _ ?_; conv => whnf) | (rfl) | (refine ⟨_, rfl, ?_⟩; conv => whnf) | (refine ifB_dec (fun _ => ?_) (fun _ => ?_) <;> conv => whnf) | (refine And.intro ?_ ?_ <;> conv => whnf))
  rw [if_neg hz]
  simp only [decide_eq_true_eq, not_or] at hz
  obtain ⟨f, rfl⟩ : ∃ f', f = f' + 1 := ⟨f - 1, by omega⟩
  rw [tSub_succ]
  have hi := hi f rfl
  have hinv := tItem_inv b hb f
  have hi' : ∀ (x : Nat) (L : List Tok), x ≤ b.length → L.length ≤ 600 → ACall Tryd.prog 21 [.ro b.length (bys b), .int .i64 (x : Int), .own L.length 3 (toksC L), .int .i64 (6 - ((f + 1 : Nat) : Int) + 1)] (.tuple (tkC (tItem b f x L))) [] := by
    intro x L h1 h2
    have := hi x L h1 h2
    rwa [show (6 : Int) - (f : Int) = 6 - ((f + 1 : Nat) : Int) + 1 by omega] at this
  obtain ⟨items, hit⟩ : ∃ items : Nat, items = (n * (M - 3)).toNat := ⟨_, rfl⟩
  have hit2 : (items : Int) = n * (M - 3) ∧ 0 ≤ n * (M - 3) ∧ n * (M - 3) ≤ 128 := by
    rcases m45 with rfl | rfl <;> omega
  obtain ⟨R, hR⟩ : ∃ R, R = tMany (fun x l => tItem b f x l) items X (l ++ [⟨M + 1, n, []⟩]) := ⟨_, rfl⟩
  rw [← hit, ← hR]
  rcases m45 with rfl | rfl
  · conv => whnf
    repeat ((first | refine ifB_t ?_ | refine ifB_f ?_ | (refine ifB_neg (decide_eq_false (by first | omega | rfl | (dsimp only; omega))) ?_) | (refine fit_i64 ⟨by first | omega | rfl | (dsimp only; omega), by first | omega | rfl | (dsimp only; omega)⟩ ?_) | (refine Or.inl ⟨⟨rfl, ?_⟩, ?_⟩; (focus (first | rfl | (simp; done) | (rw [toksC_length]; omega)))) | refine ⟨rfl, ?_⟩ | refine ⟨⟨rfl, rfl⟩, ?_⟩ | (refine And.intro ?_ ?_; (focus (first | (simp [limB]; done) | (simp [limB]; omega))))); conv => whnf)
    refine Does.loop (fun p : Nat × Nat × List Tok => mkSt [(0, .ro b.length (bys b)), (2, .sl 1 0 p.2.2.length 3 false), (3, .int .i64 (6 - ((f + 1 : Nat) : Int))), (11, .int .i64 4), (12, .int .i64 n), (13, .int .i64 p.2.1), (15, .bool true), (16, .int .i64 p.1)]
      [(1, toksC p.2.2)] 2 114) (fun p => p.1 ≤ items ∧ p.2.1 ≤ b.length ∧ p.2.2.length ≤ 600 ∧ tMany (fun x l => tItem b f x l) (items - p.1) p.2.1 p.2.2 = R) (fun p => items - p.1) ?_ (0, X, l ++ [⟨4 + 1, n, []⟩]) ⟨Nat.zero_le _, hX, by simp; omega, hR.symm⟩ ?_
    · rintro ⟨i, x, L⟩ ⟨p1, p2, p3, p4⟩
      simp only at p1 p2 p3 p4
      have hLL : (toksC L).length = L.length * 3 := by rw [toksC_length]; omega
      refine wpc_sound (M := MC) (PL := PL0) (CU := noCut) TTok mixed _ _ _ ?_
      conv => whnf
      repeat ((refine fit_i64 ⟨by first | omega | rfl | (dsimp only; omega), by first | omega | rfl | (dsimp only; omega)⟩ ?_); conv => whnf)
      refine ifB_dec (fun j1 => ?_) (fun j1 => ?_)
      · have c1 : i < items := by simp only at j1; omega
        obtain ⟨m, hm⟩ : ∃ m, items - i = m + 1 := ⟨items - i - 1, by omega⟩
        rw [hm] at p4
        unfold tMany at p4
        have hx := hi' x L p2 p3
        cases hr : tItem b f x L with
        | none =>
          rw [hr] at p4 hx
          simp only at p4
          rw [← p4]
          conv => whnf
          repeat ((first | (refine fit_i64 ⟨by first | omega | rfl | (dsimp only; omega), by first | omega | rfl | (dsimp only; omega)⟩ ?_) | refine ⟨pureL_bys _, ?_⟩ | refine ⟨rfl, ?_⟩ | (refine ⟨⟨rfl, rfl, ?_, pureL_toks _⟩, ?_⟩; (focus (rw [toksC_length]; omega)))); conv => whnf)
          refine ⟨_, _, hx, by first | rfl | simp [noRoIf, noRoL, noRoV, noRoL_bys], ?_⟩
          conv => whnf
          repeat ((first | refine ifB_t ?_ | refine ⟨rfl, ?_⟩ | refine ⟨⟨rfl, rfl⟩, ?_⟩); conv => whnf)
          rfl
        | some r =>
          obtain ⟨L', x'⟩ := r
          obtain ⟨g1, g2⟩ := hinv _ _ _ _ p2 p3 hr
          rw [hr] at p4 hx
          simp only at p4
          simp only [tkC] at hx
          conv => whnf
          repeat ((first | (refine fit_i64 ⟨by first | omega | rfl | (dsimp only; omega), by first | omega | rfl | (dsimp only; omega)⟩ ?_) | refine ⟨pureL_bys _, ?_⟩ | refine ⟨rfl, ?_⟩ | (refine ⟨⟨rfl, rfl, ?_, pureL_toks _⟩, ?_⟩; (focus (rw [toksC_length]; omega)))); conv => whnf)
          refine ⟨_, _, hx, by first | rfl | simp [noRoIf, noRoL, noRoV, noRoL_bys], ?_⟩
          conv => whnf
          repeat ((first | refine ifB_f ?_ | (refine fit_i64 ⟨by first | omega | rfl | (dsimp only; omega), by first | omega | rfl | (dsimp only; omega)⟩ ?_)); conv => whnf)
          refine ⟨(i + 1, x', L'), ⟨by simp only; omega, g1, g2, by simp only; rw [show items - (i + 1) = m by omega]; exact p4⟩, by simp only; omega, weaker_of [(1, 2)] rfl rfl ⟨⟨rfl, rfl, pureL_bys _⟩, ⟨rfl, rfl, rfl, rfl, id⟩, ⟨rfl, rfl⟩, ⟨rfl, rfl⟩, ⟨rfl, rfl⟩, ⟨rfl, rfl⟩, rfl, ⟨rfl, rfl⟩, trivial⟩ ⟨lesP_toks rfl, trivial⟩⟩
      · have : items - i = 0 := by simp only at j1; omega
        rw [this] at p4
        simp only [tMany] at p4
        rw [← p4]
        conv => whnf
        refine wpc_sound (M := MC) (PL := PL0) (CU := noCut) TTok mixed _ _ _ ?_
        conv => whnf
        repeat ((first | refine ⟨rfl, ?_⟩ | refine ⟨⟨rfl, rfl⟩, ?_⟩ | (refine ⟨⟨rfl, rfl, rfl, ?_, pureL_toks _⟩, ?_⟩; (focus (rw [toksC_length]; omega)))); conv => whnf)
        rfl
    · exact weaker_of [(1, 2)] rfl rfl ⟨⟨rfl, rfl, pureL_bys _⟩, ⟨rfl, by simp, by simp, rfl, id⟩, ⟨rfl, rfl⟩, ⟨rfl, rfl⟩, ⟨rfl, rfl⟩, ⟨rfl, rfl⟩, rfl, ⟨rfl, rfl⟩, trivial⟩ ⟨by (conv => whnf); exact lesP_toks_nil, trivial⟩
  · conv => whnf
    repeat ((first | refine ifB_t ?_ | refine ifB_f ?_ | (refine ifB_neg (decide_eq_false (by first | omega | rfl | (dsimp only; omega))) ?_) | (refine fit_i64 ⟨by first | omega | rfl | (dsimp only; omega), by first | omega | rfl | (dsimp only; omega)⟩ ?_) | (refine Or.inl ⟨⟨rfl, ?_⟩, ?_⟩; (focus (first | rfl | (simp; done) | (rw [toksC_length]; omega)))) | refine ⟨rfl, ?_⟩ | refine ⟨⟨rfl, rfl⟩, ?_⟩ | (refine And.intro ?_ ?_; (focus (first | (simp [limB]; done) | (simp [limB]; omega))))); conv => whnf)
    refine Does.loop (fun p : Nat × Nat × List Tok => mkSt [(0, .ro b.length (bys b)), (2, .sl 1 0 p.2.2.length 3 false), (3, .int .i64 (6 - ((f + 1 : Nat) : Int))), (11, .int .i64 5), (12, .int .i64 n), (13, .int .i64 p.2.1), (15, .bool true), (16, .int .i64 p.1)]
      [(1, toksC p.2.2)] 2 114) (fun p => p.1 ≤ items ∧ p.2.1 ≤ b.length ∧ p.2.2.length ≤ 600 ∧ tMany (fun x l => tItem b f x l) (items - p.1) p.2.1 p.2.2 = R) (fun p => items - p.1) ?_ (0, X, l ++ [⟨5 + 1, n, []⟩]) ⟨Nat.zero_le _, hX, by simp; omega, hR.symm⟩ ?_
    · rintro ⟨i, x, L⟩ ⟨p1, p2, p3, p4⟩
      simp only at p1 p2 p3 p4
      have hLL : (toksC L).length = L.length * 3 := by rw [toksC_length]; omega
      refine wpc_sound (M := MC) (PL := PL0) (CU := noCut) TTok mixed _ _ _ ?_
      conv => whnf
      repeat ((refine fit_i64 ⟨by first | omega | rfl | (dsimp only; omega), by first | omega | rfl | (dsimp only; omega)⟩ ?_); conv => whnf)
      refine ifB_dec (fun j1 => ?_) (fun j1 => ?_)
      · have c1 : i < items := by simp only at j1; omega
        obtain ⟨m, hm⟩ : ∃ m, items - i = m + 1 := ⟨items - i - 1, by omega⟩
        rw [hm] at p4
        unfold tMany at p4
        have hx := hi' x L p2 p3
        cases hr : tItem b f x L with
        | none =>
          rw [hr] at p4 hx
          simp only at p4
          rw [← p4]
          conv => whnf
          repeat ((first | (refine fit_i64 ⟨by first | omega | rfl | (dsimp only; omega), by first | omega | rfl | (dsimp only; omega)⟩ ?_) | refine ⟨pureL_bys _, ?_⟩ | refine ⟨rfl, ?_⟩ | (refine ⟨⟨rfl, rfl, ?_, pureL_toks _⟩, ?_⟩; (focus (rw [toksC_length]; omega)))); conv => whnf)
          refine ⟨_, _, hx, by first | rfl | simp [noRoIf, noRoL, noRoV, noRoL_bys], ?_⟩
          conv => whnf
          repeat ((first | refine ifB_t ?_ | refine ⟨rfl, ?_⟩ | refine ⟨⟨rfl, rfl⟩, ?_⟩); conv => whnf)
          rfl
        | some r =>
          obtain ⟨L', x'⟩ := r
          obtain ⟨g1, g2⟩ := hinv _ _ _ _ p2 p3 hr
          rw [hr] at p4 hx
          simp only at p4
          simp only [tkC] at hx
          conv => whnf
          repeat ((first | (refine fit_i64 ⟨by first | omega | rfl | (dsimp only; omega), by first | omega | rfl | (dsimp only; omega)⟩ ?_) | refine ⟨pureL_bys _, ?_⟩ | refine ⟨rfl, ?_⟩ | (refine ⟨⟨rfl, rfl, ?_, pureL_toks _⟩, ?_⟩; (focus (rw [toksC_length]; omega)))); conv => whnf)
          refine ⟨_, _, hx, by first | rfl | simp [noRoIf, noRoL, noRoV, noRoL_bys], ?_⟩
          conv => whnf
          repeat ((first | refine ifB_f ?_ | (refine fit_i64 ⟨by first | omega | rfl | (dsimp only; omega), by first | omega | rfl | (dsimp only; omega)⟩ ?_)); conv => whnf)
          refine ⟨(i + 1, x', L'), ⟨by simp only; omega, g1, g2, by simp only; rw [show items - (i + 1) = m by omega]; exact p4⟩, by simp only; omega, weaker_of [(1, 2)] rfl rfl ⟨⟨rfl, rfl, pureL_bys _⟩, ⟨rfl, rfl, rfl, rfl, id⟩, ⟨rfl, rfl⟩, ⟨rfl, rfl⟩, ⟨rfl, rfl⟩, ⟨rfl, rfl⟩, rfl, ⟨rfl, rfl⟩, trivial⟩ ⟨lesP_toks rfl, trivial⟩⟩
      · have : items - i = 0 := by simp only at j1; omega
        rw [this] at p4
        simp only [tMany] at p4
        rw [← p4]
        conv => whnf
        refine wpc_sound (M := MC) (PL := PL0) (CU := noCut) TTok mixed _ _ _ ?_
        conv => whnf
        repeat ((first | refine ⟨rfl, ?_⟩ | refine ⟨⟨rfl, rfl⟩, ?_⟩ | (refine ⟨⟨rfl, rfl, rfl, ?_, pureL_toks _⟩, ?_⟩; (focus (rw [toksC_length]; omega)))); conv => whnf)
        rfl
    · exact weaker_of [(1, 2)] rfl rfl ⟨⟨rfl, rfl, pureL_bys _⟩, ⟨rfl, by simp, by simp, rfl, id⟩, ⟨rfl, rfl⟩, ⟨rfl, rfl⟩, ⟨rfl, rfl⟩, ⟨rfl, rfl⟩, rfl, ⟨rfl, rfl⟩, trivial⟩ ⟨by (conv => whnf); exact lesP_toks_nil, trivial⟩
theorem tokens_ok (b : List Int) (hb : Byt b) (hbl : b.length ≤ 32768) : ∀ f : Nat, f ≤ 6 → TItemOk b f
  | 0, hf => tokens_at b hb hbl 0 hf (fun f' h => by omega)
  | f + 1, hf => tokens_at b hb hbl (f + 1) hf (fun f' h => by obtain rfl : f = f' := by omega
                                                               exact tokens_ok b hb hbl f (by omega))
theorem tMany_toks {b : List Int} {g : Nat → List Tok → Option (List Tok × Nat)} (H : ∀ x l l' x', (ToksOk l ∧ ∀ t ∈ l, t.b.length ≤ b.length) → g x l = some (l', x') → ToksOk l' ∧ ∀ t ∈ l', t.b.length ≤ b.length) :
    ∀ (n x : Nat) (l l' : List Tok) (x' : Nat), (ToksOk l ∧ ∀ t ∈ l, t.b.length ≤ b.length) → tMany g n x l = some (l', x') → ToksOk l' ∧ ∀ t ∈ l', t.b.length ≤ b.length
  | 0, x, l, l', x', h1, h => by
    simp only [tMany, Option.some.injEq, Prod.mk.injEq] at h
    obtain ⟨rfl, rfl⟩ := h
    exact h1
  | n + 1, x, l, l', x', h1, h => by
    unfold tMany at h
    split at h
    · cases h
    exact tMany_toks H n _ _ _ _ (H _ _ _ _ h1 (by assumption)) h
theorem tItem_toks (b : List Int) (hb : Byt b) : ∀ (f x : Nat) (l l' : List Tok) (x' : Nat), (ToksOk l ∧ ∀ t ∈ l, t.b.length ≤ b.length) → tItem b f x l = some (l', x') → ToksOk l' ∧ ∀ t ∈ l', t.b.length ≤ b.length
  | f, x, l, l', x', h1, h => by
    have snoc : ∀ t : Tok, TokOk t → t.b.length ≤ b.length → ToksOk (l ++ [t]) ∧ ∀ s ∈ l ++ [t], s.b.length ≤ b.length := fun t ht htb => pok_snoc (x := 0) (bd := false) h1 ht htb
    rw [tItem_eq] at h
    split at h
    · cases h
    rename_i hbad
    simp only [tBad, not_or] at hbad
    obtain ⟨M, n, X, e, hM, hn, hX, _⟩ := getR_right b hb x (by omega)
    rw [e] at h
    simp only [Int.toNat_natCast] at h
    unfold tGo at h
    split at h
    · simp only [Option.some.injEq, Prod.mk.injEq] at h; obtain ⟨rfl, rfl⟩ := h
      exact snoc _ ⟨by simp, ⟨by simp only; omega, by simp only; omega⟩, by simp [Byt]⟩ (by simp)
    split at h
    · simp only [Option.some.injEq, Prod.mk.injEq] at h; obtain ⟨rfl, rfl⟩ := h
      exact snoc _ ⟨by simp, ⟨by simp only; omega, by simp only; omega⟩, by simp [Byt]⟩ (by simp)
    split at h
    · split at h
      · cases h
      · simp only [Option.some.injEq, Prod.mk.injEq] at h; obtain ⟨rfl, rfl⟩ := h
        exact snoc _ ⟨⟨by simp only; omega, by simp only; omega⟩, by simp, byt_sub hb _ _⟩ (by simp; omega)
    split at h
    · split at h
      · cases h
      · cases f with
        | zero => rename_i hz; simp at hz
        | succ f =>
          rw [tSub_succ] at h
          exact tMany_toks (fun x l l' x' => tItem_toks b hb f x l l' x') _ _ _ _ _ (snoc _ ⟨⟨by simp only; omega, by simp only; omega⟩, ⟨by simp only; omega, by simp only; omega⟩, by simp [Byt]⟩ (by simp)) h
    · cases h
theorem refDecode_ok (b : List Int) (hb : Byt b) (hbl : b.length ≤ 1099511627776) : ACall Tryd.prog 11 [.ro b.length (bys b)]
    (.tuple [.own (decR validR b).1.length 3 (toksC (decR validR b).1), .bool (decide ((decR validR b).2 = 0))]) [] := by
  have no : (∀ l, ToksOk l → (∀ t ∈ l, t.b.length ≤ 1099511627776) → encR validR l ≠ (b, 0)) → decR validR b = ([], 3) := by
    intro h
    rcases decR_or validR b with e | ⟨l, e1, e2, e3⟩
    · exact e
    · refine absurd e2 (h l (decR_toks (u := validR) hb e3) ?_)
      have := pItem_toks b hb 7 ⟨0, [], false⟩ ⟨by intro t ht; simp at ht, by intro t ht; simp at ht⟩
      rw [e3] at this
      intro t ht
      have := this.2 t ht
      omega
  refine ACall.of_does TTok Tryd.func11 rfl Tryd.call11 rfl (wpc_sound (M := MC) (PL := PL0) (CU := noCut) TTok mixed _ _ _ ?_)
  conv => whnf
  refine ifB_dec (fun k1 => ?_) (fun k1 => ?_)
  · rw [no (fun l _ _ h => by have := (encR_iff _ _ _).1 h; omega)]
    conv => whnf
    repeat ((first | refine ⟨rfl, ?_⟩ | refine ⟨⟨rfl, rfl⟩, ?_⟩); conv => whnf)
    rfl
  have hx := tokens_ok b hb (by omega) 6 (by omega) 0 [] (by omega) (by simp)
  replace hx : ACall Tryd.prog 21 [.ro b.length (bys b), .int .i64 0, .own 0 3 [], .int .i64 0] (.tuple (tkC (tItem b 6 0 []))) [] := hx
  have reads : ∀ l, ToksOk l → (∀ t ∈ l, t.b.length ≤ 1099511627776) → encR validR l = (b, 0) → tItem b 6 0 [] = some (l, b.length) := by
    intro l h1 h2 h
    obtain ⟨q1, q2, q3⟩ := (encR_iff _ _ _).1 h
    have := tItem_reads validR l h1 h2 6 0 l.length b [] [] q2 q1
    simpa using this
  cases hr : tItem b 6 0 [] with
  | none =>
    rw [no (fun l h1 h2 h => by rw [reads l h1 h2 h] at hr; cases hr)]
    rw [hr] at hx
    conv => whnf
    repeat ((first | refine ⟨pureL_bys _, ?_⟩ | refine ⟨rfl, ?_⟩); conv => whnf)
    refine ⟨_, _, hx, by first | rfl | simp [noRoIf, noRoL, noRoV, noRoL_bys], ?_⟩
    conv => whnf
    repeat ((first | refine ifB_t ?_ | refine ⟨rfl, ?_⟩ | refine ⟨⟨rfl, rfl⟩, ?_⟩); conv => whnf)
    rfl
  | some r =>
    obtain ⟨l, x⟩ := r
    obtain ⟨g1, g2⟩ := tItem_inv b hb 6 0 [] l x (by omega) (by simp) hr
    obtain ⟨g3, g4⟩ := tItem_toks b hb 6 0 [] l x ⟨by intro t ht; simp at ht, by intro t ht; simp at ht⟩ hr
    have g5 : ∀ t ∈ l, t.b.length ≤ 1099511627776 := fun t ht => by have := g4 t ht; omega
    rw [hr] at hx
    simp only [tkC] at hx
    have e1 := refEncode_ok l g3 g5
    conv => whnf
    repeat ((first | refine ⟨pureL_bys _, ?_⟩ | refine ⟨rfl, ?_⟩); conv => whnf)
    refine ⟨_, _, hx, by first | rfl | simp [noRoIf, noRoL, noRoV, noRoL_bys], ?_⟩
    conv => whnf
    repeat ((refine ifB_f ?_); conv => whnf)
    refine ifB_dec (fun k2 => ?_) (fun k2 => ?_)
    · rw [no (fun l' h1 h2 h => by rw [reads l' h1 h2 h] at hr; simp only [Option.some.injEq, Prod.mk.injEq] at hr; omega)]
      conv => whnf
      repeat ((first | refine ⟨rfl, ?_⟩ | refine ⟨⟨rfl, rfl⟩, ?_⟩); conv => whnf)
      rfl
    rcases encR_or validR l with q1 | ⟨a, q1⟩
    · rw [no (fun l' h1 h2 h => by rw [reads l' h1 h2 h] at hr; simp only [Option.some.injEq, Prod.mk.injEq] at hr; rw [hr.1, q1] at h; simp at h)]
      rw [q1] at e1
      dsimp only at e1
      rw [decide_eq_false (by omega)] at e1
      conv => whnf
      repeat ((first | (refine Or.inl ⟨⟨rfl, ?_⟩, ?_⟩; (focus (first | rfl | (simp; done) | (rw [toksC_length]; omega)))) | refine ⟨rfl, ?_⟩ | (refine And.intro ?_ ?_; (focus (first | (simp only [pureL, pureV, pureL_bys, Bool.and_true, Bool.and_self]; done) | (simp only [pureL, pureV, pureL_bys, pureL_toks, Bool.and_true, Bool.and_self]; done))))); conv => whnf)
      refine ⟨_, _, e1, by first | rfl | simp [noRoIf, noRoL, noRoV, noRoL_bys], ?_⟩
      conv => whnf
      repeat ((first | refine ifB_t ?_ | refine ⟨rfl, ?_⟩ | refine ⟨⟨rfl, rfl⟩, ?_⟩); conv => whnf)
      rfl
    rw [q1] at e1
    dsimp only at e1
    rw [decide_eq_true rfl] at e1
    have n1 := encR_len q1
    have b1 := bytes_ok a b (by omega)
    by_cases hab : a = b
    · rw [decide_eq_true hab] at b1
      rw [hab] at q1
      rw [decR_enc g3 q1]
      conv => whnf
      repeat ((first | (refine Or.inl ⟨⟨rfl, ?_⟩, ?_⟩; (focus (first | rfl | (simp; done) | (rw [toksC_length]; omega)))) | refine ⟨rfl, ?_⟩ | (refine And.intro ?_ ?_; (focus (first | (simp only [pureL, pureV, pureL_bys, Bool.and_true, Bool.and_self]; done) | (simp only [pureL, pureV, pureL_bys, pureL_toks, Bool.and_true, Bool.and_self]; done))))); conv => whnf)
      refine ⟨_, _, e1, by first | rfl | simp [noRoIf, noRoL, noRoV, noRoL_bys], ?_⟩
      conv => whnf
      repeat ((first | refine ifB_f ?_ | refine ⟨pureL_bys _, ?_⟩ | (refine Or.inl ⟨⟨rfl, ?_⟩, ?_⟩; (focus (first | rfl | (simp; done) | (rw [toksC_length]; omega)))) | refine ⟨rfl, ?_⟩); conv => whnf)
      refine ⟨_, _, b1, by first | rfl | simp [noRoIf, noRoL, noRoV, noRoL_bys], ?_⟩
      conv => whnf
      repeat ((first | refine ifB_f ?_ | refine ⟨rfl, ?_⟩ | (refine ⟨⟨rfl, rfl, rfl, ?_, pureL_toks _⟩, ?_⟩; (focus (rw [toksC_length]; omega)))); conv => whnf)
      rfl
    · rw [decide_eq_false hab] at b1
      rw [no (fun l' h1 h2 h => by rw [reads l' h1 h2 h] at hr; simp only [Option.some.injEq, Prod.mk.injEq] at hr; rw [hr.1, q1] at h; simp at h; exact hab h)]
      conv => whnf
      repeat ((first | (refine Or.inl ⟨⟨rfl, ?_⟩, ?_⟩; (focus (first | rfl | (simp; done) | (rw [toksC_length]; omega)))) | refine ⟨rfl, ?_⟩ | (refine And.intro ?_ ?_; (focus (first | (simp only [pureL, pureV, pureL_bys, Bool.and_true, Bool.and_self]; done) | (simp only [pureL, pureV, pureL_bys, pureL_toks, Bool.and_true, Bool.and_self]; done))))); conv => whnf)
      refine ⟨_, _, e1, by first | rfl | simp [noRoIf, noRoL, noRoV, noRoL_bys], ?_⟩
      conv => whnf
      repeat ((first | refine ifB_f ?_ | refine ⟨pureL_bys _, ?_⟩ | (refine Or.inl ⟨⟨rfl, ?_⟩, ?_⟩; (focus (first | rfl | (simp; done) | (rw [toksC_length]; omega)))) | refine ⟨rfl, ?_⟩); conv => whnf)
      refine ⟨_, _, b1, by first | rfl | simp [noRoIf, noRoL, noRoV, noRoL_bys], ?_⟩
      conv => whnf
      repeat ((first | refine ifB_t ?_ | refine ifB_f ?_ | refine ⟨rfl, ?_⟩ | refine ⟨⟨rfl, rfl⟩, ?_⟩); conv => whnf)
      rfl
end Go.Proofs.YtobjehjfdmelhaaDoor.Abs
end
section
set_option linter.unusedVariables false
set_option linter.unusedSimpArgs false
namespace Go.Proofs.YtobjehjfdmelhaaDoor.Abs
open Go
attribute [local irreducible] ifB fitP Does Weaker
set_option maxHeartbeats 4000000 in
theorem cborReads_ok (b : List Int) (hb0 : Byt b ∧ b.length ≤ 9223372036854775807) : ACall Tryd.prog 3 [.ro b.length (bys b)] (.bool true) [] := by
  obtain ⟨hb, _⟩ := hb0
  by_cases hl : 3000 < b.length
  · refine ACall.of_does TTok Tryd.func3 rfl Tryd.call3 rfl (wpc_sound (M := MC) (PL := PL0) (CU := noCut) TTok mixed _ _ _ ?_)
    conv => whnf
    repeat ((first | (refine ifB_pos (decide_eq_true (by first | omega | rfl | (dsimp only; omega))) ?_) | refine ⟨rfl, ?_⟩); conv => whnf)
    rfl
  have t1 := twin_ok b (by omega)
  have d1 := decode_ok b hb (by omega)
  have d2 := refDecode_ok b hb (by omega)
  have b1 := bytes_ok b b (by omega)
  rw [decide_eq_true rfl] at b1
  refine ACall.of_does TTok Tryd.func3 rfl Tryd.call3 rfl (wpc_sound (M := MC) (PL := PL0) (CU := cutAt [100004]) TTok mixed _ _ _ ?_)
  conv => whnf
  repeat ((first | (refine ifB_neg (decide_eq_false (by first | omega | rfl | (dsimp only; omega))) ?_) | refine ⟨pureL_bys _, ?_⟩ | refine ⟨rfl, ?_⟩); conv => whnf)
  refine ⟨_, _, t1, by first | rfl | simp [noRoIf, noRoL, noRoV, noRoL_bys], ?_⟩
  conv => whnf
  refine Does.freeze 0 rfl (Does.weakerTo' (env := [(0, .ro b.length (bys b)), (3, .ro b.length (bys b))]) (heap := []) (nx := 1) (n := 66) [] rfl rfl
      ⟨⟨rfl, rfl, pureL_bys _⟩, ⟨rfl, whole_bys _, pureL_bys _⟩, trivial⟩ trivial (wpc_sound (M := MC) (PL := PL0) (CU := noCut) TTok mixed _ _ _ ?_))
  rcases decR_or validR b with e | ⟨l, e1, e2, e3⟩
  · rw [e] at d1 d2
    dsimp only at d1 d2
    rw [decide_eq_false (by omega)] at d2
    have k1 := toks_ok [] [] (by simp) (by simp)
    rw [decide_eq_true rfl] at k1
    conv => whnf
    repeat ((first | refine ⟨pureL_bys _, ?_⟩ | refine ⟨rfl, ?_⟩); conv => whnf)
    refine ⟨_, _, d1, by first | rfl | simp [noRoIf, noRoL, noRoV, noRoL_bys], ?_⟩
    conv => whnf
    repeat ((first | refine ⟨pureL_bys _, ?_⟩ | refine ⟨rfl, ?_⟩); conv => whnf)
    refine ⟨_, _, d2, by first | rfl | simp [noRoIf, noRoL, noRoV, noRoL_bys], ?_⟩
    conv => whnf
    repeat ((first | refine ifB_t ?_ | refine ifB_f ?_ | (refine Or.inl ⟨⟨rfl, ?_⟩, ?_⟩; (focus (first | rfl | (simp; done) | (rw [toksC_length]; omega)))) | refine ⟨rfl, ?_⟩); conv => whnf)
    refine ⟨_, _, k1, by first | rfl | simp [noRoIf, noRoL, noRoV, noRoL_bys], ?_⟩
    conv => whnf
    repeat ((first | refine ifB_f ?_ | refine ⟨pureL_bys _, ?_⟩ | refine ⟨rfl, ?_⟩); conv => whnf)
    refine ⟨_, _, b1, by first | rfl | simp [noRoIf, noRoL, noRoV, noRoL_bys], ?_⟩
    conv => whnf
    repeat ((first | refine ifB_t ?_ | refine ifB_f ?_ | refine ⟨rfl, ?_⟩); conv => whnf)
    refine ⟨_, _, wakes_ok, by first | rfl | simp [noRoIf, noRoL, noRoV, noRoL_bys], ?_⟩
    conv => whnf
    repeat ((refine ⟨rfl, ?_⟩); conv => whnf)
    rfl
  · have hlo := decR_toks (u := validR) hb e3
    have hlb : ∀ t ∈ l, t.b.length ≤ 1099511627776 := by
      have := pItem_toks b hb 7 ⟨0, [], false⟩ ⟨by intro t ht; simp at ht, by intro t ht; simp at ht⟩
      rw [e3] at this
      intro t ht
      have := this.2 t ht
      omega
    have hll := (encR_yes e2).1
    rw [e1] at d1 d2
    dsimp only at d1 d2
    rw [decide_eq_true rfl] at d2
    have k1 := toks_ok l l hlb (by omega)
    rw [decide_eq_true rfl] at k1
    have n1 := encode_ok l hlo hlb
    rw [e2] at n1
    dsimp only at n1
    conv => whnf
    repeat ((first | refine ⟨pureL_bys _, ?_⟩ | refine ⟨rfl, ?_⟩); conv => whnf)
    refine ⟨_, _, d1, by first | rfl | simp [noRoIf, noRoL, noRoV, noRoL_bys], ?_⟩
    conv => whnf
    repeat ((first | refine ⟨pureL_bys _, ?_⟩ | refine ⟨rfl, ?_⟩); conv => whnf)
    refine ⟨_, _, d2, by first | rfl | simp [noRoIf, noRoL, noRoV, noRoL_bys], ?_⟩
    conv => whnf
    repeat ((first | refine ifB_f ?_ | (refine Or.inl ⟨⟨rfl, ?_⟩, ?_⟩; (focus (first | rfl | (simp; done) | (rw [toksC_length]; omega)))) | refine ⟨rfl, ?_⟩ | (refine And.intro ?_ ?_; (focus (first | (simp only [pureL, pureV, pureL_bys, Bool.and_true, Bool.and_self]; done) | (simp only [pureL, pureV, pureL_bys, pureL_toks, Bool.and_true, Bool.and_self]; done))))); conv => whnf)
    refine ⟨_, _, k1, by first | rfl | simp [noRoIf, noRoL, noRoV, noRoL_bys], ?_⟩
    conv => whnf
    repeat ((first | refine ifB_f ?_ | refine ⟨pureL_bys _, ?_⟩ | refine ⟨rfl, ?_⟩); conv => whnf)
    refine ⟨_, _, b1, by first | rfl | simp [noRoIf, noRoL, noRoV, noRoL_bys], ?_⟩
    conv => whnf
    repeat ((first | refine ifB_f ?_ | (refine Or.inl ⟨⟨rfl, ?_⟩, ?_⟩; (focus (first | rfl | (simp; done) | (rw [toksC_length]; omega)))) | refine ⟨rfl, ?_⟩ | (refine And.intro ?_ ?_; (focus (first | (simp only [pureL, pureV, pureL_bys, Bool.and_true, Bool.and_self]; done) | (simp only [pureL, pureV, pureL_bys, pureL_toks, Bool.and_true, Bool.and_self]; done))))); conv => whnf)
    refine ⟨_, _, n1, by first | rfl | simp [noRoIf, noRoL, noRoV, noRoL_bys], ?_⟩
    conv => whnf
    repeat ((first | refine ifB_t ?_ | refine ⟨pureL_bys _, ?_⟩ | (refine Or.inl ⟨⟨rfl, ?_⟩, ?_⟩; (focus (first | rfl | (simp; done) | (rw [toksC_length]; omega)))) | refine ⟨rfl, ?_⟩); conv => whnf)
    refine ⟨_, _, b1, by first | rfl | simp [noRoIf, noRoL, noRoV, noRoL_bys], ?_⟩
    conv => whnf
    repeat ((first | refine ifB_t ?_ | refine ⟨rfl, ?_⟩); conv => whnf)
    refine ⟨_, _, wakes_ok, by first | rfl | simp [noRoIf, noRoL, noRoV, noRoL_bys], ?_⟩
    conv => whnf
    repeat ((first | refine ifB_t ?_ | refine ⟨rfl, ?_⟩); conv => whnf)
    rfl
end Go.Proofs.YtobjehjfdmelhaaDoor.Abs
end
section
set_option linter.unusedVariables false
namespace Go.Proofs.YtobjehjfdmelhaaDoor.Abs
open Go Go.Shelf Go.Lib
theorem first_eq : ∀ c : Fin 256, firstT c.val = utf8First.getD c.val 0 := by decide +kernel
theorem acc_eq : ∀ i : Fin 16, accLo i.val = utf8Ranges.getD (2 * i.val) 0 ∧ accHi i.val = utf8Ranges.getD (2 * i.val + 1) 0 := by decide +kernel
theorem tabOk_of {W : World} (h : Lib.Utf8Tabs 0 1 W) : TabOk (env0 W) := by
  obtain ⟨h1, h2⟩ := h
  have l1 : utf8First.length = 256 := by decide +kernel
  have l2 : utf8Ranges.length = 32 := by decide +kernel
  have s0 : 0 < W.heap.size := World.block_lt_of_cell? _ _ (h1 0 (by omega))
  have s1 : 1 < W.heap.size := World.block_lt_of_cell? _ _ (h2 0 (by omega)).1
  intro g k l hg
  unfold tabs at hg
  by_cases g0 : g = 0
  · subst g0
    simp only [Nat.beq_refl, cond_true, Option.some.injEq, Prod.mk.injEq] at hg
    obtain ⟨rfl, rfl⟩ := hg
    refine ⟨s0, fun hv => hv, fun j x hx => ?_⟩
    have hj : j < 256 := by rw [← l1]; exact (List.getElem?_eq_some_iff.1 hx).1
    have := h1 j hj
    have e := first_eq ⟨j, hj⟩
    simp only at e
    rw [e, List.getD_eq_getElem?_getD, hx] at this
    exact this
  · have hb : Nat.beq g 0 = false := by
      cases hh : Nat.beq g 0
      · rfl
      · exact absurd (Nat.eq_of_beq_eq_true hh) g0
    rw [hb, cond_false] at hg
    by_cases g1 : g = 1
    · subst g1
      simp only [Nat.beq_refl, cond_true, Option.some.injEq, Prod.mk.injEq] at hg
      obtain ⟨rfl, rfl⟩ := hg
      refine ⟨s1, fun hv => hv, fun j x hx => ?_⟩
      have hj : j < 32 := by rw [← l2]; exact (List.getElem?_eq_some_iff.1 hx).1
      have e := acc_eq ⟨j / 2, by omega⟩
      obtain ⟨q1, q2⟩ := h2 (j / 2) (by omega)
      simp only at e
      rw [e.1] at q1
      rw [e.2] at q2
      rcases Nat.mod_two_eq_zero_or_one j with hm | hm
      · have ej : 2 * (j / 2) = j := by omega
        rw [ej, List.getD_eq_getElem?_getD, hx] at q1
        exact q1
      · have ej : 2 * (j / 2) + 1 = j := by omega
        rw [ej, List.getD_eq_getElem?_getD, hx] at q2
        exact q2
    · have hb : Nat.beq g 1 = false := by
        cases hh : Nat.beq g 1
        · rfl
        · exact absurd (Nat.eq_of_beq_eq_true hh) g1
      rw [hb, cond_false] at hg
      cases hg
/-- The numbers of this program's types and tables. -/
def utRen : Ren := ⟨fun x => x, fun n => if n = 5 then 5 else if n = 119 then 67 else if n = 138 then 69 else 70, fun n => if n = 3 then 0 else 1⟩
theorem tabOk_of_laid {W : World} (hL : laidMet Tryd.prog [("unicode/utf8.acceptRanges", Rows.laid_unicode_utf8_acceptRanges), ("unicode/utf8.first", Rows.laid_unicode_utf8_first)] W) : TabOk (env0 W) := by
  have e1 : Rows.laid_unicode_utf8_first = Lib.firstData := Pinned.utf8First_eq
  have e2 : (Rows.laid_unicode_utf8_acceptRanges : DataW Unit) = Lib.acceptData := by kernel_rfl
  rw [e1, e2] at hL
  exact tabOk_of (utf8Tabs_of_readsT (P := Tryd.prog) (ρ := utRen) ⟨by kernel_rfl, by kernel_rfl, by kernel_rfl, by kernel_rfl⟩ ⟨by kernel_rfl, by kernel_rfl, by kernel_rfl, by kernel_rfl, by kernel_rfl, by kernel_rfl, by kernel_rfl⟩
    (Lib.laidMet.reads hL (.tail _ (.head _))) (Lib.laidMet.reads hL (.head _)))
end Go.Proofs.YtobjehjfdmelhaaDoor.Abs
end
section
namespace Go.Proofs.YtobjehjfdmelhaaDoor.cborReads
open Go Go.ChangeShapes Go.WideShapes Go.ChangeAt Go.RowKit Go.Proofs.YtobjehjfdmelhaaDoor.Abs
set_option linter.unusedVariables false
set_option linter.unusedSimpArgs false
theorem own : ownKnob Tryd.prog.godebug = none := by kernel_rfl
theorem laidOut : laidOutB Tryd.prog = true := by kernel_rfl
noncomputable def laidWorld (os : Os) : World := World.laidAll Tryd.prog os Rows.cborReadsRow.laid
theorem laid_met (os : Os) (args : Array Value) : laidMetH Tryd.prog Rows.cborReadsRow.laid ((laidWorld os).forCall (fun _ _ => 0) ⟨#[], args, []⟩).memory := by
  rw [MakeChecks.laidMetH_plain _ _ _ (by kernel_rfl)]
  exact laidMet_laidAll args (by kernel_rfl) (by kernel_rfl)
set_option maxRecDepth 100000 in
theorem lifted (os : Os) (started : os.Started) (H : Type) (enc : TypeId × Value → H) :
    ReturnsInHanded {} Tryd.checked os 3 .any (fun w args => (Rows.cborReadsSpec.pre enc Tryd.prog Tryd.f3 [] false w args ∧ laidMetH Tryd.prog Rows.cborReadsRow.laid w) ∧ sizedMet enc Tryd.prog Tryd.f3 (OpenSpec.ofChange Rows.cborReadsSpec) false w args)
      (Rows.cborReadsSpec.post enc Tryd.prog Tryd.f3 false true false false) := by
  refine returnsInHanded_of_change_and (C := Tryd.checked) (X := fun w _ => laidMetH Tryd.prog Rows.cborReadsRow.laid w) (fun _ _ _ hh h => h.of_heap hh) own started (by kernel_rfl) Tryd.func3
    (ChangeSpec.witness_shaped (enc := enc) (C := Tryd.checked) (os := os) (X := fun w _ => laidMetH Tryd.prog Rows.cborReadsRow.laid w) false (laidWorld os) #[.slice none 0 0] 8 (World.laidAll_os _ _ _) (World.shaped_of_RefB (by kernel_rfl) (by kernel_rfl)) (by kernel_rfl) (by kernel_rfl) (by kernel_rfl) (laid_met os _)) ?_
  intro W base args ds gs before hval0 hW _ _ hL _
  have hval : ∀ (j : Nat) t v, Tryd.f3.params[j]? = some t → args[j]? = some v → Value.okWide Tryd.prog W .any base t v := hval0
  have hW' := hW
  obtain ⟨p, q, hA0, hV, rfl, hfz, hnd⟩ := hW
  have hA : DataW.TrodAll enc Tryd.prog W 0 (fun _ => true) true Tryd.f3.params.toList args.toList ds p := hA0
  rw [Tryd.params3] at hA hval
  rw [MakeChecks.laidMetH_plain _ _ _ (by kernel_rfl)] at hL
  have htab : TabOk (env0 W) := tabOk_of_laid hL
  obtain ⟨v0, vs0, d0, ds0, p0, q0, hargs, rfl, rfl, h0, r0⟩ := trodAll_cons hA
  obtain ⟨rfl, rfl, rfl⟩ := trodAll_nil r0
  obtain rfl : args = #[v0] := by cases args; simp_all
  obtain ⟨rfl, rfl⟩ := trodVars_none hV
  obtain ⟨a0, len0, cap0, rfl⟩ := okWide_slice Tryd.underlying22 (hval 0 22 v0 rfl rfl)
  have k0 := h0
  have lt0 : ∀ x ∈ p0, x.block < W.heap.size := by obtain ⟨m, hm⟩ := k0; exact DataW.trod_lt m _ _ _ hm
  obtain ⟨x0, w0, t0⟩ := (by obtain ⟨fuel, hf⟩ := h0; exact open_any TTok 4 fuel 22 _ _ (by kernel_rfl) hf : ∃ xs, RepL (env0 W) xs (Value.cells _).toList ∧ TyL TT 4 22 xs)
  obtain ⟨l0, rfl, b0⟩ := bytes_of_slice t0
  have w0 := rep_one w0 rfl
  clear hA0 hval0
  refine (ACall.row (cborReads_ok l0 b0) (by simp [pureL, pureV, pureL_bys, pureL_ints, pureL_toks]) (W := W) (vals := [.slice a0 len0 cap0]) (by simp only [RepL]; exact ⟨_, _, rfl, w0, rfl⟩) htab).mono fun e W' ⟨he, bel⟩ => ?_
  subst he
  exact ⟨_, rfl, _, _, _, [], _, [], hW', trodAll_mk1 (shut_bool Tryd.underlying4 _), (trodAll_cons_mk (Below.trod laidOut (by kernel_rfl) (of_decide_eq_true (by kernel_rfl)) k0 bel lt0) trodAll_mk0), rfl, bel.frame _, fun h => by cases h⟩
theorem over : Rows.cborReadsRow.holds Tryd.pinned (OpenSpec.ofChange Rows.cborReadsSpec) :=
  OpenClaim.holds_of_wide 3 Tryd.f3 rfl rfl rfl rfl rfl rfl rfl ⟨rfl, rfl, rfl, rfl, rfl⟩ rfl rfl rfl rfl rfl (by kernel_rfl) Tryd.func3 (by kernel_rfl)
    (of_decide_eq_true (by kernel_rfl)) (by unfold Func.isWrapper; first | (rw [if_pos (by decide +kernel)]; kernel_rfl) | (rw [if_neg (by decide +kernel)]; exact ⟨rfl, rfl⟩))
    (fun os started H enc _ => lifted os started H enc)
/-- The tied card. -/
theorem card : Claim7.holds Tryd.pinned (.plain (OpenSpec.ofChange Rows.cborReadsSpec)) Rows.cborReadsCard :=
  Claim7.holds_tied_plain_at .later [] [.data, .pinned] true (true, "b2619b6392df5b047e91519415014f563fa691233174b37f4c7f108c787f7674") false
    over (fun _ h => by cases h) (by kernel_rfl) (fun _ h => by cases h) cborReads_row_tie rfl ⟨rfl, rfl⟩ (by kernel_rfl) rfl
    (fun f fn hf hfn => by
      obtain rfl : f = 3 := Option.some.inj ((show Tryd.prog.funcNamed "codicil/codicillaw10.CborReads" = some 3 by kernel_rfl).symm.trans hf) |>.symm
      obtain rfl : fn = Tryd.f3 := (Option.some.inj (Tryd.func3.symm.trans hfn)).symm
      exact ⟨by kernel_rfl, fun j t ht => by
        rw [Tryd.params3] at ht
        have hm : t ∈ [22] := by simpa using Array.mem_of_getElem? ht
        have hall : ([22].all fun u => !Tryd.prog.wantsStandIn u) = true := by kernel_rfl
        exact (show Tryd.prog.wantsStandIn t = false by simpa using List.all_eq_true.1 hall t hm)⟩)
    (by kernel_rfl)
end Go.Proofs.YtobjehjfdmelhaaDoor.cborReads
namespace Go.Proofs.YtobjehjfdmelhaaDoor
/-- The law CborReads. -/
theorem cborReads_holds : Rows.CborReadsCardSaid := cborReads.card
end Go.Proofs.YtobjehjfdmelhaaDoor
end
