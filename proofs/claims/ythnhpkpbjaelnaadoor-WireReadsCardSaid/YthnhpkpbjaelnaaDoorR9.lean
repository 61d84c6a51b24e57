/- Texts HG to GH, merged. -/
import Derived.Test.YthnhpkpbjaelnaaDoorR8
set_option linter.unusedVariables false
set_option linter.unusedSimpArgs false
namespace Go.Proofs.YthnhpkpbjaelnaaDoor.Abs
open Go
section

attribute [local irreducible] ifB fitP Does Weaker
def PLref : Nat → Bool × Plan := plans [(26, (false, .take 0 (.take 1 (.take 3 (.take 4 (.take 5 (.take 6 (.take 7 (.take 8 (.take 9 (.all [(2, .all [(10, .take 11 .done)])])))))))))))]
theorem refGet_ok (b : List Int) (hb : Byt b) (hl : b.length ≤ 1048576) (at' : Int) (ha : -9223372036854775808 ≤ at' ∧ at' < 9223372036854775808) : ACall Tryd.prog 110 [.ro b.length (bys b), .int .i64 at'] (tup4 (getR b at')) [] := by
 refine ACall.of_does TTok Tryd.func110 rfl Tryd.call110 rfl (wpc_sound (M := MH) (PL := PLref) (CU := cutAt [9, 18, 21]) TTok mixed _ _ _ ?_)
 conv => whnf
 repeat (refine ⟨rfl, ?_⟩; conv => whnf)
 refine ⟨_, _, in_ok at' 0 b.length, rfl, ?_⟩
 conv => whnf
 by_cases h1 : ¬ (0 ≤ at' ∧ at' ≤ b.length)
 ·refine ifB_pos (by simp [h1]) ?_
  conv => whnf
  have e : getR b at' = (0, 0, 0, 1) := by
   have : at' < 0 ∨ (b.length : Int) < at' := by omega
   simp [getR, this]
  exact four_ok (T := TT) e
 have h1 := Classical.not_not.1 h1
 refine ifB_neg (by simp [h1]) ?_
 conv => whnf
 have hat : ∃ k : Nat, at' = k := ⟨at'.toNat, by omega⟩
 obtain ⟨k, rfl⟩ := hat
 have h2 : ¬ (b.length : Int) < k := by omega
 refine ifB_dec (fun h3 => ?_) (fun h3 => ?_)
 ·conv => whnf
  have e : getR b k = (0, 0, 0, 3) := by
   have hk : ¬ k < b.length := by omega
   simp [getR, h2, hk]
  exact four_ok (T := TT) e
 have hk : k < b.length := by omega
 have hbk := hb b[k] (by simp)
 have e31 : bits .and .u8 b[k] 31 = b[k] % 32 := u8_and31 _ hbk.1 hbk.2
 have e5 : b[k] / 2 ^ min (Int.toNat 5) IntKind.u8.bits = b[k] / 32 := by
  have : (2 : Int) ^ min (Int.toNat 5) IntKind.u8.bits = 32 := by decide
  rw [this]
 conv => whnf
 refine ⟨by simp; omega, ?_⟩
 conv => whnf
 refine ⟨_, by simpa using get_bys hk, ?_⟩
 conv => whnf
 refine ⟨by omega, ?_⟩
 conv => whnf
 refine fit_i64 (by rw [e5]; omega) ?_
 conv => whnf
 refine ⟨by simp; omega, ?_⟩
 conv => whnf
 refine ⟨_, by simpa using get_bys hk, ?_⟩
 conv => whnf
 refine fit_i64 (by rw [e31]; omega) ?_
 conv => whnf
 let B : Nat := if b[k] % 32 = 24 then 1 else if b[k] % 32 = 25 then 2 else if b[k] % 32 = 26 then 4 else if b[k] % 32 = 27 then 8 else 0
 refine Does.seqCut (α := Unit) (fun _ => mkSt [(0, .ro b.length (bys b)), (1, .int .i64 k), (4, .int .i64 (b[k] / 32)), (8, .int .i64 (b[k] % 32)), (9, .int .i64 B)] [] 0 101) (fun _ => True) ?_ ?_
 ·refine wpc_sound (M := MH) (PL := PLref) (CU := noCut) TTok mixed _ _ _ ?_
  conv => whnf
  have fin : ∀ (x y z : Int), x = b[k] / 32 → y = b[k] % 32 → z = B → (leP (oldOf (matL [AV.ro b.length (bys b), AV.int IntKind.i64 k] (noHeap, 0)).2.2 []) (.int .i64 (b[k] / 32)) (.int .i64 x)) := fun x y z h _ _ => ⟨rfl, h⟩
  refine ifB_dec (fun h5 => ?_) (fun h5 => ?_)
  ·conv => whnf
   rw [e31] at h5
   refine ⟨(), trivial, weaker_of [] rfl rfl ?_ trivial⟩
   exact ⟨⟨rfl, rfl, pureL_bys _⟩, ⟨rfl, rfl⟩, ⟨rfl, e5⟩, ⟨rfl, e31⟩, ⟨rfl, by simp [B, h5]⟩, trivial⟩
  conv => whnf
  rw [e31] at h5
  refine ifB_dec (fun h6 => ?_) (fun h6 => ?_)
  ·conv => whnf
   rw [e31] at h6
   refine ⟨(), trivial, weaker_of [] rfl rfl ?_ trivial⟩
   exact ⟨⟨rfl, rfl, pureL_bys _⟩, ⟨rfl, rfl⟩, ⟨rfl, e5⟩, ⟨rfl, e31⟩, ⟨rfl, by simp [B, h6]⟩, trivial⟩
  conv => whnf
  rw [e31] at h6
  refine ifB_dec (fun h7 => ?_) (fun h7 => ?_)
  ·conv => whnf
   rw [e31] at h7
   refine ⟨(), trivial, weaker_of [] rfl rfl ?_ trivial⟩
   exact ⟨⟨rfl, rfl, pureL_bys _⟩, ⟨rfl, rfl⟩, ⟨rfl, e5⟩, ⟨rfl, e31⟩, ⟨rfl, by simp [B, h7]⟩, trivial⟩
  conv => whnf
  rw [e31] at h7
  refine ifB_dec (fun h8 => ?_) (fun h8 => ?_)
  ·conv => whnf
   rw [e31] at h8
   refine ⟨(), trivial, weaker_of [] rfl rfl ?_ trivial⟩
   exact ⟨⟨rfl, rfl, pureL_bys _⟩, ⟨rfl, rfl⟩, ⟨rfl, e5⟩, ⟨rfl, e31⟩, ⟨rfl, by simp [B, h8]⟩, trivial⟩
  conv => whnf
  rw [e31] at h8
  refine ⟨(), trivial, weaker_of [] rfl rfl ?_ trivial⟩
  exact ⟨⟨rfl, rfl, pureL_bys _⟩, ⟨rfl, rfl⟩, ⟨rfl, e5⟩, ⟨rfl, e31⟩, ⟨rfl, by simp [B, h5, h6, h7, h8]⟩, trivial⟩
 rintro ⟨⟩ -
 have hB : B = moreOf b[k] ∨ 27 < b[k] % 32 := by
  simp only [B, moreOf]
  by_cases q : 27 < b[k] % 32
  ·exact .inr q
  left
  by_cases q0 : 24 ≤ b[k] % 32
  ·have : b[k] % 32 = 24 ∨ b[k] % 32 = 25 ∨ b[k] % 32 = 26 ∨ b[k] % 32 = 27 := by omega
   rcases this with e | e | e | e <;> simp [e]
  ·have n1 : ¬ b[k] % 32 = 24 := by omega
   have n2 : ¬ b[k] % 32 = 25 := by omega
   have n3 : ¬ b[k] % 32 = 26 := by omega
   have n4 : ¬ b[k] % 32 = 27 := by omega
   simp [q0, n1, n2, n3, n4]
 have hB8 : B ≤ 8 := by
  simp only [B]
  repeat' split
  all_goals omega
 refine wpc_sound (M := MH) (PL := PLref) (CU := cutAt [18, 21]) TTok mixed _ _ _ ?_
 conv => whnf
 refine Does.seqCut (α := Unit) (fun _ => mkSt [(0, .ro b.length (bys b)), (1, .int .i64 k), (4, .int .i64 (b[k] / 32)), (8, .int .i64 (b[k] % 32)), (9, .int .i64 B)] [] 0 101)
  (fun _ => ¬ 27 < b[k] % 32 ∧ ¬ b.length < k + 1 + B ∧ ∀ h : k + 1 < b.length, B = 8 → b[k + 1] ≤ 127) ?_ ?_
 ·refine wpc_sound (M := MH) (PL := PLref) (CU := noCut) TTok mixed _ _ _ ?_
  conv => whnf
  refine ifB_dec (fun h4 => ?_) (fun h4 => ?_)
  ·conv => whnf
   repeat (first | (refine ifB_t ?_; conv => whnf) | (refine ifB_f ?_; conv => whnf))
   have e : getR b k = (0, 0, 0, 3) := by simp [getR, h2, hk, h4]
   exact four_ok (T := TT) e
  have hB := hB.resolve_right h4
  conv => whnf
  repeat (first | (refine ifB_t ?_; conv => whnf) | (refine ifB_f ?_; conv => whnf))
  refine fit_i64 ⟨by omega, by omega⟩ ?_
  conv => whnf
  repeat (first | (refine ifB_t ?_; conv => whnf) | (refine ifB_f ?_; conv => whnf))
  refine fit_i64 ⟨by omega, by omega⟩ ?_
  conv => whnf
  repeat (first | (refine ifB_t ?_; conv => whnf) | (refine ifB_f ?_; conv => whnf))
  refine ifB_dec (fun h6 => ?_) (fun h6 => ?_)
  ·conv => whnf
   repeat (first | (refine ifB_t ?_; conv => whnf) | (refine ifB_f ?_; conv => whnf))
   have e : getR b k = (0, 0, 0, 3) := by
    have h6' : b.length < k + 1 + moreOf b[k] := by omega
    simp [getR, h2, hk, h4, h6']
   exact four_ok (T := TT) e
  conv => whnf
  repeat (first | (refine ifB_t ?_; conv => whnf) | (refine ifB_f ?_; conv => whnf))
  refine ifB_dec (fun h7 => ?_) (fun h7 => ?_)
  ·have hm8 : B = 8 := by omega
   have hk1 : k + 1 < b.length := by omega
   have hb1 := hb b[k + 1] (by simp)
   conv => whnf
   repeat (first | (refine ifB_t ?_; conv => whnf) | (refine ifB_f ?_; conv => whnf))
   refine fit_i64 ⟨by omega, by omega⟩ ?_
   conv => whnf
   repeat (first | (refine ifB_t ?_; conv => whnf) | (refine ifB_f ?_; conv => whnf))
   refine ⟨by simp; omega, ?_⟩
   conv => whnf
   repeat (first | (refine ifB_t ?_; conv => whnf) | (refine ifB_f ?_; conv => whnf))
   refine ⟨_, by
    have e : ((k : Int) + 1).toNat = k + 1 := by omega
    simpa [e] using get_bys hk1, ?_⟩
   conv => whnf
   repeat (first | (refine ifB_t ?_; conv => whnf) | (refine ifB_f ?_; conv => whnf))
   refine ifB_dec (fun h8 => ?_) (fun h8 => ?_)
   ·conv => whnf
    repeat (first | (refine ifB_t ?_; conv => whnf) | (refine ifB_f ?_; conv => whnf))
    have e : getR b k = (0, 0, 0, 3) := by
     have h6' : ¬ b.length < k + 1 + moreOf b[k] := by omega
     have h24 : 24 ≤ b[k] % 32 := by
      have : moreOf b[k] = 8 := by omega
      unfold moreOf at this
      split at this
      ·assumption
      ·omega
     obtain ⟨s, hs⟩ : ∃ s, s = (b.drop (k + 1)).take (moreOf b[k]) := ⟨_, rfl⟩
     have hsl : s.length = 8 := by rw [hs]; simp; omega
     have hsb : Byt s := fun x hx => hb x (by rw [hs] at hx; exact List.mem_of_mem_drop (List.mem_of_mem_take hx))
     have h0 : s[0] = b[k + 1] := by simp [hs]
     have := (num8 hsb hsl).2 (by omega)
     rw [hs] at this
     simp [getR, h2, hk, h4, h6', numOf, h24, this]
    exact four_ok (T := TT) e
   ·conv => whnf
    repeat (first | (refine ifB_t ?_; conv => whnf) | (refine ifB_f ?_; conv => whnf))
    refine ⟨(), ⟨h4, by omega, fun _ _ => by omega⟩, weaker_of [] rfl rfl ?_ trivial⟩
    exact ⟨⟨rfl, rfl, pureL_bys _⟩, ⟨rfl, rfl⟩, ⟨rfl, rfl⟩, ⟨rfl, rfl⟩, ⟨rfl, rfl⟩, trivial⟩
  ·conv => whnf
   repeat (first | (refine ifB_t ?_; conv => whnf) | (refine ifB_f ?_; conv => whnf))
   refine ⟨(), ⟨h4, by omega, fun _ _ => by omega⟩, weaker_of [] rfl rfl ?_ trivial⟩
   exact ⟨⟨rfl, rfl, pureL_bys _⟩, ⟨rfl, rfl⟩, ⟨rfl, rfl⟩, ⟨rfl, rfl⟩, ⟨rfl, rfl⟩, trivial⟩
 rintro ⟨⟩ ⟨h4, h6, h8⟩
 have hB := hB.resolve_right h4
 rw [hB] at hB8 h6 h8 ⊢
 clear_value B
 subst hB
 obtain ⟨m, hMM⟩ : ∃ m, moreOf b[k] = m := ⟨_, rfl⟩
 rw [hMM] at hB8 h6 h8 ⊢
 obtain ⟨s, hs⟩ : ∃ s, s = (b.drop (k + 1)).take m := ⟨_, rfl⟩
 have hsl : s.length = m := by rw [hs]; simp; omega
 have hsb : Byt s := fun x hx => hb x (by rw [hs] at hx; exact List.mem_of_mem_drop (List.mem_of_mem_take hx))
 have hsg : ∀ (j : Nat) (h : j < m), s[j]'(by omega) = b[k + 1 + j]'(by omega) := by
  intro j h
  subst hs
  simp
 have h24 : m ≠ 0 → 24 ≤ b[k] % 32 := by
  intro hm
  unfold moreOf at hMM
  split at hMM
  ·assumption
  ·exact absurd hMM.symm hm
 refine wpc_sound (M := MH) (PL := PLref) (CU := cutAt [21]) TTok mixed _ _ _ ?_
 conv => whnf
 refine Does.seqCut (α := Unit) (fun _ => mkSt [(0, .ro b.length (bys b)), (1, .int .i64 k), (4, .int .i64 (b[k] / 32)), (5, .int .i64 (numOf b[k] s)), (9, .int .i64 m)] [] 0 101) (fun _ => True) ?_ ?_
 ·refine wpc_sound (M := MH) (PL := PLref) (CU := noCut) TTok mixed _ _ _ ?_
  conv => whnf
  refine ifB_dec (fun h9 => ?_) (fun h9 => ?_)
  ·have hnv : ∀ t : List Int, numOf b[k] t = beVal t := fun t => by simp [numOf, h24 (by omega)]
   have e8 : (2 : Int) ^ min (Int.toNat 8) IntKind.i64.bits = 256 := by decide
   conv => whnf
   refine Does.loop (fun c : Nat => mkSt [(0, .ro b.length (bys b)), (1, .int .i64 k), (4, .int .i64 (b[k] / 32)), (5, .int .i64 (beVal (s.take c))), (9, .int .i64 m), (10, .int .i64 c)] [] 0 101)
    (fun c => c ≤ m) (fun c => m - c) ?_ 0 (Nat.zero_le _) ?_
   ·intro c hc
    refine wpc_sound (M := MH) (PL := PLref) (CU := noCut) TTok mixed _ _ _ ?_
    conv => whnf
    refine ifB_dec (fun h => ?_) (fun h => ?_)
    ·have hcs : c < s.length := by omega
     have hsc := hsb s[c] (by simp)
     have hv := beVal_bound (l := s.take c) (fun x hx => hsb x (List.mem_of_mem_take hx))
     rw [List.length_take, Nat.min_eq_left (by omega)] at hv
     have hvb : beVal (s.take c) < 36028797018963968 := by
      rcases Nat.lt_or_ge c 7 with h7 | h7
      ·have hp6 : (256 : Int) ^ c ≤ 281474976710656 := by
        have : c = 0 ∨ c = 1 ∨ c = 2 ∨ c = 3 ∨ c = 4 ∨ c = 5 ∨ c = 6 := by omega
        rcases this with rfl | rfl | rfl | rfl | rfl | rfl | rfl <;> decide
       omega
      ·have h7' : c = 7 := by omega
       subst h7'
       have hb1 := h8 (by omega) (by omega)
       refine num7 (fun x hx => hsb x (List.mem_of_mem_take hx)) (by simp; omega) ?_
       have := hsg 0 (by omega)
       simp at this ⊢
       omega
     conv => whnf
     refine ⟨by omega, ?_⟩
     conv => whnf
     refine fit_i64 (by rw [e8]; omega) ?_
     conv => whnf
     refine fit_i64 ⟨by omega, by omega⟩ ?_
     conv => whnf
     refine fit_i64 ⟨by omega, by omega⟩ ?_
     conv => whnf
     refine ⟨by simp; omega, ?_⟩
     conv => whnf
     have hkc : k + 1 + c < b.length := by omega
     refine ⟨_, by
      have e : ((k : Int) + 1 + c).toNat = k + 1 + c := by omega
      simpa [e] using get_bys hkc, ?_⟩
     have hscb : s[c] = b[k + 1 + c] := hsg c (by omega)
     rw [← hscb]
     conv => whnf
     refine fit_i64 ⟨by omega, by omega⟩ ?_
     conv => whnf
     refine fit_i64 ⟨by omega, by omega⟩ ?_
     conv => whnf
     refine ⟨c + 1, by omega, by omega, weaker_of [] rfl rfl ?_ trivial⟩
     refine ⟨⟨rfl, rfl, pureL_bys _⟩, ⟨rfl, rfl⟩, ⟨rfl, rfl⟩, ⟨rfl, ?_⟩, ⟨rfl, rfl⟩, ⟨rfl, rfl⟩, trivial⟩
     show bits .or .i64 (beVal (s.take c) * 2 ^ min (Int.toNat 8) IntKind.i64.bits) s[c] = beVal (s.take (c + 1))
     rw [e8, beVal_take hcs]
     exact bits_join .i64 63 (by decide) wrap_i64_63 8 _ _ (by omega) (by omega) (by omega) hsc.1 (by omega) (by omega)
    ·conv => whnf
     have hcm : c = m := by omega
     refine ⟨(), trivial, weaker_of [] rfl rfl ?_ trivial⟩
     refine ⟨⟨rfl, rfl, pureL_bys _⟩, ⟨rfl, rfl⟩, ⟨rfl, rfl⟩, ⟨rfl, ?_⟩, ⟨rfl, rfl⟩, trivial⟩
     show beVal (s.take c) = numOf b[k] s
     rw [hnv, hcm, ← hsl, List.take_length]
   ·refine weaker_of [] rfl rfl ?_ trivial
    exact ⟨⟨rfl, rfl, pureL_bys _⟩, ⟨rfl, rfl⟩, ⟨rfl, rfl⟩, ⟨rfl, rfl⟩, ⟨rfl, rfl⟩, ⟨rfl, rfl⟩, trivial⟩
  ·conv => whnf
   refine ⟨(), trivial, weaker_of [] rfl rfl ?_ trivial⟩
   refine ⟨⟨rfl, rfl, pureL_bys _⟩, ⟨rfl, rfl⟩, ⟨rfl, rfl⟩, ⟨rfl, ?_⟩, ⟨rfl, rfl⟩, trivial⟩
   show b[k] % 32 = numOf b[k] s
   have hn : ¬ 24 ≤ b[k] % 32 := by
    intro hh
    have : moreOf b[k] = 0 := by omega
    simp only [moreOf, if_pos hh] at this
    have := Nat.pow_pos (n := (b[k] % 32 - 24).toNat) (show 0 < 2 by omega)
    omega
   simp [numOf, hn]
 rintro ⟨⟩ -
 have hnum : 0 ≤ numOf b[k] s ∧ numOf b[k] s ≤ 9223372036854775807 := by
  unfold numOf
  split
  ·have h0 := (beVal_bound hsb).1
   rcases Nat.lt_or_ge m 8 with h7 | h7
   ·have := num_small hsb (by omega)
    omega
   ·have hm8 : m = 8 := by omega
    have hl8 : s.length = 8 := by omega
    have := num8 hsb hl8
    have hb1 := h8 (by omega) hm8
    have := hsg 0 (by omega)
    simp at this
    omega
  ·omega
 refine wpc_sound (M := MH) (PL := PLref) (CU := noCut) TTok mixed _ _ _ ?_
 conv => whnf
 refine ⟨by kernel_rfl, ?_⟩
 conv => whnf
 refine fit_i64 ⟨by omega, by omega⟩ ?_
 conv => whnf
 refine fit_i64 ⟨by omega, by omega⟩ ?_
 conv => whnf
 refine ⟨⟨by simp, by omega, by omega, by omega⟩, ?_⟩
 conv => whnf
 repeat (refine ⟨rfl, ?_⟩; conv => whnf)
 refine ⟨_, _, refHead_ok (b[k] / 32) (numOf b[k] s) (by omega) (by omega) hnum.1, rfl, ?_⟩
 conv => whnf
 have hL : lenB (some (k : Int)) (some ((k : Int) + 1 + m)) b.length = (b[k] :: s).length := by simp [lenB, hsl]; omega
 have hC : cutB (bys b) (some (k : Int)) (some ((k : Int) + 1 + m)) 1 = bys (b[k] :: s) := by
  have e1 : ((k : Int) + 1 + m).toNat - k = m + 1 := by omega
  have e2 : b.drop k = b[k] :: b.drop (k + 1) := by simp
  have e3 : (b.drop k).take (m + 1) = b[k] :: s := by rw [e2, List.take_succ_cons, hs]
  rw [← e3, ← bys_take, ← bys_drop]
  simp [cutB, e1]
 have hc : ACall Tryd.prog 27 [.ro (putL (b[k] / 32) (numOf b[k] s)).length (bys (putL (b[k] / 32) (numOf b[k] s))), .ro (lenB (some (k : Int)) (some ((k : Int) + 1 + m)) b.length) (cutB (bys b) (some (k : Int)) (some ((k : Int) + 1 + m)) 1)]
   (.bool (decide (putL (b[k] / 32) (numOf b[k] s) = b[k] :: s))) [] := by
  rw [hL, hC]
  exact bytes_ok _ _ (by have := sizeR_le _ hnum.1; simp [putL]; omega)
 refine ⟨pureL_bys _, ?_⟩
 refine Or.inl ⟨⟨rfl, by simp⟩, ?_⟩
 conv => whnf
 refine ⟨by
  have : pureL (cutB (bys b) (some (k : Int)) (some ((k : Int) + 1 + m)) 1) = true := by rw [hC]; exact pureL_bys _
  exact this, ?_⟩
 conv => whnf
 refine ⟨rfl, _, _, hc, rfl, ?_⟩
 conv => whnf
 have hbig : ¬ 9223372036854775807 < numOf b[k] s := by omega
 by_cases heq : putL (b[k] / 32) (numOf b[k] s) = b[k] :: s
 ·refine ifB_neg (by simp [heq]) ?_
  conv => whnf
  refine fit_i64 ⟨by omega, by omega⟩ ?_
  conv => whnf
  refine fit_i64 ⟨by omega, by omega⟩ ?_
  conv => whnf
  have hsz : (sizeR (numOf b[k] s)).1 = m := by
   have := congrArg List.length heq
   simp [putL, hsl] at this
   exact this
  have e : getR b k = (b[k] / 32, numOf b[k] s, (k : Int) + 1 + m, 0) := by
   rw [← hMM] at h6 hs hsz ⊢
   rw [hs] at hbig hsz ⊢
   simp [getR, h2, hk, h4, h6, hbig, hsz]
  exact four_ok (T := TT) e
 ·refine ifB_pos (by simp [heq]) ?_
  conv => whnf
  have hsz : ¬ (sizeR (numOf b[k] s)).1 = m := by
   intro hh
   exact heq (putL_of hbk.1 h4 hsb (by omega) (by omega))
  have e : getR b k = (0, 0, 0, 3) := by
   rw [← hMM] at h6 hs hsz
   rw [hs] at hbig hsz
   simp [getR, h2, hk, h4, h6, hbig, hsz]
  exact four_ok (T := TT) e
end
section

attribute [local irreducible] ifB fitP Does Weaker
def tkC (r : Option (List Tok × Nat)) : List AV := match r with
 | some (l, x) => [.own l.length 3 (toksC l), .int .i64 (x : Int), .bool true]
 | none => [.own 0 3 [], .int .i64 0, .bool false]
def TItemOk (b : List Int) (f : Nat) : Prop := ∀ (at' : Nat) (l : List Tok), at' ≤ b.length → l.length ≤ 600 →
 ACall Tryd.prog 91 [.ro b.length (bys b), .int .i64 (at' : Int), .own l.length 3 (toksC l), .int .i64 (6 - (f : Int))] (.tuple (tkC (tItem b f at' l))) []
theorem tMany_inv {b : List Int} {g : Nat → List Tok → Option (List Tok × Nat)} (H : ∀ x l l' x', x ≤ b.length → l.length ≤ 600 → g x l = some (l', x') → x' ≤ b.length ∧ l'.length ≤ 600) :
  ∀ (n x : Nat) (l l' : List Tok) (x' : Nat), x ≤ b.length → l.length ≤ 600 → tMany g n x l = some (l', x') → x' ≤ b.length ∧ l'.length ≤ 600
 | 0, x, l, l', x', h1, h2, h => by
  simp only [tMany, Option.some.injEq, Prod.mk.injEq] at h
  obtain ⟨rfl, rfl⟩ := h
  exact ⟨h1, h2⟩
 | n + 1, x, l, l', x', h1, h2, h => by
  unfold tMany at h
  split at h
  ·cases h
  rename_i l1 x1 hg
  obtain ⟨q1, q2⟩ := H _ _ _ _ h1 h2 hg
  exact tMany_inv H n _ _ _ _ q1 q2 h
theorem tItem_inv (b : List Int) (hb : Byt b) : ∀ (f x : Nat) (l l' : List Tok) (x' : Nat), x ≤ b.length → l.length ≤ 600 → tItem b f x l = some (l', x') → x' ≤ b.length ∧ l'.length ≤ 600
 | f, x, l, l', x', h1, h2, h => by
  rw [tItem_eq] at h
  split at h
  ·cases h
  rename_i hbad
  simp only [tBad, not_or] at hbad
  obtain ⟨M, n, X, e, _, hn, hX, _⟩ := getR_right b hb x (by omega)
  rw [e] at h
  simp only [Int.toNat_natCast] at h
  unfold tGo at h
  split at h
  ·simp only [Option.some.injEq, Prod.mk.injEq] at h; obtain ⟨rfl, rfl⟩ := h; exact ⟨hX, by simp; omega⟩
  split at h
  ·simp only [Option.some.injEq, Prod.mk.injEq] at h; obtain ⟨rfl, rfl⟩ := h; exact ⟨hX, by simp; omega⟩
  split at h
  ·split at h
   ·cases h
   ·simp only [Option.some.injEq, Prod.mk.injEq] at h; obtain ⟨rfl, rfl⟩ := h; exact ⟨by omega, by simp; omega⟩
  split at h
  ·split at h
   ·cases h
   ·cases f with
    | zero => rename_i hz; simp at hz
    | succ f =>
     rw [tSub_succ] at h
     exact tMany_inv (fun x l l' x' => tItem_inv b hb f x l l' x') _ _ _ _ _ hX (by simp; omega) h
  ·cases h
set_option maxHeartbeats 4000000 in
theorem tokens_at (b : List Int) (hb : Byt b) (hbl : b.length ≤ 32768) (f : Nat) (hf : f ≤ 6) (hi : ∀ f', f = f' + 1 → TItemOk b f') : TItemOk b f := by
 intro at' l hat hl
 have hget := refGet_ok b hb (by omega) at' (by omega)
 have hL : (toksC l).length = l.length * 3 := by rw [toksC_length]; omega
 rw [tItem_eq]
 refine ACall.of_does TTok Tryd.func91 rfl Tryd.call91 rfl (wpc_sound (M := MC) (PL := PL0) (CU := cutAt [99999]) TTok mixed _ _ _ ?_)
 conv => whnf
 repeat ((first | refine ⟨pureL_bys _, ?_⟩ | refine ⟨rfl, ?_⟩); conv => whnf)
 by_cases hbad : tBad b at' l
 ·rw [if_pos hbad]
  simp only [tBad] at hbad
  refine ⟨_, _, hget, by first | rfl | simp [noRoIf, noRoL, noRoV, noRoL_bys], ?_⟩
  conv => whnf
  conv => whnf
  repeat' (first | (refine ifB_t ?_; (conv => whnf)) | (refine ifB_f ?_; (conv => whnf)) | (refine ifB_pos (decide_eq_true (by first | omega | rfl | (dsimp only; omega))) ?_; (conv => whnf)) | (refine ⟨rfl, ?_⟩; (conv => whnf)) | (refine ⟨⟨rfl, rfl⟩, ?_⟩; (conv => whnf)) | (omega) | (refine wpc_sound (M := MC) (PL := PL0) (CU := noCut) TTok mixed _ _ _ ?_; conv => whnf) | (rfl) | (refine ⟨_, rfl, ?_⟩; conv => whnf) | (refine ifB_dec (fun _ => ?_) (fun _ => ?_) <;> conv => whnf) | (refine And.intro ?_ ?_ <;> conv => whnf))
 rw [if_neg hbad]
 simp only [tBad, not_or] at hbad
 obtain ⟨M, n, X, e, hM, hn, hX, _⟩ := getR_right b hb at' (by omega)
 rw [e] at hget ⊢
 simp only [tup4] at hget
 simp only [Int.toNat_natCast]
 unfold tGo
 refine ⟨_, _, hget, by first | rfl | simp [noRoIf, noRoL, noRoV, noRoL_bys], ?_⟩
 conv => whnf
 repeat ((first | refine ifB_f ?_ | (refine ifB_neg (decide_eq_false (by first | omega | rfl | (dsimp only; omega))) ?_)); conv => whnf)
 refine ifB_dec (fun m0 => ?_) (fun m0 => ?_)
 ·rw [if_pos m0]
  conv => whnf
  repeat ((first | (refine Or.inl ⟨⟨rfl, ?_⟩, ?_⟩; (focus (first | rfl | (simp; done) | (rw [toksC_length]; omega)))) | refine ⟨rfl, ?_⟩ | refine ⟨⟨rfl, rfl⟩, ?_⟩ | (refine And.intro ?_ ?_; (focus (first | (simp [limB, lenB, offB]; done) | (simp [limB, lenB, offB]; omega))))); conv => whnf)
  refine Does.weakerTo' (env := [(8, .sl 1 0 (l.length + 1) 3 false), (9, .int .i64 (X : Nat)), (10, .bool true)]) (heap := [(1, toksC (l ++ [⟨1, n, []⟩]))]) (nx := 2) (n := 114) [(1, 2)] rfl rfl ⟨⟨rfl, rfl, rfl, rfl, id⟩, ⟨rfl, by simp⟩, rfl, trivial⟩ ⟨by (conv => whnf); exact lesP_toks_nil, trivial⟩ ?_
  refine wpc_sound (M := MC) (PL := PL0) (CU := noCut) TTok mixed _ _ _ ?_
  conv => whnf
  refine ⟨⟨by simp, rfl, rfl, by simp [toksC_length]; omega, pureL_toks _⟩, ?_⟩
  conv => whnf
  repeat ((first | refine ⟨rfl, ?_⟩ | refine ⟨⟨rfl, rfl⟩, ?_⟩); conv => whnf)
  rfl
 rw [if_neg m0]
 conv => whnf
 refine ifB_dec (fun m1 => ?_) (fun m1 => ?_)
 ·rw [if_pos m1]
  conv => whnf
  repeat ((first | (refine Or.inl ⟨⟨rfl, ?_⟩, ?_⟩; (focus (first | rfl | (simp; done) | (rw [toksC_length]; omega)))) | refine ⟨rfl, ?_⟩ | refine ⟨⟨rfl, rfl⟩, ?_⟩ | (refine And.intro ?_ ?_; (focus (first | (simp [limB, lenB, offB]; done) | (simp [limB, lenB, offB]; omega))))); conv => whnf)
  refine Does.weakerTo' (env := [(8, .sl 1 0 (l.length + 1) 3 false), (9, .int .i64 (X : Nat)), (10, .bool true)]) (heap := [(1, toksC (l ++ [⟨2, n, []⟩]))]) (nx := 2) (n := 114) [(1, 2)] rfl rfl ⟨⟨rfl, rfl, rfl, rfl, id⟩, ⟨rfl, by simp⟩, rfl, trivial⟩ ⟨by (conv => whnf); exact lesP_toks_nil, trivial⟩ ?_
  refine wpc_sound (M := MC) (PL := PL0) (CU := noCut) TTok mixed _ _ _ ?_
  conv => whnf
  refine ⟨⟨by simp, rfl, rfl, by simp [toksC_length]; omega, pureL_toks _⟩, ?_⟩
  conv => whnf
  repeat ((first | refine ⟨rfl, ?_⟩ | refine ⟨⟨rfl, rfl⟩, ?_⟩); conv => whnf)
  rfl
 rw [if_neg m1]
 by_cases m23 : M = 2 ∨ M = 3
 ·rw [if_pos m23]
  by_cases hs : (b.length : Int) - X < n
  ·rw [if_pos hs]
   conv => whnf
   repeat' (first | (refine ifB_t ?_; (conv => whnf)) | (refine ifB_pos (decide_eq_true (by first | omega | rfl | (dsimp only; omega))) ?_; (conv => whnf)) | (refine fit_i64 ⟨by first | omega | rfl | (dsimp only; omega), by first | omega | rfl | (dsimp only; omega)⟩ ?_; (conv => whnf)) | (refine ⟨rfl, ?_⟩; (conv => whnf)) | (refine ⟨⟨rfl, rfl⟩, ?_⟩; (conv => whnf)) | (omega) | (refine wpc_sound (M := MC) (PL := PL0) (CU := noCut) TTok mixed _ _ _ ?_; conv => whnf) | (rfl) | (refine ⟨_, rfl, ?_⟩; conv => whnf) | (refine ifB_dec (fun _ => ?_) (fun _ => ?_) <;> conv => whnf) | (refine And.intro ?_ ?_ <;> conv => whnf))
  rw [if_neg hs]
  obtain ⟨N, rfl⟩ : ∃ N : Nat, n = N := ⟨n.toNat, by omega⟩
  rw [Int.toNat_natCast]
  have ht := twin_ok ((b.drop X).take N) (by simp; omega)
  have hcl : ((b.drop X).take N).length = N := by simp; omega
  have e1 : ((X : Int) + N).toNat - X = N := by omega
  obtain ⟨K, hK⟩ : ∃ K, K = M + 1 := ⟨_, rfl⟩
  rw [← hK]
  rcases m23 with rfl | rfl
  all_goals
   conv => whnf
   repeat ((first | refine ifB_t ?_ | refine ifB_f ?_ | (refine ifB_neg (decide_eq_false (by first | omega | rfl | (dsimp only; omega))) ?_) | (refine fit_i64 ⟨by first | omega | rfl | (dsimp only; omega), by first | omega | rfl | (dsimp only; omega)⟩ ?_) | refine ⟨pureL_cutB _ _ _ _, ?_⟩ | refine ⟨rfl, ?_⟩ | (refine ⟨⟨?_, ?_⟩, ?_⟩; (focus (simp; done)); (focus (first | (simp only [okB]; omega) | (simp [okB]; omega))))); conv => whnf)
   refine ⟨_, _, ACall.arg1 ht (by simp [lenB]; omega) (by simp [cutB, bys_drop, bys_take]; rw [e1]), by first | rfl | simp [noRoIf, noRoL, noRoV, noRoL_bys], ?_⟩
   conv => whnf
   repeat ((first | (refine fit_i64 ⟨by first | omega | rfl | (dsimp only; omega), by first | omega | rfl | (dsimp only; omega)⟩ ?_) | (refine Or.inl ⟨⟨rfl, ?_⟩, ?_⟩; (focus (first | rfl | (simp; done) | (rw [toksC_length]; omega)))) | refine ⟨rfl, ?_⟩ | refine ⟨⟨rfl, rfl⟩, ?_⟩ | (refine And.intro ?_ ?_; (focus (first | (simp [limB, lenB, offB]; done) | (simp [limB, lenB, offB]; omega))))); conv => whnf)
   refine Does.freeze 1 rfl (Does.weakerTo' (env := [(8, .sl 1 0 (l.length + 1) 3 false), (9, .int .i64 ((X + N : Nat) : Int)), (10, .bool true)]) (heap := [(1, toksC (l ++ [⟨K, 0, (b.drop X).take N⟩]))]) (nx := 2) (n := 114) [(1, 3)] rfl rfl ⟨⟨rfl, rfl, rfl, rfl, id⟩, ⟨rfl, by simp⟩, rfl, trivial⟩ ⟨lesP_toks ?_, trivial⟩ ?_)
   ·rw [frzL_app, frzL_toks, toksC_append]
    simp only [frzL, frzV, toksC, whole_bys, show Nat.beq 1 1 = true from rfl, cond_true]
    rw [hK]
    rfl
   refine wpc_sound (M := MC) (PL := PL0) (CU := noCut) TTok mixed _ _ _ ?_
   conv => whnf
   refine ⟨⟨by simp, rfl, rfl, by simp [toksC_length]; omega, pureL_toks _⟩, ?_⟩
   conv => whnf
   repeat ((first | refine ⟨rfl, ?_⟩ | refine ⟨⟨rfl, rfl⟩, ?_⟩); conv => whnf)
   rfl
 rw [if_neg m23]
 by_cases m45 : M = 4 ∨ M = 5
 case neg =>
  rw [if_neg m45]
  conv => whnf
  repeat' (first | (refine ifB_neg (decide_eq_false (by first | omega | rfl | (dsimp only; omega))) ?_; (conv => whnf)) | (refine ⟨rfl, ?_⟩; (conv => whnf)) | (refine ⟨⟨rfl, rfl⟩, ?_⟩; (conv => whnf)) | (omega) | (refine wpc_sound (M := MC) (PL := PL0) (CU := noCut) TTok mixed _ _ _ ?_; conv => whnf) | (rfl) | (refine ⟨_, rfl, ?_⟩; conv => whnf) | (refine ifB_dec (fun _ => ?_) (fun _ => ?_) <;> conv => whnf) | (refine And.intro ?_ ?_ <;> conv => whnf))
 rw [if_pos m45]
 by_cases hz : 64 < n ∨ decide (f = 0) = true
 ·rw [if_pos hz]
  simp only [decide_eq_true_eq] at hz
  conv => whnf
  repeat' (first | (refine ifB_t ?_; (conv => whnf)) | (refine ifB_f ?_; (conv => whnf)) | (refine ifB_neg (decide_eq_false (by first | omega | rfl | (dsimp only; omega))) ?_; (conv => whnf)) | (refine ifB_pos (decide_eq_true (by first | omega | rfl | (dsimp only; omega))) ?_; (conv => whnf)) | (refine ⟨rfl, ?_⟩; (conv => whnf)) | (refine ⟨⟨rfl, rfl⟩, ?_⟩; (conv => whnf)) | (omega) | (refine wpc_sound (M := MC) (PL := PL0) (CU := noCut) TTok mixed _ _ _ ?_; conv => whnf) | (rfl) | (refine ⟨_, rfl, ?_⟩; conv => whnf) | (refine ifB_dec (fun _ => ?_) (fun _ => ?_) <;> conv => whnf) | (refine And.intro ?_ ?_ <;> conv => whnf))
 rw [if_neg hz]
 simp only [decide_eq_true_eq, not_or] at hz
 obtain ⟨f, rfl⟩ : ∃ f', f = f' + 1 := ⟨f - 1, by omega⟩
 rw [tSub_succ]
 have hi := hi f rfl
 have hinv := tItem_inv b hb f
 have hi' : ∀ (x : Nat) (L : List Tok), x ≤ b.length → L.length ≤ 600 → ACall Tryd.prog 91 [.ro b.length (bys b), .int .i64 (x : Int), .own L.length 3 (toksC L), .int .i64 (6 - ((f + 1 : Nat) : Int) + 1)] (.tuple (tkC (tItem b f x L))) [] := by
  intro x L h1 h2
  have := hi x L h1 h2
  rwa [show (6 : Int) - (f : Int) = 6 - ((f + 1 : Nat) : Int) + 1 by omega] at this
 obtain ⟨items, hit⟩ : ∃ items : Nat, items = (n * (M - 3)).toNat := ⟨_, rfl⟩
 have hit2 : (items : Int) = n * (M - 3) ∧ 0 ≤ n * (M - 3) ∧ n * (M - 3) ≤ 128 := by
  rcases m45 with rfl | rfl <;> omega
 obtain ⟨R, hR⟩ : ∃ R, R = tMany (fun x l => tItem b f x l) items X (l ++ [⟨M + 1, n, []⟩]) := ⟨_, rfl⟩
 rw [← hit, ← hR]
 rcases m45 with rfl | rfl
 ·conv => whnf
  repeat ((first | refine ifB_t ?_ | refine ifB_f ?_ | (refine ifB_neg (decide_eq_false (by first | omega | rfl | (dsimp only; omega))) ?_) | (refine fit_i64 ⟨by first | omega | rfl | (dsimp only; omega), by first | omega | rfl | (dsimp only; omega)⟩ ?_) | (refine Or.inl ⟨⟨rfl, ?_⟩, ?_⟩; (focus (first | rfl | (simp; done) | (rw [toksC_length]; omega)))) | refine ⟨rfl, ?_⟩ | refine ⟨⟨rfl, rfl⟩, ?_⟩ | (refine And.intro ?_ ?_; (focus (first | (simp [limB, lenB, offB]; done) | (simp [limB, lenB, offB]; omega))))); conv => whnf)
  refine Does.loop (fun p : Nat × Nat × List Tok => mkSt [(0, .ro b.length (bys b)), (2, .sl 1 0 p.2.2.length 3 false), (3, .int .i64 (6 - ((f + 1 : Nat) : Int))), (11, .int .i64 4), (12, .int .i64 n), (13, .int .i64 p.2.1), (15, .bool true), (16, .int .i64 p.1)]
   [(1, toksC p.2.2)] 2 114) (fun p => p.1 ≤ items ∧ p.2.1 ≤ b.length ∧ p.2.2.length ≤ 600 ∧ tMany (fun x l => tItem b f x l) (items - p.1) p.2.1 p.2.2 = R) (fun p => items - p.1) ?_ (0, X, l ++ [⟨4 + 1, n, []⟩]) ⟨Nat.zero_le _, hX, by simp; omega, hR.symm⟩ ?_
  ·rintro ⟨i, x, L⟩ ⟨p1, p2, p3, p4⟩
   simp only at p1 p2 p3 p4
   have hLL : (toksC L).length = L.length * 3 := by rw [toksC_length]; omega
   refine wpc_sound (M := MC) (PL := PL0) (CU := noCut) TTok mixed _ _ _ ?_
   conv => whnf
   repeat ((refine fit_i64 ⟨by first | omega | rfl | (dsimp only; omega), by first | omega | rfl | (dsimp only; omega)⟩ ?_); conv => whnf)
   refine ifB_dec (fun j1 => ?_) (fun j1 => ?_)
   ·have c1 : i < items := by simp only at j1; omega
    obtain ⟨m, hm⟩ : ∃ m, items - i = m + 1 := ⟨items - i - 1, by omega⟩
    rw [hm] at p4
    unfold tMany at p4
    have hx := hi' x L p2 p3
    cases hr : tItem b f x L with
    | none =>
     rw [hr] at p4 hx
     simp only at p4
     rw [← p4]
     conv => whnf
     repeat ((first | (refine fit_i64 ⟨by first | omega | rfl | (dsimp only; omega), by first | omega | rfl | (dsimp only; omega)⟩ ?_) | refine ⟨pureL_bys _, ?_⟩ | refine ⟨rfl, ?_⟩ | (refine ⟨⟨rfl, rfl, ?_, pureL_toks _⟩, ?_⟩; (focus (rw [toksC_length]; omega)))); conv => whnf)
     refine ⟨_, _, hx, by first | rfl | simp [noRoIf, noRoL, noRoV, noRoL_bys], ?_⟩
     conv => whnf
     repeat ((first | refine ifB_t ?_ | refine ⟨rfl, ?_⟩ | refine ⟨⟨rfl, rfl⟩, ?_⟩); conv => whnf)
     rfl
    | some r =>
     obtain ⟨L', x'⟩ := r
     obtain ⟨g1, g2⟩ := hinv _ _ _ _ p2 p3 hr
     rw [hr] at p4 hx
     simp only at p4
     simp only [tkC] at hx
     conv => whnf
     repeat ((first | (refine fit_i64 ⟨by first | omega | rfl | (dsimp only; omega), by first | omega | rfl | (dsimp only; omega)⟩ ?_) | refine ⟨pureL_bys _, ?_⟩ | refine ⟨rfl, ?_⟩ | (refine ⟨⟨rfl, rfl, ?_, pureL_toks _⟩, ?_⟩; (focus (rw [toksC_length]; omega)))); conv => whnf)
     refine ⟨_, _, hx, by first | rfl | simp [noRoIf, noRoL, noRoV, noRoL_bys], ?_⟩
     conv => whnf
     repeat ((first | refine ifB_f ?_ | (refine fit_i64 ⟨by first | omega | rfl | (dsimp only; omega), by first | omega | rfl | (dsimp only; omega)⟩ ?_)); conv => whnf)
     refine ⟨(i + 1, x', L'), ⟨by simp only; omega, g1, g2, by simp only; rw [show items - (i + 1) = m by omega]; exact p4⟩, by simp only; omega, weaker_of [(1, 2)] rfl rfl ⟨⟨rfl, rfl, pureL_bys _⟩, ⟨rfl, rfl, rfl, rfl, id⟩, ⟨rfl, rfl⟩, ⟨rfl, rfl⟩, ⟨rfl, rfl⟩, ⟨rfl, rfl⟩, rfl, ⟨rfl, rfl⟩, trivial⟩ ⟨lesP_toks rfl, trivial⟩⟩
   ·have : items - i = 0 := by simp only at j1; omega
    rw [this] at p4
    simp only [tMany] at p4
    rw [← p4]
    conv => whnf
    refine wpc_sound (M := MC) (PL := PL0) (CU := noCut) TTok mixed _ _ _ ?_
    conv => whnf
    repeat ((first | refine ⟨rfl, ?_⟩ | refine ⟨⟨rfl, rfl⟩, ?_⟩ | (refine ⟨⟨rfl, rfl, rfl, ?_, pureL_toks _⟩, ?_⟩; (focus (rw [toksC_length]; omega)))); conv => whnf)
    rfl
  ·exact weaker_of [(1, 2)] rfl rfl ⟨⟨rfl, rfl, pureL_bys _⟩, ⟨rfl, by simp, by simp, rfl, id⟩, ⟨rfl, rfl⟩, ⟨rfl, rfl⟩, ⟨rfl, rfl⟩, ⟨rfl, rfl⟩, rfl, ⟨rfl, rfl⟩, trivial⟩ ⟨by (conv => whnf); exact lesP_toks_nil, trivial⟩
 ·conv => whnf
  repeat ((first | refine ifB_t ?_ | refine ifB_f ?_ | (refine ifB_neg (decide_eq_false (by first | omega | rfl | (dsimp only; omega))) ?_) | (refine fit_i64 ⟨by first | omega | rfl | (dsimp only; omega), by first | omega | rfl | (dsimp only; omega)⟩ ?_) | (refine Or.inl ⟨⟨rfl, ?_⟩, ?_⟩; (focus (first | rfl | (simp; done) | (rw [toksC_length]; omega)))) | refine ⟨rfl, ?_⟩ | refine ⟨⟨rfl, rfl⟩, ?_⟩ | (refine And.intro ?_ ?_; (focus (first | (simp [limB, lenB, offB]; done) | (simp [limB, lenB, offB]; omega))))); conv => whnf)
  refine Does.loop (fun p : Nat × Nat × List Tok => mkSt [(0, .ro b.length (bys b)), (2, .sl 1 0 p.2.2.length 3 false), (3, .int .i64 (6 - ((f + 1 : Nat) : Int))), (11, .int .i64 5), (12, .int .i64 n), (13, .int .i64 p.2.1), (15, .bool true), (16, .int .i64 p.1)]
   [(1, toksC p.2.2)] 2 114) (fun p => p.1 ≤ items ∧ p.2.1 ≤ b.length ∧ p.2.2.length ≤ 600 ∧ tMany (fun x l => tItem b f x l) (items - p.1) p.2.1 p.2.2 = R) (fun p => items - p.1) ?_ (0, X, l ++ [⟨5 + 1, n, []⟩]) ⟨Nat.zero_le _, hX, by simp; omega, hR.symm⟩ ?_
  ·rintro ⟨i, x, L⟩ ⟨p1, p2, p3, p4⟩
   simp only at p1 p2 p3 p4
   have hLL : (toksC L).length = L.length * 3 := by rw [toksC_length]; omega
   refine wpc_sound (M := MC) (PL := PL0) (CU := noCut) TTok mixed _ _ _ ?_
   conv => whnf
   repeat ((refine fit_i64 ⟨by first | omega | rfl | (dsimp only; omega), by first | omega | rfl | (dsimp only; omega)⟩ ?_); conv => whnf)
   refine ifB_dec (fun j1 => ?_) (fun j1 => ?_)
   ·have c1 : i < items := by simp only at j1; omega
    obtain ⟨m, hm⟩ : ∃ m, items - i = m + 1 := ⟨items - i - 1, by omega⟩
    rw [hm] at p4
    unfold tMany at p4
    have hx := hi' x L p2 p3
    cases hr : tItem b f x L with
    | none =>
     rw [hr] at p4 hx
     simp only at p4
     rw [← p4]
     conv => whnf
     repeat ((first | (refine fit_i64 ⟨by first | omega | rfl | (dsimp only; omega), by first | omega | rfl | (dsimp only; omega)⟩ ?_) | refine ⟨pureL_bys _, ?_⟩ | refine ⟨rfl, ?_⟩ | (refine ⟨⟨rfl, rfl, ?_, pureL_toks _⟩, ?_⟩; (focus (rw [toksC_length]; omega)))); conv => whnf)
     refine ⟨_, _, hx, by first | rfl | simp [noRoIf, noRoL, noRoV, noRoL_bys], ?_⟩
     conv => whnf
     repeat ((first | refine ifB_t ?_ | refine ⟨rfl, ?_⟩ | refine ⟨⟨rfl, rfl⟩, ?_⟩); conv => whnf)
     rfl
    | some r =>
     obtain ⟨L', x'⟩ := r
     obtain ⟨g1, g2⟩ := hinv _ _ _ _ p2 p3 hr
     rw [hr] at p4 hx
     simp only at p4
     simp only [tkC] at hx
     conv => whnf
     repeat ((first | (refine fit_i64 ⟨by first | omega | rfl | (dsimp only; omega), by first | omega | rfl | (dsimp only; omega)⟩ ?_) | refine ⟨pureL_bys _, ?_⟩ | refine ⟨rfl, ?_⟩ | (refine ⟨⟨rfl, rfl, ?_, pureL_toks _⟩, ?_⟩; (focus (rw [toksC_length]; omega)))); conv => whnf)
     refine ⟨_, _, hx, by first | rfl | simp [noRoIf, noRoL, noRoV, noRoL_bys], ?_⟩
     conv => whnf
     repeat ((first | refine ifB_f ?_ | (refine fit_i64 ⟨by first | omega | rfl | (dsimp only; omega), by first | omega | rfl | (dsimp only; omega)⟩ ?_)); conv => whnf)
     refine ⟨(i + 1, x', L'), ⟨by simp only; omega, g1, g2, by simp only; rw [show items - (i + 1) = m by omega]; exact p4⟩, by simp only; omega, weaker_of [(1, 2)] rfl rfl ⟨⟨rfl, rfl, pureL_bys _⟩, ⟨rfl, rfl, rfl, rfl, id⟩, ⟨rfl, rfl⟩, ⟨rfl, rfl⟩, ⟨rfl, rfl⟩, ⟨rfl, rfl⟩, rfl, ⟨rfl, rfl⟩, trivial⟩ ⟨lesP_toks rfl, trivial⟩⟩
   ·have : items - i = 0 := by simp only at j1; omega
    rw [this] at p4
    simp only [tMany] at p4
    rw [← p4]
    conv => whnf
    refine wpc_sound (M := MC) (PL := PL0) (CU := noCut) TTok mixed _ _ _ ?_
    conv => whnf
    repeat ((first | refine ⟨rfl, ?_⟩ | refine ⟨⟨rfl, rfl⟩, ?_⟩ | (refine ⟨⟨rfl, rfl, rfl, ?_, pureL_toks _⟩, ?_⟩; (focus (rw [toksC_length]; omega)))); conv => whnf)
    rfl
  ·exact weaker_of [(1, 2)] rfl rfl ⟨⟨rfl, rfl, pureL_bys _⟩, ⟨rfl, by simp, by simp, rfl, id⟩, ⟨rfl, rfl⟩, ⟨rfl, rfl⟩, ⟨rfl, rfl⟩, ⟨rfl, rfl⟩, rfl, ⟨rfl, rfl⟩, trivial⟩ ⟨by (conv => whnf); exact lesP_toks_nil, trivial⟩
theorem tokens_ok (b : List Int) (hb : Byt b) (hbl : b.length ≤ 32768) : ∀ f : Nat, f ≤ 6 → TItemOk b f
 | 0, hf => tokens_at b hb hbl 0 hf (fun f' h => by omega)
 | f + 1, hf => tokens_at b hb hbl (f + 1) hf (fun f' h => by obtain rfl : f = f' := by omega
                                                              exact tokens_ok b hb hbl f (by omega))
theorem tMany_toks {b : List Int} {g : Nat → List Tok → Option (List Tok × Nat)} (H : ∀ x l l' x', (ToksOk l ∧ ∀ t ∈ l, t.b.length ≤ b.length) → g x l = some (l', x') → ToksOk l' ∧ ∀ t ∈ l', t.b.length ≤ b.length) :
  ∀ (n x : Nat) (l l' : List Tok) (x' : Nat), (ToksOk l ∧ ∀ t ∈ l, t.b.length ≤ b.length) → tMany g n x l = some (l', x') → ToksOk l' ∧ ∀ t ∈ l', t.b.length ≤ b.length
 | 0, x, l, l', x', h1, h => by
  simp only [tMany, Option.some.injEq, Prod.mk.injEq] at h
  obtain ⟨rfl, rfl⟩ := h
  exact h1
 | n + 1, x, l, l', x', h1, h => by
  unfold tMany at h
  split at h
  ·cases h
  exact tMany_toks H n _ _ _ _ (H _ _ _ _ h1 (by assumption)) h
theorem tItem_toks (b : List Int) (hb : Byt b) : ∀ (f x : Nat) (l l' : List Tok) (x' : Nat), (ToksOk l ∧ ∀ t ∈ l, t.b.length ≤ b.length) → tItem b f x l = some (l', x') → ToksOk l' ∧ ∀ t ∈ l', t.b.length ≤ b.length
 | f, x, l, l', x', h1, h => by
  have snoc : ∀ t : Tok, TokOk t → t.b.length ≤ b.length → ToksOk (l ++ [t]) ∧ ∀ s ∈ l ++ [t], s.b.length ≤ b.length := fun t ht htb => pok_snoc (x := 0) (bd := false) h1 ht htb
  rw [tItem_eq] at h
  split at h
  ·cases h
  rename_i hbad
  simp only [tBad, not_or] at hbad
  obtain ⟨M, n, X, e, hM, hn, hX, _⟩ := getR_right b hb x (by omega)
  rw [e] at h
  simp only [Int.toNat_natCast] at h
  unfold tGo at h
  split at h
  ·simp only [Option.some.injEq, Prod.mk.injEq] at h; obtain ⟨rfl, rfl⟩ := h
   exact snoc _ ⟨by simp, ⟨by simp only; omega, by simp only; omega⟩, by simp [Byt]⟩ (by simp)
  split at h
  ·simp only [Option.some.injEq, Prod.mk.injEq] at h; obtain ⟨rfl, rfl⟩ := h
   exact snoc _ ⟨by simp, ⟨by simp only; omega, by simp only; omega⟩, by simp [Byt]⟩ (by simp)
  split at h
  ·split at h
   ·cases h
   ·simp only [Option.some.injEq, Prod.mk.injEq] at h; obtain ⟨rfl, rfl⟩ := h
    exact snoc _ ⟨⟨by simp only; omega, by simp only; omega⟩, by simp, byt_sub hb _ _⟩ (by simp; omega)
  split at h
  ·split at h
   ·cases h
   ·cases f with
    | zero => rename_i hz; simp at hz
    | succ f =>
     rw [tSub_succ] at h
     exact tMany_toks (fun x l l' x' => tItem_toks b hb f x l l' x') _ _ _ _ _ (snoc _ ⟨⟨by simp only; omega, by simp only; omega⟩, ⟨by simp only; omega, by simp only; omega⟩, by simp [Byt]⟩ (by simp)) h
  ·cases h
theorem refDecode_ok (b : List Int) (hb : Byt b) (hbl : b.length ≤ 1099511627776) : ACall Tryd.prog 50 [.ro b.length (bys b)]
  (.tuple [.own (decR validR b).1.length 3 (toksC (decR validR b).1), .bool (decide ((decR validR b).2 = 0))]) [] := by
 have no : (∀ l, ToksOk l → (∀ t ∈ l, t.b.length ≤ 1099511627776) → encR validR l ≠ (b, 0)) → decR validR b = ([], 3) := by
  intro h
  rcases decR_or validR b with e | ⟨l, e1, e2, e3⟩
  ·exact e
  ·refine absurd e2 (h l (decR_toks (u := validR) hb e3) ?_)
   have := pItem_toks b hb 7 ⟨0, [], false⟩ ⟨by intro t ht; simp at ht, by intro t ht; simp at ht⟩
   rw [e3] at this
   intro t ht
   have := this.2 t ht
   omega
 refine ACall.of_does TTok Tryd.func50 rfl Tryd.call50 rfl (wpc_sound (M := MC) (PL := PL0) (CU := noCut) TTok mixed _ _ _ ?_)
 conv => whnf
 refine ifB_dec (fun k1 => ?_) (fun k1 => ?_)
 ·rw [no (fun l _ _ h => by have := (encR_iff _ _ _).1 h; omega)]
  conv => whnf
  repeat ((first | refine ⟨rfl, ?_⟩ | refine ⟨⟨rfl, rfl⟩, ?_⟩); conv => whnf)
  rfl
 have hx := tokens_ok b hb (by omega) 6 (by omega) 0 [] (by omega) (by simp)
 replace hx : ACall Tryd.prog 91 [.ro b.length (bys b), .int .i64 0, .own 0 3 [], .int .i64 0] (.tuple (tkC (tItem b 6 0 []))) [] := hx
 have reads : ∀ l, ToksOk l → (∀ t ∈ l, t.b.length ≤ 1099511627776) → encR validR l = (b, 0) → tItem b 6 0 [] = some (l, b.length) := by
  intro l h1 h2 h
  obtain ⟨q1, q2, q3⟩ := (encR_iff _ _ _).1 h
  have := tItem_reads validR l h1 h2 6 0 l.length b [] [] q2 q1
  simpa using this
 cases hr : tItem b 6 0 [] with
 | none =>
  rw [no (fun l h1 h2 h => by rw [reads l h1 h2 h] at hr; cases hr)]
  rw [hr] at hx
  conv => whnf
  repeat ((first | refine ⟨pureL_bys _, ?_⟩ | refine ⟨rfl, ?_⟩); conv => whnf)
  refine ⟨_, _, hx, by first | rfl | simp [noRoIf, noRoL, noRoV, noRoL_bys], ?_⟩
  conv => whnf
  repeat ((first | refine ifB_t ?_ | refine ⟨rfl, ?_⟩ | refine ⟨⟨rfl, rfl⟩, ?_⟩); conv => whnf)
  rfl
 | some r =>
  obtain ⟨l, x⟩ := r
  obtain ⟨g1, g2⟩ := tItem_inv b hb 6 0 [] l x (by omega) (by simp) hr
  obtain ⟨g3, g4⟩ := tItem_toks b hb 6 0 [] l x ⟨by intro t ht; simp at ht, by intro t ht; simp at ht⟩ hr
  have g5 : ∀ t ∈ l, t.b.length ≤ 1099511627776 := fun t ht => by have := g4 t ht; omega
  rw [hr] at hx
  simp only [tkC] at hx
  have e1 := refEncode_ok l g3 g5
  conv => whnf
  repeat ((first | refine ⟨pureL_bys _, ?_⟩ | refine ⟨rfl, ?_⟩); conv => whnf)
  refine ⟨_, _, hx, by first | rfl | simp [noRoIf, noRoL, noRoV, noRoL_bys], ?_⟩
  conv => whnf
  repeat ((refine ifB_f ?_); conv => whnf)
  refine ifB_dec (fun k2 => ?_) (fun k2 => ?_)
  ·rw [no (fun l' h1 h2 h => by rw [reads l' h1 h2 h] at hr; simp only [Option.some.injEq, Prod.mk.injEq] at hr; omega)]
   conv => whnf
   repeat ((first | refine ⟨rfl, ?_⟩ | refine ⟨⟨rfl, rfl⟩, ?_⟩); conv => whnf)
   rfl
  rcases encR_or validR l with q1 | ⟨a, q1⟩
  ·rw [no (fun l' h1 h2 h => by rw [reads l' h1 h2 h] at hr; simp only [Option.some.injEq, Prod.mk.injEq] at hr; rw [hr.1, q1] at h; simp at h)]
   rw [q1] at e1
   dsimp only at e1
   rw [decide_eq_false (by omega)] at e1
   conv => whnf
   repeat ((first | (refine Or.inl ⟨⟨rfl, ?_⟩, ?_⟩; (focus (first | rfl | (simp; done) | (rw [toksC_length]; omega)))) | refine ⟨rfl, ?_⟩ | (refine And.intro ?_ ?_; (focus (first | (simp only [pureL, pureV, pureL_bys, Bool.and_true, Bool.and_self]; done) | (simp only [pureL, pureV, pureL_bys, pureL_toks, Bool.and_true, Bool.and_self]; done))))); conv => whnf)
   refine ⟨_, _, e1, by first | rfl | simp [noRoIf, noRoL, noRoV, noRoL_bys], ?_⟩
   conv => whnf
   repeat ((first | refine ifB_t ?_ | refine ⟨rfl, ?_⟩ | refine ⟨⟨rfl, rfl⟩, ?_⟩); conv => whnf)
   rfl
  rw [q1] at e1
  dsimp only at e1
  rw [decide_eq_true rfl] at e1
  have n1 := encR_len q1
  have b1 := bytes_ok a b (by omega)
  by_cases hab : a = b
  ·rw [decide_eq_true hab] at b1
   rw [hab] at q1
   rw [decR_enc g3 q1]
   conv => whnf
   repeat ((first | (refine Or.inl ⟨⟨rfl, ?_⟩, ?_⟩; (focus (first | rfl | (simp; done) | (rw [toksC_length]; omega)))) | refine ⟨rfl, ?_⟩ | (refine And.intro ?_ ?_; (focus (first | (simp only [pureL, pureV, pureL_bys, Bool.and_true, Bool.and_self]; done) | (simp only [pureL, pureV, pureL_bys, pureL_toks, Bool.and_true, Bool.and_self]; done))))); conv => whnf)
   refine ⟨_, _, e1, by first | rfl | simp [noRoIf, noRoL, noRoV, noRoL_bys], ?_⟩
   conv => whnf
   repeat ((first | refine ifB_f ?_ | refine ⟨pureL_bys _, ?_⟩ | (refine Or.inl ⟨⟨rfl, ?_⟩, ?_⟩; (focus (first | rfl | (simp; done) | (rw [toksC_length]; omega)))) | refine ⟨rfl, ?_⟩); conv => whnf)
   refine ⟨_, _, b1, by first | rfl | simp [noRoIf, noRoL, noRoV, noRoL_bys], ?_⟩
   conv => whnf
   repeat ((first | refine ifB_f ?_ | refine ⟨rfl, ?_⟩ | (refine ⟨⟨rfl, rfl, rfl, ?_, pureL_toks _⟩, ?_⟩; (focus (rw [toksC_length]; omega)))); conv => whnf)
   rfl
  ·rw [decide_eq_false hab] at b1
   rw [no (fun l' h1 h2 h => by rw [reads l' h1 h2 h] at hr; simp only [Option.some.injEq, Prod.mk.injEq] at hr; rw [hr.1, q1] at h; simp at h; exact hab h)]
   conv => whnf
   repeat ((first | (refine Or.inl ⟨⟨rfl, ?_⟩, ?_⟩; (focus (first | rfl | (simp; done) | (rw [toksC_length]; omega)))) | refine ⟨rfl, ?_⟩ | (refine And.intro ?_ ?_; (focus (first | (simp only [pureL, pureV, pureL_bys, Bool.and_true, Bool.and_self]; done) | (simp only [pureL, pureV, pureL_bys, pureL_toks, Bool.and_true, Bool.and_self]; done))))); conv => whnf)
   refine ⟨_, _, e1, by first | rfl | simp [noRoIf, noRoL, noRoV, noRoL_bys], ?_⟩
   conv => whnf
   repeat ((first | refine ifB_f ?_ | refine ⟨pureL_bys _, ?_⟩ | (refine Or.inl ⟨⟨rfl, ?_⟩, ?_⟩; (focus (first | rfl | (simp; done) | (rw [toksC_length]; omega)))) | refine ⟨rfl, ?_⟩); conv => whnf)
   refine ⟨_, _, b1, by first | rfl | simp [noRoIf, noRoL, noRoV, noRoL_bys], ?_⟩
   conv => whnf
   repeat ((first | refine ifB_t ?_ | refine ifB_f ?_ | refine ⟨rfl, ?_⟩ | refine ⟨⟨rfl, rfl⟩, ?_⟩); conv => whnf)
   rfl
end
section

attribute [local irreducible] ifB fitP Does Weaker
def orElse : List (Nat × List Mode) → (FuncId → List Mode) → FuncId → List Mode
 | [], o, g => o g
 | (f, m) :: r, o, g => cond (Nat.beq g f) m (orElse r o g)
def rowM : Mode := .rf [.rd, .rd]
def MR : FuncId → List Mode := orElse [(86, [rowM, .rd]), (46, [rowM]), (89, [rowM]), (107, [rowM]), (45, [rowM]), (87, [rowM]),
 (109, [rowM]), (49, [rowM]), (106, [rowM, .rd, .rd]), (44, [.rd]), (56, [.rd]), (55, [.rd]), (57, [.rd]), (122, [.rd])] MC
theorem whole_toks (l : List Tok) : (List.drop 0 (toksC l)).take (l.length * 3) = toksC l := by rw [List.drop_zero]; exact List.take_of_length_le (by rw [toksC_length]; omega)
theorem num_ok (n : Int) : ACall Tryd.prog 56 [.int .i64 n] (.agg (tokC ⟨1, n, []⟩)) [] := by
 refine ACall.of_does TTok Tryd.func56 rfl Tryd.call56 rfl (wpc_sound (M := MR) (PL := PL0) (CU := noCut) TTok mixed _ _ _ ?_)
 conv => whnf
 repeat ((first | refine ⟨rfl, ?_⟩ | refine ⟨_, rfl, ?_⟩ | refine ⟨⟨rfl, rfl⟩, ?_⟩ | (refine ⟨⟨rfl, rfl, ?_⟩, ?_⟩; (focus (first | exact Nat.le_of_ble_eq_true rfl | (simp; done))))); conv => whnf)
 rfl
theorem list_ok (n : Int) : ACall Tryd.prog 55 [.int .i64 n] (.agg (tokC ⟨5, n, []⟩)) [] := by
 refine ACall.of_does TTok Tryd.func55 rfl Tryd.call55 rfl (wpc_sound (M := MR) (PL := PL0) (CU := noCut) TTok mixed _ _ _ ?_)
 conv => whnf
 repeat ((first | refine ⟨rfl, ?_⟩ | refine ⟨_, rfl, ?_⟩ | refine ⟨⟨rfl, rfl⟩, ?_⟩ | (refine ⟨⟨rfl, rfl, ?_⟩, ?_⟩; (focus (first | exact Nat.le_of_ble_eq_true rfl | (simp; done))))); conv => whnf)
 rfl
theorem cstr_ok (b : List Int) : ACall Tryd.prog 57 [.ro b.length (bys b)] (.agg (tokC ⟨3, 0, b⟩)) [] := by
 refine ACall.of_does TTok Tryd.func57 rfl Tryd.call57 rfl (wpc_sound (M := MR) (PL := PL0) (CU := noCut) TTok mixed _ _ _ ?_)
 conv => whnf
 repeat ((first | refine ⟨rfl, ?_⟩ | refine ⟨_, rfl, ?_⟩ | refine ⟨⟨rfl, rfl⟩, ?_⟩ | (refine ⟨⟨rfl, rfl, ?_⟩, ?_⟩; (focus (first | assumption | exact pureL_bys _ | exact pureL_toks _))) | (refine ⟨⟨rfl, rfl, ?_⟩, ?_⟩; (focus (first | exact Nat.le_of_ble_eq_true rfl | (simp; done))))); conv => whnf)
 rfl
theorem next_no (l : List Tok) (bad : Bool) (k : Int) (h : bad = true ∨ l = [] ∨ ∃ t r, l = t :: r ∧ t.k ≠ k) :
  ACall Tryd.prog 86 [.ref [.ro l.length (toksC l), .bool bad], .int .i64 k] (.agg (tokC ⟨0, 0, []⟩)) [.ref [.ro l.length (toksC l), .bool true]] := by
 refine ACall.of_does TTok Tryd.func86 rfl Tryd.call86 rfl (wpc_sound (M := MR) (PL := PL0) (CU := noCut) TTok mixed _ _ _ ?_)
 cases bad with
 | true =>
  conv => whnf
  repeat ((first | refine ifB_t ?_ | refine ⟨rfl, ?_⟩ | refine ⟨_, rfl, ?_⟩ | refine ⟨⟨rfl, rfl⟩, ?_⟩ | (refine ⟨⟨rfl, rfl, ?_⟩, ?_⟩; (focus (first | assumption | exact pureL_bys _ | exact pureL_toks _))) | (refine ⟨⟨rfl, rfl, ?_⟩, ?_⟩; (focus (first | exact Nat.le_of_ble_eq_true rfl | (simp; done))))); conv => whnf)
  rfl
 | false =>
  cases l with
  | nil =>
   conv => whnf
   repeat ((first | refine ifB_t ?_ | refine ifB_f ?_ | refine ⟨rfl, ?_⟩ | refine ⟨_, rfl, ?_⟩ | refine ⟨⟨rfl, rfl⟩, ?_⟩ | (refine ⟨⟨rfl, rfl, ?_⟩, ?_⟩; (focus (first | assumption | exact pureL_bys _ | exact pureL_toks _))) | (refine ⟨⟨rfl, rfl, ?_⟩, ?_⟩; (focus (first | exact Nat.le_of_ble_eq_true rfl | (simp; done))))); conv => whnf)
   rfl
  | cons t r =>
   have hk : t.k ≠ k := by
    rcases h with h | h | ⟨t', r', h, hk⟩
    ·cases h
    ·cases h
    ·cases h; exact hk
   conv => whnf
   repeat ((first | refine ifB_f ?_ | (refine ifB_pos (decide_eq_true (by first | omega | rfl | (dsimp only; omega))) ?_) | refine ⟨rfl, ?_⟩ | refine ⟨_, rfl, ?_⟩ | refine ⟨⟨rfl, rfl⟩, ?_⟩ | (refine ⟨⟨rfl, rfl, ?_⟩, ?_⟩; (focus (first | assumption | exact pureL_bys _ | exact pureL_toks _))) | (refine ⟨⟨rfl, rfl, ?_⟩, ?_⟩; (focus (first | exact Nat.le_of_ble_eq_true rfl | (simp; done)))) | (refine And.intro ?_ ?_; (focus (first | (simp [toksC_length]; done) | (simp [toksC_length]; omega))))); conv => whnf)
   rfl
theorem next_yes (t : Tok) (r : List Tok) :
  ACall Tryd.prog 86 [.ref [.ro (t :: r).length (toksC (t :: r)), .bool false], .int .i64 t.k] (.agg (tokC t)) [.ref [.ro r.length (toksC r), .bool false]] := by
 refine ACall.of_does TTok Tryd.func86 rfl Tryd.call86 rfl (wpc_sound (M := MR) (PL := PL0) (CU := noCut) TTok mixed _ _ _ ?_)
 conv => whnf
 repeat ((first | refine ifB_f ?_ | (refine ifB_neg (decide_eq_false (by first | omega | rfl | (dsimp only; omega))) ?_) | refine ⟨rfl, ?_⟩ | refine ⟨_, rfl, ?_⟩ | (refine ⟨⟨rfl, rfl, ?_⟩, ?_⟩; (focus (first | exact Nat.le_of_ble_eq_true rfl | (simp; done)))) | (refine And.intro ?_ ?_; (focus (first | (simp [toksC_length]; done) | (simp [toksC_length]; omega))))); conv => whnf)
 refine ⟨⟨by rw [toksC_length]; exact Nat.mul_comm _ _, by simp [okB]; omega⟩, ?_⟩
 conv => whnf
 repeat ((first | refine ⟨rfl, ?_⟩ | refine ⟨_, rfl, ?_⟩ | refine ⟨⟨rfl, rfl⟩, ?_⟩ | (refine ⟨⟨rfl, rfl, ?_⟩, ?_⟩; (focus (first | assumption | exact pureL_bys _ | exact pureL_toks _))) | (refine ⟨⟨rfl, rfl, ?_⟩, ?_⟩; (focus (first | exact Nat.le_of_ble_eq_true rfl | (simp; done))))); conv => whnf)
 rfl
structure Rw where
 l : List Tok
 bad : Bool
def rowC (r : Rw) : List AV := [.ro r.l.length (toksC r.l), .bool r.bad]
def rNext (k : Int) (r : Rw) : Tok × Rw := if r.bad = true then (⟨0, 0, []⟩, ⟨r.l, true⟩) else match r.l with
 | [] => (⟨0, 0, []⟩, ⟨[], true⟩)
 | t :: q => if t.k = k then (t, ⟨q, false⟩) else (⟨0, 0, []⟩, ⟨t :: q, true⟩)
theorem next_ok (r : Rw) (k : Int) : ACall Tryd.prog 86 [.ref (rowC r), .int .i64 k] (.agg (tokC (rNext k r).1)) [.ref (rowC (rNext k r).2)] := by
 obtain ⟨l, bad⟩ := r
 unfold rNext rowC
 cases bad with
 | true => exact next_no l true k (.inl rfl)
 | false =>
  cases l with
  | nil => exact next_no [] false k (.inr (.inl rfl))
  | cons t q =>
   simp only [Bool.false_eq_true, if_false]
   by_cases h : t.k = k
   ·simp only [if_pos h]
    subst h
    exact next_yes t q
   ·simp only [if_neg h]
    exact next_no (t :: q) false k (.inr (.inr ⟨t, q, rfl, h⟩))
theorem rnum_ok (r : Rw) : ACall Tryd.prog 46 [.ref (rowC r)] (.int .i64 (rNext 1 r).1.n) [.ref (rowC (rNext 1 r).2)] := by
 have h := next_ok r 1
 refine ACall.of_does TTok Tryd.func46 rfl Tryd.call46 rfl (wpc_sound (M := MR) (PL := PL0) (CU := noCut) TTok mixed _ _ _ ?_)
 conv => whnf
 repeat ((first | refine ⟨rfl, ?_⟩ | (refine And.intro ?_ ?_; (focus (first | (simp only [pureL, pureV, pureL_bys, Bool.and_true, Bool.and_self]; done) | (simp only [pureL, pureV, pureL_bys, pureL_toks, Bool.and_true, Bool.and_self]; done))))); conv => whnf)
 refine ⟨_, _, h, by first | rfl | simp [noRoIf, noRoL, noRoV, noRoL_bys], ?_⟩
 conv => whnf
 repeat ((first | refine ⟨rfl, ?_⟩ | refine ⟨_, rfl, ?_⟩ | refine ⟨⟨rfl, rfl⟩, ?_⟩ | (refine ⟨⟨rfl, rfl, ?_⟩, ?_⟩; (focus (first | assumption | exact pureL_bys _ | exact pureL_toks _)))); conv => whnf)
 rfl
theorem rlist_ok (r : Rw) : ACall Tryd.prog 45 [.ref (rowC r)] (.int .i64 (rNext 5 r).1.n) [.ref (rowC (rNext 5 r).2)] := by
 have h := next_ok r 5
 refine ACall.of_does TTok Tryd.func45 rfl Tryd.call45 rfl (wpc_sound (M := MR) (PL := PL0) (CU := noCut) TTok mixed _ _ _ ?_)
 conv => whnf
 repeat ((first | refine ⟨rfl, ?_⟩ | (refine And.intro ?_ ?_; (focus (first | (simp only [pureL, pureV, pureL_bys, Bool.and_true, Bool.and_self]; done) | (simp only [pureL, pureV, pureL_bys, pureL_toks, Bool.and_true, Bool.and_self]; done))))); conv => whnf)
 refine ⟨_, _, h, by first | rfl | simp [noRoIf, noRoL, noRoV, noRoL_bys], ?_⟩
 conv => whnf
 repeat ((first | refine ⟨rfl, ?_⟩ | refine ⟨_, rfl, ?_⟩ | refine ⟨⟨rfl, rfl⟩, ?_⟩ | (refine ⟨⟨rfl, rfl, ?_⟩, ?_⟩; (focus (first | assumption | exact pureL_bys _ | exact pureL_toks _)))); conv => whnf)
 rfl
theorem rstr_ok (r : Rw) : ACall Tryd.prog 89 [.ref (rowC r)] (.ro (rNext 3 r).1.b.length (bys (rNext 3 r).1.b)) [.ref (rowC (rNext 3 r).2)] := by
 have h := next_ok r 3
 refine ACall.of_does TTok Tryd.func89 rfl Tryd.call89 rfl (wpc_sound (M := MR) (PL := PL0) (CU := noCut) TTok mixed _ _ _ ?_)
 conv => whnf
 repeat ((first | refine ⟨rfl, ?_⟩ | (refine And.intro ?_ ?_; (focus (first | (simp only [pureL, pureV, pureL_bys, Bool.and_true, Bool.and_self]; done) | (simp only [pureL, pureV, pureL_bys, pureL_toks, Bool.and_true, Bool.and_self]; done))))); conv => whnf)
 refine ⟨_, _, h, by first | rfl | simp [noRoIf, noRoL, noRoV, noRoL_bys], ?_⟩
 conv => whnf
 repeat ((first | refine ⟨rfl, ?_⟩ | refine ⟨_, rfl, ?_⟩ | (refine ⟨⟨rfl, rfl, ?_⟩, ?_⟩; (focus (first | assumption | exact pureL_bys _ | exact pureL_toks _)))); conv => whnf)
 rfl
theorem rdone_ok (r : Rw) : ACall Tryd.prog 49 [.ref (rowC r)] (.bool (!r.bad && decide (r.l = []))) [.ref (rowC r)] := by
 refine ACall.of_does TTok Tryd.func49 rfl Tryd.call49 rfl (wpc_sound (M := MR) (PL := PL0) (CU := noCut) TTok mixed _ _ _ ?_)
 obtain ⟨l, bad⟩ := r
 cases bad <;> cases l
 all_goals
  conv => whnf
  repeat ((first | refine ifB_t ?_ | refine ifB_f ?_ | refine ⟨rfl, ?_⟩ | refine ⟨_, rfl, ?_⟩ | (refine ⟨⟨rfl, rfl, ?_⟩, ?_⟩; (focus (first | assumption | exact pureL_bys _ | exact pureL_toks _)))); conv => whnf)
  rfl
def rOpen (b : List Int) : Rw := ⟨(decR validR b).1, decide ((decR validR b).2 ≠ 0)⟩
theorem open_ok (b : List Int) (hb : Byt b) (hl : b.length ≤ 1099511627776) : ACall Tryd.prog 44 [.ro b.length (bys b)] (.ref (rowC (rOpen b))) [] := by
 have h := decode_ok b hb hl
 unfold rOpen rowC
 generalize decR validR b = q at h ⊢
 obtain ⟨l, e⟩ := q
 dsimp only at h ⊢
 refine ACall.of_does TTok Tryd.func44 rfl Tryd.call44 rfl (wpc_sound (M := MR) (PL := PL0) (CU := cutAt [100002]) TTok mixed _ _ _ ?_)
 conv => whnf
 repeat ((first | refine ⟨pureL_bys _, ?_⟩ | refine ⟨rfl, ?_⟩); conv => whnf)
 refine ⟨_, _, h, by first | rfl | simp [noRoIf, noRoL, noRoV, noRoL_bys], ?_⟩
 conv => whnf
 refine Does.freeze 0 rfl (Does.weakerTo' (env := [(3, .ro l.length (toksC l)), (4, .int .i64 e)]) (heap := []) (nx := 0) (n := 15) [] rfl rfl ⟨⟨rfl, whole_toks _, pureL_toks _⟩, ⟨rfl, rfl⟩, trivial⟩ trivial (wpc_sound (M := MR) (PL := PL0) (CU := noCut) TTok mixed _ _ _ ?_))
 conv => whnf
 repeat ((first | refine ⟨rfl, ?_⟩ | (refine ⟨⟨rfl, rfl, ?_⟩, ?_⟩; (focus (first | assumption | exact pureL_bys _ | exact pureL_toks _)))); conv => whnf)
 rfl
theorem demsP_bys {H : Heap} : ∀ (l : List Int) (K : List Nat → Prop), K [] → demsP H (bys l) (bys l) K
 | [], K, h => by simpa [demsP, bys] using h
 | x :: l, K, h => by
  simp only [bys, List.map_cons, demsP, demP]
  exact ⟨⟨trivial, trivial⟩, demsP_bys l _ h⟩
theorem takeN_all : ∀ {m : Nat} {cs : List AV}, cs.length = m → takeN m cs = some cs
 | 0, [], _ => rfl
 | m + 1, c :: cs, h => by
  have ih := takeN_all (m := m) (cs := cs) (by simpa using h)
  simp [takeN, ih]
def rArr (m : Nat) (r : Rw) : List Int × Rw := if (rNext 3 r).1.b.length = m then ((rNext 3 r).1.b, (rNext 3 r).2) else (List.replicate m 0, ⟨(rNext 3 r).2.l, true⟩)
theorem rid_ok (r : Rw) : ACall Tryd.prog 87 [.ref (rowC r)] (.agg (bys (rArr 32 r).1)) [.ref (rowC (rArr 32 r).2)] := by
 have h := rstr_ok r
 unfold rArr
 generalize rNext 3 r = q at h ⊢
 obtain ⟨t, l, bad⟩ := q
 dsimp only at h ⊢
 refine ACall.of_does TTok Tryd.func87 rfl Tryd.call87 rfl (wpc_sound (M := MR) (PL := PL0) (CU := noCut) TTok mixed _ _ _ ?_)
 conv => whnf
 repeat ((first | refine ⟨rfl, ?_⟩ | (refine And.intro ?_ ?_; (focus (first | (simp only [pureL, pureV, pureL_bys, Bool.and_true, Bool.and_self]; done) | (simp only [pureL, pureV, pureL_bys, pureL_toks, Bool.and_true, Bool.and_self]; done))))); conv => whnf)
 refine ⟨_, _, h, by first | rfl | simp [noRoIf, noRoL, noRoV, noRoL_bys], ?_⟩
 conv => whnf
 refine ifB_dec (fun k1 => ?_) (fun k1 => ?_)
 ·rw [if_neg (by omega)]
  conv => whnf
  repeat ((first | refine ⟨rfl, ?_⟩ | refine ⟨_, rfl, ?_⟩ | refine ⟨⟨rfl, rfl⟩, ?_⟩ | (refine ⟨⟨rfl, rfl, ?_⟩, ?_⟩; (focus (first | assumption | exact pureL_bys _ | exact pureL_toks _))) | (refine ⟨⟨rfl, rfl, ?_⟩, ?_⟩; (focus (first | exact Nat.le_of_ble_eq_true rfl | (simp; done))))); conv => whnf)
  rfl
 ·rw [if_pos (by omega)]
  conv => whnf
  repeat ((refine And.intro ?_ ?_; (focus (first | (simp [limB, lenB, offB]; done) | (simp [limB, lenB, offB]; omega)))); conv => whnf)
  refine ⟨_, takeN_all (cs := bys t.b) (by simp; omega), ?_⟩
  conv => whnf
  refine ⟨⟨ones_bys _, by simp [cellsA]; omega⟩, ?_⟩
  conv => whnf
  refine ⟨bys t.b, ?_, ?_⟩
  ·show takeN 32 (setN (List.replicate 32 (AV.int .u8 0)) 0 (bys t.b)) = some (bys t.b)
   rw [setN_eq _ _ _ (by simp; omega)]
   have : (List.replicate 32 (AV.int .u8 0)).take 0 ++ bys t.b ++ (List.replicate 32 (AV.int .u8 0)).drop (0 + (bys t.b).length) = bys t.b := by rw [List.drop_eq_nil_of_le (by simp; omega)]; simp
   rw [this]
   exact takeN_all (by simp; omega)
  conv => whnf
  repeat ((first | refine ⟨rfl, ?_⟩ | (refine ⟨⟨rfl, rfl, ?_⟩, ?_⟩; (focus (first | assumption | exact pureL_bys _ | exact pureL_toks _)))); conv => whnf)
  exact demsP_bys _ _ rfl
def rWant (m f : Int) (r : Rw) : Rw :=
 if (rNext 5 r).1.n ≠ m then ⟨(rNext 5 r).2.l, true⟩ else if (rNext 1 (rNext 5 r).2).1.n ≠ f then ⟨(rNext 1 (rNext 5 r).2).2.l, true⟩ else (rNext 1 (rNext 5 r).2).2
theorem rwant_ok (r : Rw) (m f : Int) : ACall Tryd.prog 106 [.ref (rowC r), .int .i64 m, .int .i64 f] (.tuple []) [.ref (rowC (rWant m f r))] := by
 have h := rlist_ok r
 have h2 := rnum_ok (rNext 5 r).2
 unfold rWant
 generalize rNext 5 r = q at h h2 ⊢
 obtain ⟨t, r1⟩ := q
 dsimp only at h h2 ⊢
 generalize rNext 1 r1 = q at h2 ⊢
 obtain ⟨t2, r2⟩ := q
 dsimp only at h2 ⊢
 refine ACall.of_does TTok Tryd.func106 rfl Tryd.call106 rfl (wpc_sound (M := MR) (PL := PL0) (CU := noCut) TTok mixed _ _ _ ?_)
 conv => whnf
 repeat ((first | refine ⟨rfl, ?_⟩ | (refine And.intro ?_ ?_; (focus (first | (simp only [pureL, pureV, pureL_bys, Bool.and_true, Bool.and_self]; done) | (simp only [pureL, pureV, pureL_bys, pureL_toks, Bool.and_true, Bool.and_self]; done))))); conv => whnf)
 refine ⟨_, _, h, by first | rfl | simp [noRoIf, noRoL, noRoV, noRoL_bys], ?_⟩
 conv => whnf
 refine ifB_dec (fun k1 => ?_) (fun k1 => ?_)
 ·rw [if_pos k1]
  conv => whnf
  repeat ((first | refine ifB_t ?_ | refine ⟨rfl, ?_⟩ | (refine ⟨⟨rfl, rfl, ?_⟩, ?_⟩; (focus (first | assumption | exact pureL_bys _ | exact pureL_toks _))) | (refine ⟨⟨rfl, rfl, ?_⟩, ?_⟩; (focus (first | exact Nat.le_of_ble_eq_true rfl | (simp; done))))); conv => whnf)
  rfl
 ·rw [if_neg k1]
  conv => whnf
  repeat ((first | refine ifB_f ?_ | refine ⟨rfl, ?_⟩ | (refine And.intro ?_ ?_; (focus (first | (simp only [pureL, pureV, pureL_bys, Bool.and_true, Bool.and_self]; done) | (simp only [pureL, pureV, pureL_bys, pureL_toks, Bool.and_true, Bool.and_self]; done))))); conv => whnf)
  refine ⟨_, _, h2, by first | rfl | simp [noRoIf, noRoL, noRoV, noRoL_bys], ?_⟩
  conv => whnf
  repeat ((refine ifB_f ?_); conv => whnf)
  refine ifB_dec (fun k2 => ?_) (fun k2 => ?_)
  ·rw [if_pos k2]
   conv => whnf
   repeat ((first | refine ⟨rfl, ?_⟩ | (refine ⟨⟨rfl, rfl, ?_⟩, ?_⟩; (focus (first | assumption | exact pureL_bys _ | exact pureL_toks _))) | (refine ⟨⟨rfl, rfl, ?_⟩, ?_⟩; (focus (first | exact Nat.le_of_ble_eq_true rfl | (simp; done))))); conv => whnf)
   rfl
  ·rw [if_neg k2]
   conv => whnf
   repeat ((first | refine ⟨rfl, ?_⟩ | (refine ⟨⟨rfl, rfl, ?_⟩, ?_⟩; (focus (first | assumption | exact pureL_bys _ | exact pureL_toks _)))); conv => whnf)
   rfl
theorem rtext_ok (r : Rw) (hb : Byt (rNext 4 r).1.b) : ACall Tryd.prog 107 [.ref (rowC r)] (.str (rNext 4 r).1.b) [.ref (rowC (rNext 4 r).2)] := by
 have h := next_ok r 4
 generalize rNext 4 r = q at h hb ⊢
 refine ACall.of_does TTok Tryd.func107 rfl Tryd.call107 rfl (wpc_sound (M := MR) (PL := PL0) (CU := noCut) TTok mixed _ _ _ ?_)
 conv => whnf
 repeat ((first | refine ⟨rfl, ?_⟩ | (refine And.intro ?_ ?_; (focus (first | (simp only [pureL, pureV, pureL_bys, Bool.and_true, Bool.and_self]; done) | (simp only [pureL, pureV, pureL_bys, pureL_toks, Bool.and_true, Bool.and_self]; done))))); conv => whnf)
 refine ⟨_, _, h, by first | rfl | simp [noRoIf, noRoL, noRoV, noRoL_bys], ?_⟩
 conv => whnf
 repeat ((first | refine ⟨_, rfl, ?_⟩ | (refine And.intro ?_ ?_; (focus (first | (simp [limB, lenB, offB]; done) | (simp [limB, lenB, offB]; omega))))); conv => whnf)
 refine ⟨q.1.b, ⟨rfl, fun x hx => ⟨(hb x hx).1, by have := (hb x hx).2; omega⟩⟩, ?_⟩
 conv => whnf
 repeat ((first | refine ⟨rfl, ?_⟩ | (refine ⟨⟨rfl, rfl, ?_⟩, ?_⟩; (focus (first | assumption | exact pureL_bys _ | exact pureL_toks _)))); conv => whnf)
 rfl
theorem rsig_ok (r : Rw) : ACall Tryd.prog 109 [.ref (rowC r)] (.agg (bys (rArr 64 r).1)) [.ref (rowC (rArr 64 r).2)] := by
 have h := rstr_ok r
 unfold rArr
 generalize rNext 3 r = q at h ⊢
 obtain ⟨t, l, bad⟩ := q
 dsimp only at h ⊢
 refine ACall.of_does TTok Tryd.func109 rfl Tryd.call109 rfl (wpc_sound (M := MR) (PL := PL0) (CU := noCut) TTok mixed _ _ _ ?_)
 conv => whnf
 repeat ((first | refine ⟨rfl, ?_⟩ | (refine And.intro ?_ ?_; (focus (first | (simp only [pureL, pureV, pureL_bys, Bool.and_true, Bool.and_self]; done) | (simp only [pureL, pureV, pureL_bys, pureL_toks, Bool.and_true, Bool.and_self]; done))))); conv => whnf)
 refine ⟨_, _, h, by first | rfl | simp [noRoIf, noRoL, noRoV, noRoL_bys], ?_⟩
 conv => whnf
 refine ifB_dec (fun k1 => ?_) (fun k1 => ?_)
 ·rw [if_neg (by omega)]
  conv => whnf
  repeat ((first | refine ⟨rfl, ?_⟩ | refine ⟨_, rfl, ?_⟩ | refine ⟨⟨rfl, rfl⟩, ?_⟩ | (refine ⟨⟨rfl, rfl, ?_⟩, ?_⟩; (focus (first | assumption | exact pureL_bys _ | exact pureL_toks _))) | (refine ⟨⟨rfl, rfl, ?_⟩, ?_⟩; (focus (first | exact Nat.le_of_ble_eq_true rfl | (simp; done))))); conv => whnf)
  rfl
 ·rw [if_pos (by omega)]
  conv => whnf
  repeat ((refine And.intro ?_ ?_; (focus (first | (simp [limB, lenB, offB]; done) | (simp [limB, lenB, offB]; omega)))); conv => whnf)
  refine ⟨_, takeN_all (cs := bys t.b) (by simp; omega), ?_⟩
  conv => whnf
  refine ⟨⟨ones_bys _, by simp [cellsA]; omega⟩, ?_⟩
  conv => whnf
  refine ⟨bys t.b, ?_, ?_⟩
  ·show takeN 64 (setN (List.replicate 64 (AV.int .u8 0)) 0 (bys t.b)) = some (bys t.b)
   rw [setN_eq _ _ _ (by simp; omega)]
   have : (List.replicate 64 (AV.int .u8 0)).take 0 ++ bys t.b ++ (List.replicate 64 (AV.int .u8 0)).drop (0 + (bys t.b).length) = bys t.b := by rw [List.drop_eq_nil_of_le (by simp; omega)]; simp
   rw [this]
   exact takeN_all (by simp; omega)
  conv => whnf
  repeat ((first | refine ⟨rfl, ?_⟩ | (refine ⟨⟨rfl, rfl, ?_⟩, ?_⟩; (focus (first | assumption | exact pureL_bys _ | exact pureL_toks _)))); conv => whnf)
  exact demsP_bys _ _ rfl
end
section

structure Ent where
 au : List Int
 seq : Int
 prev : List Int
 stamp : Int
 kind : Int
 key : List Int
 val : List Int
 sig : List Int
 deriving DecidableEq
def c32 (l : List Int) (r : List AV) : List AV := .int .u8 (l.getD 0 0) :: .int .u8 (l.getD 1 0) :: .int .u8 (l.getD 2 0) :: .int .u8 (l.getD 3 0) :: .int .u8 (l.getD 4 0) :: .int .u8 (l.getD 5 0) :: .int .u8 (l.getD 6 0) :: .int .u8 (l.getD 7 0) :: .int .u8 (l.getD 8 0) :: .int .u8 (l.getD 9 0) :: .int .u8 (l.getD 10 0) :: .int .u8 (l.getD 11 0) :: .int .u8 (l.getD 12 0) :: .int .u8 (l.getD 13 0) :: .int .u8 (l.getD 14 0) :: .int .u8 (l.getD 15 0) :: .int .u8 (l.getD 16 0) :: .int .u8 (l.getD 17 0) :: .int .u8 (l.getD 18 0) :: .int .u8 (l.getD 19 0) :: .int .u8 (l.getD 20 0) :: .int .u8 (l.getD 21 0) :: .int .u8 (l.getD 22 0) :: .int .u8 (l.getD 23 0) :: .int .u8 (l.getD 24 0) :: .int .u8 (l.getD 25 0) :: .int .u8 (l.getD 26 0) :: .int .u8 (l.getD 27 0) :: .int .u8 (l.getD 28 0) :: .int .u8 (l.getD 29 0) :: .int .u8 (l.getD 30 0) :: .int .u8 (l.getD 31 0) :: r
def c64 (l : List Int) (r : List AV) : List AV := .int .u8 (l.getD 0 0) :: .int .u8 (l.getD 1 0) :: .int .u8 (l.getD 2 0) :: .int .u8 (l.getD 3 0) :: .int .u8 (l.getD 4 0) :: .int .u8 (l.getD 5 0) :: .int .u8 (l.getD 6 0) :: .int .u8 (l.getD 7 0) :: .int .u8 (l.getD 8 0) :: .int .u8 (l.getD 9 0) :: .int .u8 (l.getD 10 0) :: .int .u8 (l.getD 11 0) :: .int .u8 (l.getD 12 0) :: .int .u8 (l.getD 13 0) :: .int .u8 (l.getD 14 0) :: .int .u8 (l.getD 15 0) :: .int .u8 (l.getD 16 0) :: .int .u8 (l.getD 17 0) :: .int .u8 (l.getD 18 0) :: .int .u8 (l.getD 19 0) :: .int .u8 (l.getD 20 0) :: .int .u8 (l.getD 21 0) :: .int .u8 (l.getD 22 0) :: .int .u8 (l.getD 23 0) :: .int .u8 (l.getD 24 0) :: .int .u8 (l.getD 25 0) :: .int .u8 (l.getD 26 0) :: .int .u8 (l.getD 27 0) :: .int .u8 (l.getD 28 0) :: .int .u8 (l.getD 29 0) :: .int .u8 (l.getD 30 0) :: .int .u8 (l.getD 31 0) :: .int .u8 (l.getD 32 0) :: .int .u8 (l.getD 33 0) :: .int .u8 (l.getD 34 0) :: .int .u8 (l.getD 35 0) :: .int .u8 (l.getD 36 0) :: .int .u8 (l.getD 37 0) :: .int .u8 (l.getD 38 0) :: .int .u8 (l.getD 39 0) :: .int .u8 (l.getD 40 0) :: .int .u8 (l.getD 41 0) :: .int .u8 (l.getD 42 0) :: .int .u8 (l.getD 43 0) :: .int .u8 (l.getD 44 0) :: .int .u8 (l.getD 45 0) :: .int .u8 (l.getD 46 0) :: .int .u8 (l.getD 47 0) :: .int .u8 (l.getD 48 0) :: .int .u8 (l.getD 49 0) :: .int .u8 (l.getD 50 0) :: .int .u8 (l.getD 51 0) :: .int .u8 (l.getD 52 0) :: .int .u8 (l.getD 53 0) :: .int .u8 (l.getD 54 0) :: .int .u8 (l.getD 55 0) :: .int .u8 (l.getD 56 0) :: .int .u8 (l.getD 57 0) :: .int .u8 (l.getD 58 0) :: .int .u8 (l.getD 59 0) :: .int .u8 (l.getD 60 0) :: .int .u8 (l.getD 61 0) :: .int .u8 (l.getD 62 0) :: .int .u8 (l.getD 63 0) :: r
def roW (l : List Int) : AV := .ro l.length (List.take (l.length * 1) (List.drop 0 (bys l)))
theorem roW_eq (l : List Int) : roW l = .ro l.length (bys l) := by unfold roW; rw [whole_bys]
def exN : Nat → Nat → List Int → List AV → List AV
 | 0, _, _, r => r
 | n + 1, i, l, r => .int .u8 (l.getD i 0) :: exN n (i + 1) l r
theorem exN_eq : ∀ (n i : Nat) (l : List Int) (r : List AV), i + n = l.length → exN n i l r = bys (l.drop i) ++ r
 | 0, i, l, r, h => by rw [exN, List.drop_eq_nil_of_le (by omega)]; rfl
 | n + 1, i, l, r, h => by
  have hi : i < l.length := by omega
  rw [exN, exN_eq n (i + 1) l r (by omega), List.drop_eq_getElem_cons hi, List.getD_eq_getElem?_getD, List.getElem?_eq_getElem hi]
  rfl
theorem c32_eq {l : List Int} (h : l.length = 32) (r : List AV) : c32 l r = bys l ++ r := (show c32 l r = exN 32 0 l r from rfl).trans (exN_eq 32 0 l r (by omega))
set_option maxRecDepth 4000 in
theorem c64_eq {l : List Int} (h : l.length = 64) (r : List AV) : c64 l r = bys l ++ r := (show c64 l r = exN 64 0 l r from rfl).trans (exN_eq 64 0 l r (by omega))
theorem c32_map {l : List Int} (h : l.length = 32) : c32 l [] = l.map (AV.int .u8) := by rw [c32_eq h, List.append_nil]; rfl
theorem c64_map {l : List Int} (h : l.length = 64) : c64 l [] = l.map (AV.int .u8) := by rw [c64_eq h, List.append_nil]; rfl
theorem okB_none (n : Nat) : okB none none n := by simp [okB]
theorem cut32 {l : List Int} (h : l.length = 32) (r : List AV) : cutB ((c32 l r).take (32 * 1)) none none 1 = bys l := by
 rw [c32_eq h, List.take_append_of_le_length (by simp [h]), List.take_of_length_le (by simp [h])]
 simp [cutB, offB, lenB, endB, h]
theorem cut64 {l : List Int} (h : l.length = 64) (r : List AV) : cutB ((c64 l r).take (64 * 1)) none none 1 = bys l := by
 rw [c64_eq h, List.take_append_of_le_length (by simp [h]), List.take_of_length_le (by simp [h])]
 simp [cutB, offB, lenB, endB, h]
theorem c32_one (l : List Int) (r : List AV) : (c32 l r).all AV.one = r.all AV.one := by simp [c32, AV.one]
theorem c64_one (l : List Int) (r : List AV) : (c64 l r).all AV.one = r.all AV.one := by simp [c64, AV.one]
theorem c32_pure (l : List Int) (r : List AV) : pureL (c32 l r) = pureL r := by simp [c32, pureL, pureV]
theorem c64_pure (l : List Int) (r : List AV) : pureL (c64 l r) = pureL r := by simp [c64, pureL, pureV]
theorem c32_frz (i : Nat) (zs : List AV) (l : List Int) (r : List AV) : frzL i zs (c32 l r) = c32 l (frzL i zs r) := by simp [c32, frzL, frzV]
theorem c64_frz (i : Nat) (zs : List AV) (l : List Int) (r : List AV) : frzL i zs (c64 l r) = c64 l (frzL i zs r) := by simp [c64, frzL, frzV]
theorem c32_app (l : List Int) (r q : List AV) : c32 l r ++ q = c32 l (r ++ q) := rfl
theorem c64_app (l : List Int) (r q : List AV) : c64 l r ++ q = c64 l (r ++ q) := rfl
theorem c32_les {o : Nat → Option Nat} {l : List Int} {r q : List AV} (h : lesP o r q) : lesP o (c32 l r) (c32 l q) := by
 simp only [c32, lesP, leP, and_self, true_and]; exact h
theorem c64_les {o : Nat → Option Nat} {l : List Int} {r q : List AV} (h : lesP o r q) : lesP o (c64 l r) (c64 l q) := by
 simp only [c64, lesP, leP, and_self, true_and]; exact h
theorem c32_len (l : List Int) (r : List AV) : (c32 l r).length = 32 + r.length := by simp [c32]; omega
theorem c64_len (l : List Int) (r : List AV) : (c64 l r).length = 64 + r.length := by simp [c64]; omega
def opC (e : Ent) : List AV := [.int .i64 e.kind, .str e.key, .ro e.val.length (bys e.val)]
def entC (e : Ent) : List AV := c32 e.au (.int .i64 e.seq :: c32 e.prev (.int .i64 e.stamp :: .int .i64 e.kind :: .str e.key :: .ro e.val.length (bys e.val) :: c64 e.sig []))
structure EntOk (e : Ent) : Prop where
 au : Byt e.au ∧ e.au.length = 32
 seq : -9223372036854775808 ≤ e.seq ∧ e.seq < 9223372036854775808
 prev : Byt e.prev ∧ e.prev.length = 32
 stamp : -9223372036854775808 ≤ e.stamp ∧ e.stamp < 9223372036854775808
 kind : -9223372036854775808 ≤ e.kind ∧ e.kind < 9223372036854775808
 key : Byt e.key ∧ e.key.length ≤ 9223372036854775807
 val : Byt e.val ∧ e.val.length ≤ 9223372036854775807
 sig : Byt e.sig ∧ e.sig.length = 64
def z32 : List Int := List.replicate 32 0
def z64 : List Int := List.replicate 64 0
def ent0 : Ent := ⟨z32, 0, z32, 0, 0, [], [], z64⟩
theorem entC_length (e : Ent) : (entC e).length = 133 := by simp [entC, c32_len, c64_len]
theorem entC_one (e : Ent) : (entC e).all AV.one = true := by simp [entC, c32_one, c64_one, AV.one]
theorem entC_pure (e : Ent) : pureL (entC e) = true := by simp [entC, c32_pure, c64_pure, pureL, pureV, pureL_bys]
theorem entC_frz (i : Nat) (zs : List AV) (e : Ent) : frzL i zs (entC e) = entC e := by simp [entC, c32_frz, c64_frz, frzL, frzV, frzL_bys]
theorem takeN_app : ∀ {m : Nat} {a b : List AV}, a.length = m → takeN m (a ++ b) = some a
 | 0, [], _, _ => by simp [takeN]
 | m + 1, c :: cs, b, h => by
  have ih := takeN_app (m := m) (a := cs) (b := b) (by simpa using h)
  simp [takeN, ih]
theorem lesP_ent {o : Nat → Option Nat} (e : Ent) {q : List AV} (h : q = entC e) : lesP o (entC e) q := by
 subst h
 unfold entC
 refine c32_les ⟨⟨rfl, rfl⟩, c32_les ⟨⟨rfl, rfl⟩, ⟨rfl, rfl⟩, rfl, ⟨rfl, rfl, pureL_bys _⟩, c64_les trivial⟩⟩
theorem lesP_app'' {o : Nat → Option Nat} : ∀ {a a' b b' : List AV}, lesP o a a' → lesP o b b' → lesP o (a ++ b) (a' ++ b')
 | [], [], _, _, _, h => h
 | [], _ :: _, _, _, h, _ => h.elim
 | _ :: _, [], _, _, h, _ => h.elim
 | x :: a, y :: a', b, b', h, k => ⟨h.1, lesP_app'' h.2 k⟩
theorem c32_dems {H : Heap} {l : List Int} {r q : List AV} {K : List Nat → Prop} (h : demsP H r q K) : demsP H (c32 l r) (c32 l q) K := by
 simp only [c32, demsP, demP, and_self, true_and, List.nil_append]; exact h
set_option maxRecDepth 4000 in
theorem c64_dems {H : Heap} {l : List Int} {r q : List AV} {K : List Nat → Prop} (h : demsP H r q K) : demsP H (c64 l r) (c64 l q) K := by
 simp only [c64, demsP, demP, and_self, true_and, List.nil_append]; exact h
theorem ent_dems {H : Heap} (e : Ent) {K : List Nat → Prop} (h : K []) : demsP H (entC e) (entC e) K := by
 unfold entC
 refine c32_dems ?_
 simp only [demsP, demP, and_self, true_and, List.nil_append]
 refine c32_dems ?_
 simp only [demsP, demP, and_self, true_and, List.nil_append]
 refine ⟨pureL_bys _, c64_dems ?_⟩
 simpa only [demsP] using h
theorem ent_int_dems {H : Heap} {e : Ent} {n : Int} {zs : List AV} {K : List Nat → Prop} (hz : zs = entC e) (h : K []) : demsP H [.tuple [.agg (entC e), .int .i64 n]] [.tuple [.agg zs, .int .i64 n]] K := by
 subst hz
 simp only [demsP, demP]
 refine ent_dems e ?_
 simpa only [and_self, true_and, List.nil_append] using h
def entV (e : Ent) (v : AV) : List AV := c32 e.au (.int .i64 e.seq :: c32 e.prev (.int .i64 e.stamp :: .int .i64 e.kind :: .str e.key :: v :: c64 e.sig []))
def zeroE : List AV := entV ent0 .nil
theorem ent0_dems {H : Heap} {K : List Nat → Prop} (h : K []) : demsP H (entC ent0) zeroE K := by
 unfold entC zeroE entV
 refine c32_dems ?_
 simp only [demsP, demP, and_self, true_and, List.nil_append]
 refine c32_dems ?_
 simp only [demsP, demP, and_self, true_and, List.nil_append]
 refine ⟨⟨rfl, rfl⟩, c64_dems ?_⟩
 simpa only [demsP] using h
theorem ent0_int_dems {H : Heap} {n : Int} {zs : List AV} {K : List Nat → Prop} (hz : zs = zeroE) (h : K []) : demsP H [.tuple [.agg (entC ent0), .int .i64 n]] [.tuple [.agg zs, .int .i64 n]] K := by
 subst hz
 simp only [demsP, demP]
 refine ent0_dems ?_
 simpa only [and_self, true_and, List.nil_append] using h
theorem rArr_len (m : Nat) (r : Rw) : (rArr m r).1.length = m := by
 unfold rArr
 split
 ·assumption
 ·simp
theorem rid_ok' (r : Rw) : ACall Tryd.prog 87 [.ref (rowC r)] (.agg (c32 (rArr 32 r).1 [])) [.ref (rowC (rArr 32 r).2)] := by
 rw [c32_eq (rArr_len 32 r), List.append_nil]; exact rid_ok r
theorem rsig_ok' (r : Rw) : ACall Tryd.prog 109 [.ref (rowC r)] (.agg (c64 (rArr 64 r).1 [])) [.ref (rowC (rArr 64 r).2)] := by
 rw [c64_eq (rArr_len 64 r), List.append_nil]; exact rsig_ok r
end
section
--KR
attribute [local irreducible] ifB fitP Does Weaker
def opR (e : Ent) : Bool := decide (1 ≤ e.key.length) && decide (e.key.length ≤ 16) && validR e.key && ((decide (e.kind = 1) && decide (e.val.length ≤ 40)) || (decide (e.kind = 2) && decide (e.val.length = 0)))
def entR (e : Ent) : Bool := decide (1 ≤ e.seq) && decide (e.seq ≤ 200) && (decide (e.seq ≠ 1) || decide (e.prev = z32)) && decide (0 ≤ e.stamp) && opR e
def ME : FuncId → List Mode := orElse [(99, [.rd]), (68, [.rd]), (114, [.rd, .rd]), (94, [.rd, .rd]), (61, [.rd]), (999999, [.rd]), (90, [.rd]), (999999, [.rd]), (999999, [.rd]),
 (97, [.rd, .rd]), (999999, [.rd, .rd]), (65, [.rd]), (60, [.rd]), (88, [.rd]), (999999, [.rd])] MR
theorem dt {p : Prop} [Decidable p] (h : p) : decide p = true := decide_eq_true h
theorem df {p : Prop} [Decidable p] (h : ¬ p) : decide p = false := decide_eq_false h
theorem op_ok (e : Ent) (hk : Byt e.key) (hl : e.key.length ≤ 1099511627776) (hv : e.val.length ≤ 1099511627776) : ACall Tryd.prog 99 [.agg (opC e)] (.bool (opR e)) [] := by
 have hu := utf8_ok e.key hk hl
 unfold opR
 refine ACall.of_does TTok Tryd.func99 rfl Tryd.call99 rfl (wpc_sound (M := MR) (PL := PL0) (CU := noCut) TTok mixed _ _ _ ?_)
 by_cases c1 : 1 ≤ e.key.length
 ·rw [dt c1]
  by_cases c2 : e.key.length ≤ 16
  ·rw [dt c2]
   cases c3 : validR e.key <;> rw [c3] at hu
   ·conv => whnf
    repeat ((first | refine ifB_f ?_ | (refine ifB_neg (decide_eq_false (by first | omega | rfl | (dsimp only; omega))) ?_) | refine ⟨pureL_bys _, ?_⟩ | (refine Or.inl ⟨⟨rfl, ?_⟩, ?_⟩; (focus (first | rfl | (simp; done) | (rw [toksC_length]; omega)))) | refine ⟨rfl, ?_⟩ | refine ⟨_, rfl, ?_⟩); conv => whnf)
    refine ⟨_, _, hu, by first | rfl | simp [noRoIf, noRoL, noRoV, noRoL_bys], ?_⟩
    conv => whnf
    repeat ((first | refine ifB_t ?_ | refine ifB_f ?_ | refine ⟨rfl, ?_⟩); conv => whnf)
    rfl
   ·by_cases c4 : e.kind = 1
    ·rw [dt c4, df (show ¬ e.kind = 2 by omega)]
     by_cases c5 : e.val.length ≤ 40
     ·rw [dt c5]
      conv => whnf
      repeat ((first | refine ifB_f ?_ | (refine ifB_neg (decide_eq_false (by first | omega | rfl | (dsimp only; omega))) ?_) | refine ⟨pureL_bys _, ?_⟩ | (refine Or.inl ⟨⟨rfl, ?_⟩, ?_⟩; (focus (first | rfl | (simp; done) | (rw [toksC_length]; omega)))) | refine ⟨rfl, ?_⟩ | refine ⟨_, rfl, ?_⟩); conv => whnf)
      refine ⟨_, _, hu, by first | rfl | simp [noRoIf, noRoL, noRoV, noRoL_bys], ?_⟩
      conv => whnf
      repeat ((first | refine ifB_t ?_ | refine ifB_f ?_ | (refine ifB_pos (decide_eq_true (by first | omega | rfl | (dsimp only; omega))) ?_) | refine ⟨rfl, ?_⟩ | refine ⟨_, rfl, ?_⟩); conv => whnf)
      rfl
     ·rw [df c5]
      conv => whnf
      repeat ((first | refine ifB_f ?_ | (refine ifB_neg (decide_eq_false (by first | omega | rfl | (dsimp only; omega))) ?_) | refine ⟨pureL_bys _, ?_⟩ | (refine Or.inl ⟨⟨rfl, ?_⟩, ?_⟩; (focus (first | rfl | (simp; done) | (rw [toksC_length]; omega)))) | refine ⟨rfl, ?_⟩ | refine ⟨_, rfl, ?_⟩); conv => whnf)
      refine ⟨_, _, hu, by first | rfl | simp [noRoIf, noRoL, noRoV, noRoL_bys], ?_⟩
      conv => whnf
      repeat ((first | refine ifB_t ?_ | refine ifB_f ?_ | (refine ifB_neg (decide_eq_false (by first | omega | rfl | (dsimp only; omega))) ?_) | (refine ifB_pos (decide_eq_true (by first | omega | rfl | (dsimp only; omega))) ?_) | refine ⟨rfl, ?_⟩ | refine ⟨_, rfl, ?_⟩); conv => whnf)
      rfl
    ·rw [df c4]
     by_cases c6 : e.kind = 2
     ·rw [dt c6]
      by_cases c7 : e.val.length = 0
      ·rw [dt c7]
       conv => whnf
       repeat ((first | refine ifB_f ?_ | (refine ifB_neg (decide_eq_false (by first | omega | rfl | (dsimp only; omega))) ?_) | refine ⟨pureL_bys _, ?_⟩ | (refine Or.inl ⟨⟨rfl, ?_⟩, ?_⟩; (focus (first | rfl | (simp; done) | (rw [toksC_length]; omega)))) | refine ⟨rfl, ?_⟩ | refine ⟨_, rfl, ?_⟩); conv => whnf)
       refine ⟨_, _, hu, by first | rfl | simp [noRoIf, noRoL, noRoV, noRoL_bys], ?_⟩
       conv => whnf
       repeat ((first | refine ifB_t ?_ | refine ifB_f ?_ | (refine ifB_neg (decide_eq_false (by first | omega | rfl | (dsimp only; omega))) ?_) | (refine ifB_pos (decide_eq_true (by first | omega | rfl | (dsimp only; omega))) ?_) | refine ⟨_, rfl, ?_⟩); conv => whnf)
       exact ⟨dt (by omega), rfl⟩
      ·rw [df c7]
       conv => whnf
       repeat ((first | refine ifB_f ?_ | (refine ifB_neg (decide_eq_false (by first | omega | rfl | (dsimp only; omega))) ?_) | refine ⟨pureL_bys _, ?_⟩ | (refine Or.inl ⟨⟨rfl, ?_⟩, ?_⟩; (focus (first | rfl | (simp; done) | (rw [toksC_length]; omega)))) | refine ⟨rfl, ?_⟩ | refine ⟨_, rfl, ?_⟩); conv => whnf)
       refine ⟨_, _, hu, by first | rfl | simp [noRoIf, noRoL, noRoV, noRoL_bys], ?_⟩
       conv => whnf
       repeat ((first | refine ifB_t ?_ | refine ifB_f ?_ | (refine ifB_neg (decide_eq_false (by first | omega | rfl | (dsimp only; omega))) ?_) | (refine ifB_pos (decide_eq_true (by first | omega | rfl | (dsimp only; omega))) ?_) | refine ⟨_, rfl, ?_⟩); conv => whnf)
       exact ⟨df (by omega), rfl⟩
     ·rw [df c6]
      conv => whnf
      repeat ((first | refine ifB_f ?_ | (refine ifB_neg (decide_eq_false (by first | omega | rfl | (dsimp only; omega))) ?_) | refine ⟨pureL_bys _, ?_⟩ | (refine Or.inl ⟨⟨rfl, ?_⟩, ?_⟩; (focus (first | rfl | (simp; done) | (rw [toksC_length]; omega)))) | refine ⟨rfl, ?_⟩ | refine ⟨_, rfl, ?_⟩); conv => whnf)
      refine ⟨_, _, hu, by first | rfl | simp [noRoIf, noRoL, noRoV, noRoL_bys], ?_⟩
      conv => whnf
      repeat ((first | refine ifB_f ?_ | (refine ifB_neg (decide_eq_false (by first | omega | rfl | (dsimp only; omega))) ?_) | refine ⟨rfl, ?_⟩ | refine ⟨_, rfl, ?_⟩); conv => whnf)
      rfl
  ·rw [df c2]
   conv => whnf
   repeat ((first | refine ifB_t ?_ | refine ifB_f ?_ | (refine ifB_neg (decide_eq_false (by first | omega | rfl | (dsimp only; omega))) ?_) | (refine ifB_pos (decide_eq_true (by first | omega | rfl | (dsimp only; omega))) ?_) | refine ⟨rfl, ?_⟩ | refine ⟨_, rfl, ?_⟩); conv => whnf)
   rfl
 ·rw [df c1]
  conv => whnf
  repeat ((first | refine ifB_t ?_ | (refine ifB_pos (decide_eq_true (by first | omega | rfl | (dsimp only; omega))) ?_) | refine ⟨rfl, ?_⟩ | refine ⟨_, rfl, ?_⟩); conv => whnf)
  rfl
structure EntS (e : Ent) : Prop extends EntOk e where
 key' : e.key.length ≤ 1000000000
 val' : e.val.length ≤ 1000000000
theorem check_entry_ok (e : Ent) (he : EntS e) : ACall Tryd.prog 68 [.agg (entC e)] (.int .i64 (if entR e then 0 else 1)) [] := by
 have ho := op_ok e he.key.1 (by have := he.key'; omega) (by have := he.val'; omega)
 unfold entR
 refine ACall.of_does TTok Tryd.func68 rfl Tryd.call68 rfl (wpc_sound (M := ME) (PL := PL0) (CU := noCut) TTok mixed _ _ _ ?_)
 by_cases c1 : 1 ≤ e.seq
 ·rw [dt c1]
  by_cases c2 : e.seq ≤ 200
  ·rw [dt c2]
   by_cases c3 : e.seq = 1
   ·rw [df (show ¬ e.seq ≠ 1 by omega)]
    by_cases c4 : e.prev = z32
    ·rw [dt c4]
     by_cases c5 : 0 ≤ e.stamp
     ·rw [dt c5]
      conv => whnf
      repeat ((first | refine ifB_t ?_ | refine ifB_f ?_ | (refine ifB_neg (decide_eq_false (by first | omega | rfl | (dsimp only; omega))) ?_) | (refine ifB_pos (decide_eq_true (by first | omega | rfl | (dsimp only; omega))) ?_) | refine ⟨rfl, ?_⟩ | refine ⟨_, rfl, ?_⟩); conv => whnf)
      refine ⟨e.prev, z32, ⟨rfl, c32_map he.prev.2, rfl, he.prev.2, rfl⟩, ?_⟩
      conv => whnf
      repeat ((first | refine ifB_t ?_ | refine ifB_f ?_); conv => whnf)
      rw [dt c4]
      conv => whnf
      repeat ((first | refine ifB_f ?_ | (refine ifB_neg (decide_eq_false (by first | omega | rfl | (dsimp only; omega))) ?_) | refine ⟨entC_pure _, ?_⟩ | refine ⟨rfl, ?_⟩ | refine ⟨_, rfl, ?_⟩); conv => whnf)
      cases c6 : opR e <;> rw [c6] at ho
      ·refine ⟨_, _, ho, by first | rfl | simp [noRoIf, noRoL, noRoV, noRoL_bys], ?_⟩
       conv => whnf
       repeat ((first | refine ifB_t ?_ | refine ifB_f ?_ | refine ⟨⟨rfl, rfl⟩, ?_⟩); conv => whnf)
       rfl
      ·refine ⟨_, _, ho, by first | rfl | simp [noRoIf, noRoL, noRoV, noRoL_bys], ?_⟩
       conv => whnf
       repeat ((first | refine ifB_f ?_ | refine ⟨⟨rfl, rfl⟩, ?_⟩); conv => whnf)
       rfl
     ·rw [df c5]
      conv => whnf
      repeat ((first | refine ifB_t ?_ | refine ifB_f ?_ | (refine ifB_neg (decide_eq_false (by first | omega | rfl | (dsimp only; omega))) ?_) | (refine ifB_pos (decide_eq_true (by first | omega | rfl | (dsimp only; omega))) ?_) | refine ⟨rfl, ?_⟩ | refine ⟨_, rfl, ?_⟩); conv => whnf)
      refine ⟨e.prev, z32, ⟨rfl, c32_map he.prev.2, rfl, he.prev.2, rfl⟩, ?_⟩
      conv => whnf
      repeat ((first | refine ifB_t ?_ | refine ifB_f ?_); conv => whnf)
      rw [dt c4]
      conv => whnf
      repeat ((first | refine ifB_t ?_ | refine ifB_f ?_ | (refine ifB_pos (decide_eq_true (by first | omega | rfl | (dsimp only; omega))) ?_) | refine ⟨_, rfl, ?_⟩ | refine ⟨⟨rfl, rfl⟩, ?_⟩); conv => whnf)
      rfl
    ·rw [df c4]
     conv => whnf
     repeat ((first | refine ifB_t ?_ | refine ifB_f ?_ | (refine ifB_neg (decide_eq_false (by first | omega | rfl | (dsimp only; omega))) ?_) | (refine ifB_pos (decide_eq_true (by first | omega | rfl | (dsimp only; omega))) ?_) | refine ⟨rfl, ?_⟩ | refine ⟨_, rfl, ?_⟩); conv => whnf)
     refine ⟨e.prev, z32, ⟨rfl, c32_map he.prev.2, rfl, he.prev.2, rfl⟩, ?_⟩
     conv => whnf
     repeat ((first | refine ifB_t ?_ | refine ifB_f ?_); conv => whnf)
     rw [df c4]
     conv => whnf
     repeat ((first | refine ifB_t ?_ | refine ⟨⟨rfl, rfl⟩, ?_⟩); conv => whnf)
     rfl
   ·rw [dt (show e.seq ≠ 1 from c3)]
    by_cases c5 : 0 ≤ e.stamp
    ·rw [dt c5]
     conv => whnf
     repeat ((first | refine ifB_f ?_ | (refine ifB_neg (decide_eq_false (by first | omega | rfl | (dsimp only; omega))) ?_) | refine ⟨entC_pure _, ?_⟩ | refine ⟨rfl, ?_⟩ | refine ⟨_, rfl, ?_⟩); conv => whnf)
     cases c6 : opR e <;> rw [c6] at ho
     ·refine ⟨_, _, ho, by first | rfl | simp [noRoIf, noRoL, noRoV, noRoL_bys], ?_⟩
      conv => whnf
      repeat ((first | refine ifB_t ?_ | refine ifB_f ?_ | refine ⟨⟨rfl, rfl⟩, ?_⟩); conv => whnf)
      rfl
     ·refine ⟨_, _, ho, by first | rfl | simp [noRoIf, noRoL, noRoV, noRoL_bys], ?_⟩
      conv => whnf
      repeat ((first | refine ifB_f ?_ | refine ⟨⟨rfl, rfl⟩, ?_⟩); conv => whnf)
      rfl
    ·rw [df c5]
     conv => whnf
     repeat ((first | refine ifB_t ?_ | refine ifB_f ?_ | (refine ifB_neg (decide_eq_false (by first | omega | rfl | (dsimp only; omega))) ?_) | (refine ifB_pos (decide_eq_true (by first | omega | rfl | (dsimp only; omega))) ?_) | refine ⟨rfl, ?_⟩ | refine ⟨_, rfl, ?_⟩ | refine ⟨⟨rfl, rfl⟩, ?_⟩); conv => whnf)
     rfl
  ·rw [df c2]
   conv => whnf
   repeat ((first | refine ifB_t ?_ | refine ifB_f ?_ | (refine ifB_neg (decide_eq_false (by first | omega | rfl | (dsimp only; omega))) ?_) | (refine ifB_pos (decide_eq_true (by first | omega | rfl | (dsimp only; omega))) ?_) | refine ⟨rfl, ?_⟩ | refine ⟨_, rfl, ?_⟩ | refine ⟨⟨rfl, rfl⟩, ?_⟩); conv => whnf)
   rfl
 ·rw [df c1]
  conv => whnf
  repeat ((first | refine ifB_t ?_ | (refine ifB_pos (decide_eq_true (by first | omega | rfl | (dsimp only; omega))) ?_) | refine ⟨rfl, ?_⟩ | refine ⟨_, rfl, ?_⟩ | refine ⟨⟨rfl, rfl⟩, ?_⟩); conv => whnf)
  rfl
end
section
--KR
attribute [local irreducible] ifB fitP Does Weaker
def entT (many : Int) (e : Ent) : List Tok := [⟨5, many, []⟩, ⟨1, 1, []⟩, ⟨3, 0, e.au⟩, ⟨1, e.seq, []⟩, ⟨3, 0, e.prev⟩, ⟨1, e.stamp, []⟩, ⟨5, 3, []⟩, ⟨1, e.kind, []⟩, ⟨4, 0, e.key⟩, ⟨3, 0, e.val⟩]
def entTs (e : Ent) : List Tok := entT 7 e ++ [⟨3, 0, e.sig⟩]
theorem ctext_ok (s : List Int) (hs : Byt s) (hl : s.length ≤ 17592186044416) : ACall Tryd.prog 122 [.str s] (.agg (tokC ⟨4, 0, s⟩)) [] := by
 refine ACall.of_does TTok Tryd.func122 rfl Tryd.call122 rfl (wpc_sound (M := MR) (PL := PL0) (CU := cutAt [99999]) TTok mixed _ _ _ ?_)
 conv => whnf
 repeat ((first | refine ⟨(⟨by kernel_rfl, by kernel_rfl, Nat.le_of_ble_eq_true (by kernel_rfl)⟩ : AV.ones _ = true ∧ _ ∧ _), ?_⟩ | refine ⟨rfl, ?_⟩); conv => whnf)
 refine Does.freeze 1 rfl (wpc_sound (M := ME) (PL := PL0) (CU := noCut) TTok mixed _ _ _ ?_)
 conv => whnf
 repeat ((first | refine ⟨_, rfl, ?_⟩ | refine ⟨⟨rfl, rfl⟩, ?_⟩); conv => whnf)
 exact ⟨⟨rfl, whole_bys s, pureL_bys _⟩, rfl⟩
def PLrow : Nat → Bool × Plan := plans [(1, (false, (takesTo [0, 3, 4, 6, 7, 9, 10, 12, 13, 16, 17, 18, 20, 21, 22, 24, 25, 26] (.all [(1, (.all [(2, (.all [(5, (.all [(8, (.all [(11, (.all [(14, (.all [(15, (.all [(19, (.all [(23, (.all [(27, (.all [(28, (takes [29]))]))]))]))]))]))]))]))]))]))]))]))))]
set_option maxRecDepth 20000 in
set_option maxHeartbeats 4000000 in
theorem row7_ok (e : Ent) (he : EntS e) : ACall Tryd.prog 114 [.agg (entC e), .int .i64 7] (.own 11 3 (toksC (entTs e))) [] := by
 refine ACall.of_does TTok Tryd.func114 rfl Tryd.call114 rfl (wpc_sound (M := ME) (PL := PLrow) (CU := cutAt [100001]) TTok mixed _ _ _ ?_)
 conv => whnf
 repeat ((refine ⟨rfl, ?_⟩); conv => whnf)
 refine Does.freeze 0 rfl (wpc_sound (M := ME) (PL := PLrow) (CU := noCut) TTok mixed _ _ _ ?_)
 conv => whnf
 refine ⟨by kernel_rfl, ?_⟩
 conv => whnf
 repeat ((first | (refine ⟨⟨by first | (simp only [List.drop_zero, List.length_drop, hds_len]; omega) | exact Nat.le_of_ble_eq_true (by kernel_rfl), okB_none _⟩, ?_⟩) | refine ⟨rfl, ?_⟩ | refine ⟨_, rfl, ?_⟩); conv => whnf)
 refine ⟨_, _, list_ok 7, by first | rfl | simp [noRoIf, noRoL, noRoV, noRoL_bys], ?_⟩
 conv => whnf
 repeat ((refine ⟨rfl, ?_⟩); conv => whnf)
 refine ⟨_, _, num_ok 1, by first | rfl | simp [noRoIf, noRoL, noRoV, noRoL_bys], ?_⟩
 conv => whnf
 repeat ((refine ⟨rfl, ?_⟩); conv => whnf)
 refine ⟨_, _, (cstr_ok e.au).arg1 he.au.2.symm (cut32 he.au.2 _), by first | rfl | simp [noRoIf, noRoL, noRoV, noRoL_bys], ?_⟩
 conv => whnf
 repeat ((refine ⟨rfl, ?_⟩); conv => whnf)
 refine ⟨_, _, num_ok e.seq, by first | rfl | simp [noRoIf, noRoL, noRoV, noRoL_bys], ?_⟩
 conv => whnf
 repeat ((refine ⟨rfl, ?_⟩); conv => whnf)
 refine ⟨_, _, (cstr_ok e.prev).arg1 he.prev.2.symm (cut32 he.prev.2 _), by first | rfl | simp [noRoIf, noRoL, noRoV, noRoL_bys], ?_⟩
 conv => whnf
 repeat ((refine ⟨rfl, ?_⟩); conv => whnf)
 refine ⟨_, _, num_ok e.stamp, by first | rfl | simp [noRoIf, noRoL, noRoV, noRoL_bys], ?_⟩
 conv => whnf
 repeat ((refine ⟨rfl, ?_⟩); conv => whnf)
 refine ⟨_, _, list_ok 3, by first | rfl | simp [noRoIf, noRoL, noRoV, noRoL_bys], ?_⟩
 conv => whnf
 repeat ((refine ⟨rfl, ?_⟩); conv => whnf)
 refine ⟨_, _, num_ok e.kind, by first | rfl | simp [noRoIf, noRoL, noRoV, noRoL_bys], ?_⟩
 conv => whnf
 repeat ((refine ⟨rfl, ?_⟩); conv => whnf)
 refine ⟨_, _, ctext_ok e.key he.key.1 (by have := he.key'; omega), by first | rfl | simp [noRoIf, noRoL, noRoV, noRoL_bys], ?_⟩
 conv => whnf
 repeat ((first | refine ⟨pureL_bys _, ?_⟩ | refine ⟨rfl, ?_⟩); conv => whnf)
 refine ⟨_, _, cstr_ok e.val, by first | rfl | simp [noRoIf, noRoL, noRoV, noRoL_bys], ?_⟩
 conv => whnf
 repeat ((first | refine ifB_t ?_ | (refine ⟨⟨by first | (simp only [List.drop_zero, List.length_drop, hds_len]; omega) | exact Nat.le_of_ble_eq_true (by kernel_rfl), okB_none _⟩, ?_⟩) | refine ⟨rfl, ?_⟩ | refine ⟨⟨rfl, rfl⟩, ?_⟩); conv => whnf)
 refine ⟨_, _, (cstr_ok e.sig).arg1 he.sig.2.symm (cut64 he.sig.2 _), by first | rfl | simp [noRoIf, noRoL, noRoV, noRoL_bys], ?_⟩
 conv => whnf
 repeat ((first | (refine Or.inl ⟨⟨rfl, ?_⟩, ?_⟩; (focus (first | rfl | (simp; done) | (rw [toksC_length]; omega)))) | refine ⟨rfl, ?_⟩ | refine ⟨⟨rfl, rfl⟩, ?_⟩ | (refine ⟨⟨rfl, ?_, ?_, ?_⟩, ?_⟩; (focus (first | (simp; done) | (simp; omega))); (focus (first | exact Or.inl rfl | exact Or.inr (by omega))); (focus (first | (simp [limB, lenB, offB]; done) | (simp [limB, lenB, offB]; omega))))); conv => whnf)
 exact ⟨⟨rfl, rfl, rfl, rfl, pureL_toks (entTs e)⟩, rfl⟩
def entB (e : Ent) : List Int × Int := if entR e then encR validR (entTs e) else ([], 1)
theorem entT_ok (many : Int) (hm : 0 ≤ many ∧ many ≤ 100) (e : Ent) (he : EntS e) : ToksOk (entT many e) ∧ ∀ t ∈ entT many e, t.b.length ≤ 1000000000 := by
 have h1 := he.seq; have h2 := he.stamp; have h3 := he.kind; have h4 := he.au; have h5 := he.prev; have h6 := he.key'; have h7 := he.val'
 constructor
 ·intro t ht
  simp only [entT, List.mem_cons, List.mem_singleton, List.not_mem_nil, or_false] at ht
  rcases ht with rfl | rfl | rfl | rfl | rfl | rfl | rfl | rfl | rfl | rfl
  all_goals refine ⟨by dsimp only; omega, by dsimp only; omega, ?_⟩
  all_goals first | exact fun x hx => absurd hx (List.not_mem_nil) | exact h4.1 | exact h5.1 | exact he.key.1 | exact he.val.1
 ·intro t ht
  simp only [entT, List.mem_cons, List.mem_singleton, List.not_mem_nil, or_false] at ht
  rcases ht with rfl | rfl | rfl | rfl | rfl | rfl | rfl | rfl | rfl | rfl
  all_goals dsimp only
  all_goals first | omega | (simp; done)
theorem entTs_ok (e : Ent) (he : EntS e) : ToksOk (entTs e) ∧ ∀ t ∈ entTs e, t.b.length ≤ 1000000000 := by
 have h := entT_ok 7 (by omega) e he
 constructor
 ·intro t ht
  rcases List.mem_append.1 ht with ht | ht
  ·exact h.1 t ht
  ·simp only [List.mem_singleton] at ht
   subst ht
   exact ⟨by dsimp only; omega, by dsimp only; omega, he.sig.1⟩
 ·intro t ht
  rcases List.mem_append.1 ht with ht | ht
  ·exact h.2 t ht
  ·simp only [List.mem_singleton] at ht
   subst ht
   have := he.sig.2
   dsimp only
   omega
end
section
--KR
attribute [local irreducible] ifB fitP Does Weaker
theorem write7_ok (e : Ent) (he : EntS e) : ACall Tryd.prog 94 [.agg (entC e), .int .i64 7] (.tuple [.own (entB e).1.length 1 (bys (entB e).1), .int .i64 (entB e).2]) [] := by
 have hc := check_entry_ok e he
 unfold entB
 refine ACall.of_does TTok Tryd.func94 rfl Tryd.call94 rfl (wpc_sound (M := ME) (PL := PL0) (CU := noCut) TTok mixed _ _ _ ?_)
 cases c1 : entR e <;> rw [c1] at hc
 ·conv => whnf
  repeat ((first | refine ⟨entC_pure _, ?_⟩ | refine ⟨rfl, ?_⟩ | refine ⟨_, rfl, ?_⟩); conv => whnf)
  refine ⟨_, _, hc, by first | rfl | simp [noRoIf, noRoL, noRoV, noRoL_bys], ?_⟩
  conv => whnf
  repeat ((first | refine ifB_t ?_ | refine ⟨⟨rfl, rfl⟩, ?_⟩); conv => whnf)
  rfl
 ·have hr := row7_ok e he
  have ht := entTs_ok e he
  have hb := encode_ok (entTs e) ht.1 (fun t h => by have := ht.2 t h; omega)
  have hl : (entTs e).length = 11 := rfl
  clear ht
  generalize entTs e = l at hr hb hl
  conv => whnf
  repeat ((first | refine ⟨entC_pure _, ?_⟩ | refine ⟨rfl, ?_⟩ | refine ⟨_, rfl, ?_⟩); conv => whnf)
  refine ⟨_, _, hc, by first | rfl | simp [noRoIf, noRoL, noRoV, noRoL_bys], ?_⟩
  conv => whnf
  repeat ((first | refine ifB_f ?_ | refine ⟨entC_pure _, ?_⟩ | refine ⟨rfl, ?_⟩ | refine ⟨_, rfl, ?_⟩); conv => whnf)
  refine ⟨_, _, hr, by first | rfl | simp [noRoIf, noRoL, noRoV, noRoL_bys], ?_⟩
  conv => whnf
  repeat ((first | (refine Or.inl ⟨⟨rfl, ?_⟩, ?_⟩; (focus (first | rfl | (simp; done) | (rw [toksC_length]; omega)))) | refine ⟨rfl, ?_⟩ | (refine And.intro ?_ ?_; (focus (first | (simp only [pureL, pureV, pureL_bys, Bool.and_true, Bool.and_self]; done) | (simp only [pureL, pureV, pureL_bys, pureL_toks, Bool.and_true, Bool.and_self]; done))))); conv => whnf)
  refine ⟨_, _, hb.arg1 hl.symm rfl, by first | rfl | simp [noRoIf, noRoL, noRoV, noRoL_bys], ?_⟩
  conv => whnf
  repeat ((first | refine ⟨⟨rfl, rfl⟩, ?_⟩ | (refine ⟨⟨rfl, rfl, rfl, ?_, pureL_bys _⟩, ?_⟩; (focus (simp; done)))); conv => whnf)
  rfl
theorem ebytes_ok (e : Ent) (he : EntS e) : ACall Tryd.prog 61 [.agg (entC e)] (.tuple [.own (entB e).1.length 1 (bys (entB e).1), .int .i64 (entB e).2]) [] := by
 have h := write7_ok e he
 generalize entB e = q at h
 refine ACall.of_does TTok Tryd.func61 rfl Tryd.call61 rfl (wpc_sound (M := ME) (PL := PL0) (CU := noCut) TTok mixed _ _ _ ?_)
 conv => whnf
 repeat ((first | refine ⟨entC_pure _, ?_⟩ | refine ⟨rfl, ?_⟩ | refine ⟨_, rfl, ?_⟩); conv => whnf)
 refine ⟨_, _, h, by first | rfl | simp [noRoIf, noRoL, noRoV, noRoL_bys], ?_⟩
 conv => whnf
 repeat ((first | refine ⟨⟨rfl, rfl⟩, ?_⟩ | (refine ⟨⟨rfl, rfl, rfl, ?_, pureL_bys _⟩, ?_⟩; (focus (simp; done)))); conv => whnf)
 rfl
end
section

theorem envL_tidy {f : Nat → AV} : ∀ (env : List (Nat × AV)), env.map (fun p => f p.1) = env.map (fun p => p.2) → ∀ t, envL env t = f t ∨ envL env t = .top
 | [], _, t => .inr rfl
 | (d, x) :: r, h, t => by
  simp only [List.map_cons, List.cons.injEq] at h
  unfold envL
  cases hb : Nat.beq t d with
  | true =>
   obtain rfl : t = d := Nat.eq_of_beq_eq_true hb
   exact .inl h.1.symm
  | false => exact envL_tidy r h.2 t
theorem heapL_none {m : Nat} : ∀ (heap : List (Nat × List AV)), heap.all (fun p => Nat.blt p.1 m) = true → ∀ i, m ≤ i → heapL heap i = none
 | [], _, _, _ => rfl
 | (d, x) :: r, h, i, hi => by
  simp only [List.all_cons, Bool.and_eq_true] at h
  unfold heapL
  cases hb : Nat.beq i d with
  | true =>
   obtain rfl : i = d := Nat.eq_of_beq_eq_true hb
   have := h.1
   rw [Nat.blt_eq] at this
   omega
  | false => exact heapL_none r h.2 i hi
theorem Weaker.tidy {k : Nat} {st : St} (env : List (Nat × AV)) (heap : List (Nat × List AV)) (nx n : Nat) (hn : st.n = n) (hx : st.nx = nx) (hb : heap.all (fun p => Nat.blt p.1 nx) = true)
  (he : env.map (fun p => st.env p.1) = env.map (fun p => p.2)) (hh : (List.range nx).map st.heap = (List.range nx).map (heapL heap)) : Weaker k st (mkSt env heap nx n) := by
 intro Z E a S
 have hH : heapL heap = st.heap := by
  funext i
  rcases Nat.lt_or_ge i nx with hi | hi
  ·have h1 : ((List.range nx).map st.heap)[i]? = some (st.heap i) := by simp [hi]
   have h2 : ((List.range nx).map (heapL heap))[i]? = some (heapL heap i) := by simp [hi]
   rw [hh, h2] at h1
   exact Option.some.inj h1
  ·rw [heapL_none heap hb i hi, (S.heap.fresh i (by omega)).2]
 refine ⟨E, ⟨?_, ?_, S.dfr, ?_⟩, rfl, ?_⟩
 ·intro t
  change RepV E (envL env t) _
  rcases envL_tidy env he t with h | h
  ·rw [h]; exact S.env t
  ·rw [h]; simp [RepV]
 ·exact S.sz.trans hn
 ·change HeapRep Z E (heapL heap) nx
  rw [hH, ← hx]
  exact S.heap
 ·change Flow k E st.heap E (heapL heap)
  rw [hH]
  exact Flow.refl _ _
theorem Does.tidy {P : Program} {k : Nat} {c : Code} {Q : AX → St → Prop} {st : St} (env : List (Nat × AV)) (heap : List (Nat × List AV)) (nx n : Nat) (hn : st.n = n) (hx : st.nx = nx) (hb : heap.all (fun p => Nat.blt p.1 nx) = true)
  (he : env.map (fun p => st.env p.1) = env.map (fun p => p.2)) (hh : (List.range nx).map st.heap = (List.range nx).map (heapL heap)) (h : Does P k c Q (mkSt env heap nx n)) : Does P k c Q st :=
 Does.weaker (Weaker.tidy env heap nx n hn hx hb he hh) h
theorem ACall.args {P : Program} {f : FuncId} {xs ys : List AV} {r : AV} {outs : List AV} (h : ACall P f ys r outs) (e : xs = ys) : ACall P f xs r outs := by
 subst e; exact h
end
end Go.Proofs.YthnhpkpbjaelnaaDoor.Abs
