/- codicilref09.Get: it answers as head.Get does. -/
import Derived.Test.YtaefmhdpfmpijaaHF
set_option linter.unusedVariables false
set_option linter.unusedSimpArgs false
namespace Go.Proofs.Ytaefmhdpfmpijaa.Abs
open Go
attribute [local irreducible] ifB fitP Does Weaker

def PLref : Nat → Bool × Plan := plans [(26, (false, .take 0 (.take 1 (.take 3 (.take 4 (.take 5 (.take 6 (.take 7 (.take 8 (.take 9 (.all [(2, .all [(10, .take 11 .done)])])))))))))))]

theorem refGet_ok (b : List Int) (hb : Byt b) (hl : b.length ≤ 1048576) (at' : Int) (ha : -9223372036854775808 ≤ at' ∧ at' < 9223372036854775808) : ACall Try.prog 14 [.ro b.length (bys b), .int .i64 at'] (tup4 (getR b at')) [] := by
  refine ACall.of_does TTok Try.func14 rfl Try.call14 rfl (wpc_sound (M := MH) (PL := PLref) (CU := cutAt [9, 18, 21]) TTok mixed _ _ _ ?_)
  conv => whnf
  repeat (refine ⟨rfl, ?_⟩; conv => whnf)
  refine ⟨_, _, in_ok at' 0 b.length, rfl, ?_⟩
  conv => whnf
  by_cases h1 : ¬ (0 ≤ at' ∧ at' ≤ b.length)
  · refine ifB_pos (by simp [h1]) ?_
    conv => whnf
    have e : getR b at' = (0, 0, 0, 1) := by
      have : at' < 0 ∨ (b.length : Int) < at' := by omega
      simp [getR, this]
    exact four_ok (T := TT) e
  have h1 := Classical.not_not.1 h1
  refine ifB_neg (by simp [h1]) ?_
  conv => whnf
  have hat : ∃ k : Nat, at' = k := ⟨at'.toNat, by omega⟩
  obtain ⟨k, rfl⟩ := hat
  have h2 : ¬ (b.length : Int) < k := by omega
  refine ifB_dec (fun h3 => ?_) (fun h3 => ?_)
  · conv => whnf
    have e : getR b k = (0, 0, 0, 3) := by
      have hk : ¬ k < b.length := by omega
      simp [getR, h2, hk]
    exact four_ok (T := TT) e
  have hk : k < b.length := by omega
  have hbk := hb b[k] (by simp)
  have e31 : bits .and .u8 b[k] 31 = b[k] % 32 := u8_and31 _ hbk.1 hbk.2
  have e5 : b[k] / 2 ^ min (Int.toNat 5) IntKind.u8.bits = b[k] / 32 := by
    have : (2 : Int) ^ min (Int.toNat 5) IntKind.u8.bits = 32 := by decide
    rw [this]
  conv => whnf
  refine ⟨by simp; omega, ?_⟩
  conv => whnf
  refine ⟨_, by simpa using get_bys hk, ?_⟩
  conv => whnf
  refine ⟨by omega, ?_⟩
  conv => whnf
  refine fit_i64 (by rw [e5]; omega) ?_
  conv => whnf
  refine ⟨by simp; omega, ?_⟩
  conv => whnf
  refine ⟨_, by simpa using get_bys hk, ?_⟩
  conv => whnf
  refine fit_i64 (by rw [e31]; omega) ?_
  conv => whnf
  let B : Nat := if b[k] % 32 = 24 then 1 else if b[k] % 32 = 25 then 2 else if b[k] % 32 = 26 then 4 else if b[k] % 32 = 27 then 8 else 0
  refine Does.seqCut (α := Unit) (fun _ => mkSt [(0, .ro b.length (bys b)), (1, .int .i64 k), (4, .int .i64 (b[k] / 32)), (8, .int .i64 (b[k] % 32)), (9, .int .i64 B)] [] 0 101) (fun _ => True) ?_ ?_
  · refine wpc_sound (M := MH) (PL := PLref) (CU := noCut) TTok mixed _ _ _ ?_
    conv => whnf
    have fin : ∀ (x y z : Int), x = b[k] / 32 → y = b[k] % 32 → z = B → (leP (oldOf (matL [AV.ro b.length (bys b), AV.int IntKind.i64 k] (noHeap, 0)).2.2 []) (.int .i64 (b[k] / 32)) (.int .i64 x)) := fun x y z h _ _ => ⟨rfl, h⟩
    refine ifB_dec (fun h5 => ?_) (fun h5 => ?_)
    · conv => whnf
      rw [e31] at h5
      refine ⟨(), trivial, weaker_of [] rfl rfl ?_ trivial⟩
      exact ⟨⟨rfl, rfl, pureL_bys _⟩, ⟨rfl, rfl⟩, ⟨rfl, e5⟩, ⟨rfl, e31⟩, ⟨rfl, by simp [B, h5]⟩, trivial⟩
    conv => whnf
    rw [e31] at h5
    refine ifB_dec (fun h6 => ?_) (fun h6 => ?_)
    · conv => whnf
      rw [e31] at h6
      refine ⟨(), trivial, weaker_of [] rfl rfl ?_ trivial⟩
      exact ⟨⟨rfl, rfl, pureL_bys _⟩, ⟨rfl, rfl⟩, ⟨rfl, e5⟩, ⟨rfl, e31⟩, ⟨rfl, by simp [B, h6]⟩, trivial⟩
    conv => whnf
    rw [e31] at h6
    refine ifB_dec (fun h7 => ?_) (fun h7 => ?_)
    · conv => whnf
      rw [e31] at h7
      refine ⟨(), trivial, weaker_of [] rfl rfl ?_ trivial⟩
      exact ⟨⟨rfl, rfl, pureL_bys _⟩, ⟨rfl, rfl⟩, ⟨rfl, e5⟩, ⟨rfl, e31⟩, ⟨rfl, by simp [B, h7]⟩, trivial⟩
    conv => whnf
    rw [e31] at h7
    refine ifB_dec (fun h8 => ?_) (fun h8 => ?_)
    · conv => whnf
      rw [e31] at h8
      refine ⟨(), trivial, weaker_of [] rfl rfl ?_ trivial⟩
      exact ⟨⟨rfl, rfl, pureL_bys _⟩, ⟨rfl, rfl⟩, ⟨rfl, e5⟩, ⟨rfl, e31⟩, ⟨rfl, by simp [B, h8]⟩, trivial⟩
    conv => whnf
    rw [e31] at h8
    refine ⟨(), trivial, weaker_of [] rfl rfl ?_ trivial⟩
    exact ⟨⟨rfl, rfl, pureL_bys _⟩, ⟨rfl, rfl⟩, ⟨rfl, e5⟩, ⟨rfl, e31⟩, ⟨rfl, by simp [B, h5, h6, h7, h8]⟩, trivial⟩
  rintro ⟨⟩ -
  have hB : B = moreOf b[k] ∨ 27 < b[k] % 32 := by
    simp only [B, moreOf]
    by_cases q : 27 < b[k] % 32
    · exact .inr q
    left
    by_cases q0 : 24 ≤ b[k] % 32
    · have : b[k] % 32 = 24 ∨ b[k] % 32 = 25 ∨ b[k] % 32 = 26 ∨ b[k] % 32 = 27 := by omega
      rcases this with e | e | e | e <;> simp [e]
    · have n1 : ¬ b[k] % 32 = 24 := by omega
      have n2 : ¬ b[k] % 32 = 25 := by omega
      have n3 : ¬ b[k] % 32 = 26 := by omega
      have n4 : ¬ b[k] % 32 = 27 := by omega
      simp [q0, n1, n2, n3, n4]
  have hB8 : B ≤ 8 := by
    simp only [B]
    repeat' split
    all_goals omega
  refine wpc_sound (M := MH) (PL := PLref) (CU := cutAt [18, 21]) TTok mixed _ _ _ ?_
  conv => whnf
  refine Does.seqCut (α := Unit) (fun _ => mkSt [(0, .ro b.length (bys b)), (1, .int .i64 k), (4, .int .i64 (b[k] / 32)), (8, .int .i64 (b[k] % 32)), (9, .int .i64 B)] [] 0 101)
    (fun _ => ¬ 27 < b[k] % 32 ∧ ¬ b.length < k + 1 + B ∧ ∀ h : k + 1 < b.length, B = 8 → b[k + 1] ≤ 127) ?_ ?_
  · refine wpc_sound (M := MH) (PL := PLref) (CU := noCut) TTok mixed _ _ _ ?_
    conv => whnf
    refine ifB_dec (fun h4 => ?_) (fun h4 => ?_)
    · conv => whnf
      repeat (first | (refine ifB_t ?_; conv => whnf) | (refine ifB_f ?_; conv => whnf))
      have e : getR b k = (0, 0, 0, 3) := by simp [getR, h2, hk, h4]
      exact four_ok (T := TT) e
    have hB := hB.resolve_right h4
    conv => whnf
    repeat (first | (refine ifB_t ?_; conv => whnf) | (refine ifB_f ?_; conv => whnf))
    refine fit_i64 ⟨by omega, by omega⟩ ?_
    conv => whnf
    repeat (first | (refine ifB_t ?_; conv => whnf) | (refine ifB_f ?_; conv => whnf))
    refine fit_i64 ⟨by omega, by omega⟩ ?_
    conv => whnf
    repeat (first | (refine ifB_t ?_; conv => whnf) | (refine ifB_f ?_; conv => whnf))
    refine ifB_dec (fun h6 => ?_) (fun h6 => ?_)
    · conv => whnf
      repeat (first | (refine ifB_t ?_; conv => whnf) | (refine ifB_f ?_; conv => whnf))
      have e : getR b k = (0, 0, 0, 3) := by
        have h6' : b.length < k + 1 + moreOf b[k] := by omega
        simp [getR, h2, hk, h4, h6']
      exact four_ok (T := TT) e
    conv => whnf
    repeat (first | (refine ifB_t ?_; conv => whnf) | (refine ifB_f ?_; conv => whnf))
    refine ifB_dec (fun h7 => ?_) (fun h7 => ?_)
    · have hm8 : B = 8 := by omega
      have hk1 : k + 1 < b.length := by omega
      have hb1 := hb b[k + 1] (by simp)
      conv => whnf
      repeat (first | (refine ifB_t ?_; conv => whnf) | (refine ifB_f ?_; conv => whnf))
      refine fit_i64 ⟨by omega, by omega⟩ ?_
      conv => whnf
      repeat (first | (refine ifB_t ?_; conv => whnf) | (refine ifB_f ?_; conv => whnf))
      refine ⟨by simp; omega, ?_⟩
      conv => whnf
      repeat (first | (refine ifB_t ?_; conv => whnf) | (refine ifB_f ?_; conv => whnf))
      refine ⟨_, by
        have e : ((k : Int) + 1).toNat = k + 1 := by omega
        simpa [e] using get_bys hk1, ?_⟩
      conv => whnf
      repeat (first | (refine ifB_t ?_; conv => whnf) | (refine ifB_f ?_; conv => whnf))
      refine ifB_dec (fun h8 => ?_) (fun h8 => ?_)
      · conv => whnf
        repeat (first | (refine ifB_t ?_; conv => whnf) | (refine ifB_f ?_; conv => whnf))
        have e : getR b k = (0, 0, 0, 3) := by
          have h6' : ¬ b.length < k + 1 + moreOf b[k] := by omega
          have h24 : 24 ≤ b[k] % 32 := by
            have : moreOf b[k] = 8 := by omega
            unfold moreOf at this
            split at this
            · assumption
            · omega
          obtain ⟨s, hs⟩ : ∃ s, s = (b.drop (k + 1)).take (moreOf b[k]) := ⟨_, rfl⟩
          have hsl : s.length = 8 := by rw [hs]; simp; omega
          have hsb : Byt s := fun x hx => hb x (by rw [hs] at hx; exact List.mem_of_mem_drop (List.mem_of_mem_take hx))
          have h0 : s[0] = b[k + 1] := by simp [hs]
          have := (num8 hsb hsl).2 (by omega)
          rw [hs] at this
          simp [getR, h2, hk, h4, h6', numOf, h24, this]
        exact four_ok (T := TT) e
      · conv => whnf
        repeat (first | (refine ifB_t ?_; conv => whnf) | (refine ifB_f ?_; conv => whnf))
        refine ⟨(), ⟨h4, by omega, fun _ _ => by omega⟩, weaker_of [] rfl rfl ?_ trivial⟩
        exact ⟨⟨rfl, rfl, pureL_bys _⟩, ⟨rfl, rfl⟩, ⟨rfl, rfl⟩, ⟨rfl, rfl⟩, ⟨rfl, rfl⟩, trivial⟩
    · conv => whnf
      repeat (first | (refine ifB_t ?_; conv => whnf) | (refine ifB_f ?_; conv => whnf))
      refine ⟨(), ⟨h4, by omega, fun _ _ => by omega⟩, weaker_of [] rfl rfl ?_ trivial⟩
      exact ⟨⟨rfl, rfl, pureL_bys _⟩, ⟨rfl, rfl⟩, ⟨rfl, rfl⟩, ⟨rfl, rfl⟩, ⟨rfl, rfl⟩, trivial⟩
  rintro ⟨⟩ ⟨h4, h6, h8⟩
  have hB := hB.resolve_right h4
  rw [hB] at hB8 h6 h8 ⊢
  clear_value B
  subst hB
  obtain ⟨m, hMM⟩ : ∃ m, moreOf b[k] = m := ⟨_, rfl⟩
  rw [hMM] at hB8 h6 h8 ⊢
  obtain ⟨s, hs⟩ : ∃ s, s = (b.drop (k + 1)).take m := ⟨_, rfl⟩
  have hsl : s.length = m := by rw [hs]; simp; omega
  have hsb : Byt s := fun x hx => hb x (by rw [hs] at hx; exact List.mem_of_mem_drop (List.mem_of_mem_take hx))
  have hsg : ∀ (j : Nat) (h : j < m), s[j]'(by omega) = b[k + 1 + j]'(by omega) := by
    intro j h
    subst hs
    simp
  have h24 : m ≠ 0 → 24 ≤ b[k] % 32 := by
    intro hm
    unfold moreOf at hMM
    split at hMM
    · assumption
    · exact absurd hMM.symm hm
  refine wpc_sound (M := MH) (PL := PLref) (CU := cutAt [21]) TTok mixed _ _ _ ?_
  conv => whnf
  refine Does.seqCut (α := Unit) (fun _ => mkSt [(0, .ro b.length (bys b)), (1, .int .i64 k), (4, .int .i64 (b[k] / 32)), (5, .int .i64 (numOf b[k] s)), (9, .int .i64 m)] [] 0 101) (fun _ => True) ?_ ?_
  · refine wpc_sound (M := MH) (PL := PLref) (CU := noCut) TTok mixed _ _ _ ?_
    conv => whnf
    refine ifB_dec (fun h9 => ?_) (fun h9 => ?_)
    · have hnv : ∀ t : List Int, numOf b[k] t = beVal t := fun t => by simp [numOf, h24 (by omega)]
      have e8 : (2 : Int) ^ min (Int.toNat 8) IntKind.i64.bits = 256 := by decide
      conv => whnf
      refine Does.loop (fun c : Nat => mkSt [(0, .ro b.length (bys b)), (1, .int .i64 k), (4, .int .i64 (b[k] / 32)), (5, .int .i64 (beVal (s.take c))), (9, .int .i64 m), (10, .int .i64 c)] [] 0 101)
        (fun c => c ≤ m) (fun c => m - c) ?_ 0 (Nat.zero_le _) ?_
      · intro c hc
        refine wpc_sound (M := MH) (PL := PLref) (CU := noCut) TTok mixed _ _ _ ?_
        conv => whnf
        refine ifB_dec (fun h => ?_) (fun h => ?_)
        · have hcs : c < s.length := by omega
          have hsc := hsb s[c] (by simp)
          have hv := beVal_bound (l := s.take c) (fun x hx => hsb x (List.mem_of_mem_take hx))
          rw [List.length_take, Nat.min_eq_left (by omega)] at hv
          have hvb : beVal (s.take c) < 36028797018963968 := by
            rcases Nat.lt_or_ge c 7 with h7 | h7
            · have hp6 : (256 : Int) ^ c ≤ 281474976710656 := by
                have : c = 0 ∨ c = 1 ∨ c = 2 ∨ c = 3 ∨ c = 4 ∨ c = 5 ∨ c = 6 := by omega
                rcases this with rfl | rfl | rfl | rfl | rfl | rfl | rfl <;> decide
              omega
            · have h7' : c = 7 := by omega
              subst h7'
              have hb1 := h8 (by omega) (by omega)
              refine num7 (fun x hx => hsb x (List.mem_of_mem_take hx)) (by simp; omega) ?_
              have := hsg 0 (by omega)
              simp at this ⊢
              omega
          conv => whnf
          refine ⟨by omega, ?_⟩
          conv => whnf
          refine fit_i64 (by rw [e8]; omega) ?_
          conv => whnf
          refine fit_i64 ⟨by omega, by omega⟩ ?_
          conv => whnf
          refine fit_i64 ⟨by omega, by omega⟩ ?_
          conv => whnf
          refine ⟨by simp; omega, ?_⟩
          conv => whnf
          have hkc : k + 1 + c < b.length := by omega
          refine ⟨_, by
            have e : ((k : Int) + 1 + c).toNat = k + 1 + c := by omega
            simpa [e] using get_bys hkc, ?_⟩
          have hscb : s[c] = b[k + 1 + c] := hsg c (by omega)
          rw [← hscb]
          conv => whnf
          refine fit_i64 ⟨by omega, by omega⟩ ?_
          conv => whnf
          refine fit_i64 ⟨by omega, by omega⟩ ?_
          conv => whnf
          refine ⟨c + 1, by omega, by omega, weaker_of [] rfl rfl ?_ trivial⟩
          refine ⟨⟨rfl, rfl, pureL_bys _⟩, ⟨rfl, rfl⟩, ⟨rfl, rfl⟩, ⟨rfl, ?_⟩, ⟨rfl, rfl⟩, ⟨rfl, rfl⟩, trivial⟩
          show bits .or .i64 (beVal (s.take c) * 2 ^ min (Int.toNat 8) IntKind.i64.bits) s[c] = beVal (s.take (c + 1))
          rw [e8, beVal_take hcs]
          exact bits_join .i64 63 (by decide) wrap_i64_63 8 _ _ (by omega) (by omega) (by omega) hsc.1 (by omega) (by omega)
        · conv => whnf
          have hcm : c = m := by omega
          refine ⟨(), trivial, weaker_of [] rfl rfl ?_ trivial⟩
          refine ⟨⟨rfl, rfl, pureL_bys _⟩, ⟨rfl, rfl⟩, ⟨rfl, rfl⟩, ⟨rfl, ?_⟩, ⟨rfl, rfl⟩, trivial⟩
          show beVal (s.take c) = numOf b[k] s
          rw [hnv, hcm, ← hsl, List.take_length]
      · refine weaker_of [] rfl rfl ?_ trivial
        exact ⟨⟨rfl, rfl, pureL_bys _⟩, ⟨rfl, rfl⟩, ⟨rfl, rfl⟩, ⟨rfl, rfl⟩, ⟨rfl, rfl⟩, ⟨rfl, rfl⟩, trivial⟩
    · conv => whnf
      refine ⟨(), trivial, weaker_of [] rfl rfl ?_ trivial⟩
      refine ⟨⟨rfl, rfl, pureL_bys _⟩, ⟨rfl, rfl⟩, ⟨rfl, rfl⟩, ⟨rfl, ?_⟩, ⟨rfl, rfl⟩, trivial⟩
      show b[k] % 32 = numOf b[k] s
      have hn : ¬ 24 ≤ b[k] % 32 := by
        intro hh
        have : moreOf b[k] = 0 := by omega
        simp only [moreOf, if_pos hh] at this
        have := Nat.pow_pos (n := (b[k] % 32 - 24).toNat) (show 0 < 2 by omega)
        omega
      simp [numOf, hn]
  rintro ⟨⟩ -
  have hnum : 0 ≤ numOf b[k] s ∧ numOf b[k] s ≤ 9223372036854775807 := by
    unfold numOf
    split
    · have h0 := (beVal_bound hsb).1
      rcases Nat.lt_or_ge m 8 with h7 | h7
      · have := num_small hsb (by omega)
        omega
      · have hm8 : m = 8 := by omega
        have hl8 : s.length = 8 := by omega
        have := num8 hsb hl8
        have hb1 := h8 (by omega) hm8
        have := hsg 0 (by omega)
        simp at this
        omega
    · omega
  refine wpc_sound (M := MH) (PL := PLref) (CU := noCut) TTok mixed _ _ _ ?_
  conv => whnf
  refine ⟨by kernel_rfl, ?_⟩
  conv => whnf
  refine fit_i64 ⟨by omega, by omega⟩ ?_
  conv => whnf
  refine fit_i64 ⟨by omega, by omega⟩ ?_
  conv => whnf
  refine ⟨⟨by simp, by omega, by omega, by omega⟩, ?_⟩
  conv => whnf
  repeat (refine ⟨rfl, ?_⟩; conv => whnf)
  refine ⟨_, _, refHead_ok (b[k] / 32) (numOf b[k] s) (by omega) (by omega) hnum.1, rfl, ?_⟩
  conv => whnf
  have hL : lenB (some (k : Int)) (some ((k : Int) + 1 + m)) b.length = (b[k] :: s).length := by simp [lenB, hsl]; omega
  have hC : cutB (bys b) (some (k : Int)) (some ((k : Int) + 1 + m)) 1 = bys (b[k] :: s) := by
    have e1 : ((k : Int) + 1 + m).toNat - k = m + 1 := by omega
    have e2 : b.drop k = b[k] :: b.drop (k + 1) := by simp
    have e3 : (b.drop k).take (m + 1) = b[k] :: s := by rw [e2, List.take_succ_cons, hs]
    rw [← e3, ← bys_take, ← bys_drop]
    simp [cutB, e1]
  have hc : ACall Try.prog 10 [.ro (putL (b[k] / 32) (numOf b[k] s)).length (bys (putL (b[k] / 32) (numOf b[k] s))), .ro (lenB (some (k : Int)) (some ((k : Int) + 1 + m)) b.length) (cutB (bys b) (some (k : Int)) (some ((k : Int) + 1 + m)) 1)]
      (.bool (decide (putL (b[k] / 32) (numOf b[k] s) = b[k] :: s))) [] := by
    rw [hL, hC]
    exact bytes_ok _ _ (by have := sizeR_le _ hnum.1; simp [putL]; omega)
  refine ⟨pureL_bys _, ?_⟩
  refine Or.inl ⟨⟨rfl, by simp⟩, ?_⟩
  conv => whnf
  refine ⟨by
    have : pureL (cutB (bys b) (some (k : Int)) (some ((k : Int) + 1 + m)) 1) = true := by rw [hC]; exact pureL_bys _
    exact this, ?_⟩
  conv => whnf
  refine ⟨rfl, _, _, hc, rfl, ?_⟩
  conv => whnf
  have hbig : ¬ 9223372036854775807 < numOf b[k] s := by omega
  by_cases heq : putL (b[k] / 32) (numOf b[k] s) = b[k] :: s
  · refine ifB_neg (by simp [heq]) ?_
    conv => whnf
    refine fit_i64 ⟨by omega, by omega⟩ ?_
    conv => whnf
    refine fit_i64 ⟨by omega, by omega⟩ ?_
    conv => whnf
    have hsz : (sizeR (numOf b[k] s)).1 = m := by
      have := congrArg List.length heq
      simp [putL, hsl] at this
      exact this
    have e : getR b k = (b[k] / 32, numOf b[k] s, (k : Int) + 1 + m, 0) := by
      rw [← hMM] at h6 hs hsz ⊢
      rw [hs] at hbig hsz ⊢
      simp [getR, h2, hk, h4, h6, hbig, hsz]
    exact four_ok (T := TT) e
  · refine ifB_pos (by simp [heq]) ?_
    conv => whnf
    have hsz : ¬ (sizeR (numOf b[k] s)).1 = m := by
      intro hh
      exact heq (putL_of hbk.1 h4 hsb (by omega) (by omega))
    have e : getR b k = (0, 0, 0, 3) := by
      rw [← hMM] at h6 hs hsz
      rw [hs] at hbig hsz
      simp [getR, h2, hk, h4, h6, hbig, hsz]
    exact four_ok (T := TT) e

end Go.Proofs.Ytaefmhdpfmpijaa.Abs
