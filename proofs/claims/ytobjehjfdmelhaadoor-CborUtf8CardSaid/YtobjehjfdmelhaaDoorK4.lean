/- Texts DO to X6, merged. -/
import Derived.Test.YtobjehjfdmelhaaDoorRows
import Derived.Test.YtobjehjfdmelhaaDoorProg
import Derived.Lib.LaidU8T
import Derived.PinnedBridge
import Derived.Test.YtobjehjfdmelhaaDoorCards
import Derived.Test.YtobjehjfdmelhaaDoorTie
import Derived.WalkKit
import Derived.ProofKit
import Derived.OpenShut
import Derived.ShutString
import Derived.ChangeOld
import Derived.Below
import Derived.SizedLaws
import Derived.Carry
import Derived.ChangeSlices
import Derived.LaidMore
import Derived.Stop.Joined
import Derived.SevenTiedAt
import Derived.Lay
import Derived.Test.YtobjehjfdmelhaaDoorK3
section
set_option linter.unusedVariables false
set_option linter.unusedSimpArgs false
namespace Go.Proofs.YtobjehjfdmelhaaDoor.Abs
open Go
attribute [local irreducible] ifB fitP Does Weaker
/-- The bytes of a code point. -/
def uEnc (c : Int) : List Int :=
  if c < 128 then [c] else if c < 2048 then [192 + c / 64, 128 + c % 64] else if c < 65536 then [224 + c / 4096, 128 + c / 64 % 64, 128 + c % 64] else [240 + c / 262144, 128 + c / 4096 % 64, 128 + c / 64 % 64, 128 + c % 64]
theorem uEnc_eq (p : Nat) (h1 : p ≤ 1114111) (h2 : ¬ (55296 ≤ p ∧ p ≤ 57343)) : bytesOf (Utf8.encode p) = uEnc p := by
  have hv : Utf8.valid (p : Int) = true := by
    simp [Utf8.valid]
    omega
  unfold Utf8.encode uEnc
  simp only [hv, if_true, Int.toNat_natCast]
  have e : ∀ n : Nat, n < 256 → (((UInt8.ofNat n).toNat : Nat) : Int) = (n : Int) := by
    intro n hn
    rw [UInt8.toNat_ofNat']
    omega
  by_cases a1 : p < 128
  · rw [if_pos a1, if_pos (show (p : Int) < 128 by omega)]
    simp only [bytesOf, List.map_cons, List.map_nil]
    rw [e p (by omega)]
  rw [if_neg a1, if_neg (show ¬ (p : Int) < 128 by omega)]
  by_cases a2 : p < 2048
  · rw [if_pos a2, if_pos (show (p : Int) < 2048 by omega)]
    simp only [bytesOf, List.map_cons, List.map_nil]
    rw [e _ (by omega), e _ (by omega)]
    simp
  rw [if_neg a2, if_neg (show ¬ (p : Int) < 2048 by omega)]
  by_cases a3 : p < 65536
  · rw [if_pos a3, if_pos (show (p : Int) < 65536 by omega)]
    simp only [bytesOf, List.map_cons, List.map_nil]
    rw [e _ (by omega), e _ (by omega), e _ (by omega)]
    simp
  rw [if_neg a3, if_neg (show ¬ (p : Int) < 65536 by omega)]
  simp only [bytesOf, List.map_cons, List.map_nil]
  rw [e _ (by omega), e _ (by omega), e _ (by omega), e _ (by omega)]
  simp
theorem uLead2 {c : Int} (h : 192 ≤ c ∧ c < 224) : uLead c = (1, c % 32, 128) := by unfold uLead; rw [if_pos h]
theorem uLead3 {c : Int} (h : 224 ≤ c ∧ c < 240) : uLead c = (2, c % 16, 2048) := by unfold uLead; rw [if_neg (by omega), if_pos h]
theorem uLead4 {c : Int} (h : 240 ≤ c ∧ c < 248) : uLead c = (3, c % 8, 65536) := by unfold uLead; rw [if_neg (by omega), if_neg (by omega), if_pos h]
theorem uLead0 {c : Int} (h : c < 192 ∨ 248 ≤ c) : uLead c = (0, 0, 0) := by unfold uLead; rw [if_neg (by omega), if_neg (by omega), if_neg (by omega)]
theorem validR_none {c : Int} (h : 128 ≤ c) (h2 : c < 192 ∨ 248 ≤ c) (r : List Int) : validR (c :: r) = false := by
  rw [validR_big (by omega), uLead0 h2, if_pos (.inl rfl)]
/-- What stands behind a code point's bytes decides. -/
theorem uEnc_then (c : Int) (h0 : 0 ≤ c ∧ c ≤ 1114111) (h2 : ¬ (55296 ≤ c ∧ c ≤ 57343)) (r : List Int) : validR (uEnc c ++ r) = validR r := by
  unfold uEnc
  by_cases a1 : c < 128
  · rw [if_pos a1]
    exact validR_asc a1 r
  rw [if_neg a1]
  by_cases a2 : c < 2048
  · rw [if_pos a2, List.cons_append, validR_big (by omega), uLead2 (by omega), if_neg (by simp)]
    simp only [List.cons_append, List.nil_append, List.take_succ_cons, List.take_zero, List.drop_succ_cons, List.drop_zero, List.all_cons, List.all_nil, Bool.and_true, uVal, List.foldl_cons, List.foldl_nil]
    rw [show uCont (128 + c % 64) = true by simp [uCont]; omega, show uRight 128 _ = true by unfold uRight; exact decide_eq_true (by omega)]
    rfl
  rw [if_neg a2]
  by_cases a3 : c < 65536
  · rw [if_pos a3, List.cons_append, validR_big (by omega), uLead3 (by omega), if_neg (by simp)]
    simp only [List.cons_append, List.nil_append, List.take_succ_cons, List.take_zero, List.drop_succ_cons, List.drop_zero, List.all_cons, List.all_nil, Bool.and_true, uVal, List.foldl_cons, List.foldl_nil]
    rw [show uCont (128 + c / 64 % 64) = true by simp [uCont]; omega, show uCont (128 + c % 64) = true by simp [uCont]; omega, show uRight 2048 _ = true by unfold uRight; exact decide_eq_true (by omega)]
    rfl
  rw [if_neg a3, List.cons_append, validR_big (by omega), uLead4 (by omega), if_neg (by simp)]
  simp only [List.cons_append, List.nil_append, List.take_succ_cons, List.take_zero, List.drop_succ_cons, List.drop_zero, List.all_cons, List.all_nil, Bool.and_true, uVal, List.foldl_cons, List.foldl_nil]
  rw [show uCont (128 + c / 4096 % 64) = true by simp [uCont]; omega, show uCont (128 + c / 64 % 64) = true by simp [uCont]; omega, show uCont (128 + c % 64) = true by simp [uCont]; omega, show uRight 65536 _ = true by unfold uRight; exact decide_eq_true (by omega)]
  rfl
theorem uEnc_byt (c : Int) (h0 : 0 ≤ c ∧ c ≤ 1114111) : Byt (uEnc c) ∧ 1 ≤ (uEnc c).length ∧ (uEnc c).length ≤ 4 := by
  unfold uEnc
  repeat' split
  all_goals
    refine ⟨fun x hx => ?_, by simp, by simp⟩
    simp at hx
    omega
theorem uEnc_cut (c : Int) (h0 : 0 ≤ c ∧ c ≤ 1114111) (n : Nat) (hn : 1 ≤ n) (hl : n < (uEnc c).length) : validR ((uEnc c).take n) = false := by
  unfold uEnc at hl ⊢
  by_cases a1 : c < 128
  · rw [if_pos a1] at hl; simp at hl; omega
  rw [if_neg a1] at hl ⊢
  by_cases a2 : c < 2048
  · rw [if_pos a2] at hl ⊢
    simp at hl
    obtain rfl : n = 1 := by omega
    rw [List.take_succ_cons, validR_big (by omega), uLead2 (by omega), if_pos (by simp)]
  rw [if_neg a2] at hl ⊢
  by_cases a3 : c < 65536
  · rw [if_pos a3] at hl ⊢
    simp at hl
    obtain ⟨m, rfl⟩ : ∃ m, n = m + 1 := ⟨n - 1, by omega⟩
    rw [List.take_succ_cons, validR_big (by omega), uLead3 (by omega), if_pos (by simp; omega)]
  rw [if_neg a3] at hl ⊢
  simp at hl
  obtain ⟨m, rfl⟩ : ∃ m, n = m + 1 := ⟨n - 1, by omega⟩
  rw [List.take_succ_cons, validR_big (by omega), uLead4 (by omega), if_pos (by simp; omega)]
theorem uEnc_drop (c : Int) (h0 : 0 ≤ c ∧ c ≤ 1114111) (hl : 1 < (uEnc c).length) : validR ((uEnc c).drop 1) = false := by
  unfold uEnc at hl ⊢
  by_cases a1 : c < 128
  · rw [if_pos a1] at hl; simp at hl
  rw [if_neg a1] at hl ⊢
  by_cases a2 : c < 2048
  · rw [if_pos a2]; exact validR_none (by omega) (by omega) _
  rw [if_neg a2] at hl ⊢
  by_cases a3 : c < 65536
  · rw [if_pos a3]; exact validR_none (by omega) (by omega) _
  rw [if_neg a3]; exact validR_none (by omega) (by omega) _
theorem surr (p : Int) (h : 55296 ≤ p ∧ p ≤ 57343) : validR [237, 128 + p / 64 % 64, 128 + p % 64] = false := by
  rw [validR_big (by omega), uLead3 (by omega), if_neg (by simp)]
  have : uRight 2048 (uVal (237 % 16) [128 + p / 64 % 64, 128 + p % 64]) = false := by
    unfold uRight uVal
    exact decide_eq_false (by simp; omega)
  simp only [List.take_succ_cons, List.take_zero]
  rw [this]
  simp
theorem or128f : ∀ x : Fin 64, bits .or .u8 128 ((x.val : Nat) : Int) = 128 + ((x.val : Nat) : Int) := by decide +kernel
theorem or128 (x : Int) (h : 0 ≤ x ∧ x < 64) : bits .or .u8 128 x = 128 + x := by
  have := or128f ⟨x.toNat, by omega⟩
  rwa [show (((⟨x.toNat, by omega⟩ : Fin 64).val : Nat) : Int) = x from Int.toNat_of_nonneg h.1] at this
set_option maxHeartbeats 4000000 in
theorem cborUtf8_ok (b : List Int) (point cut : Int) (hb0 : Byt b ∧ b.length ≤ 9223372036854775807) (hp : -9223372036854775808 ≤ point ∧ point < 9223372036854775808) (hc : -9223372036854775808 ≤ cut ∧ cut < 9223372036854775808) :
    ACall Tryd.prog 4 [.ro b.length (bys b), .int .i64 point, .int .i64 cut] (.bool true) [] := by
  obtain ⟨hb, _⟩ := hb0
  have w1 : IntKind.u64.wrap point = point % 18446744073709551616 := wrap_u64 point
  have w2 : IntKind.u64.wrap cut = cut % 18446744073709551616 := wrap_u64 cut
  obtain ⟨p, hp1, hp2⟩ : ∃ p : Nat, (point % 18446744073709551616).tmod 1114112 = (p : Int) ∧ p ≤ 1114111 := ⟨(point % 18446744073709551616 % 1114112).toNat, by rw [Int.tmod_eq_emod_of_nonneg (by omega)]; omega, by omega⟩
  refine ACall.of_does TTok Tryd.func4 rfl Tryd.call4 rfl (wpc_sound (M := MC) (PL := PL0) (CU := noCut) TTok mixed _ _ _ ?_)
  conv => whnf
  refine ifB_dec (fun k1 => ?_) (fun k1 => ?_)
  · conv => whnf
    repeat ((refine ⟨rfl, ?_⟩); conv => whnf)
    rfl
  have u1 := utf8_ok b hb (by omega)
  have u2 := refUtf8_ok b hb (by omega)
  conv => whnf
  repeat ((first | refine ⟨pureL_bys _, ?_⟩ | refine ⟨rfl, ?_⟩); conv => whnf)
  refine ⟨_, _, u1, by first | rfl | simp [noRoIf, noRoL, noRoV, noRoL_bys], ?_⟩
  conv => whnf
  repeat ((first | refine ⟨pureL_bys _, ?_⟩ | refine ⟨rfl, ?_⟩); conv => whnf)
  refine ⟨_, _, u2, by first | rfl | simp [noRoIf, noRoL, noRoV, noRoL_bys], ?_⟩
  conv => whnf
  cases hv : validR b
  all_goals
    conv => whnf
    repeat ((refine ifB_f ?_); conv => whnf)
    refine fit_wrap ?_
    rw [w1]
    conv => whnf
    repeat ((first | (refine fit_i64 ⟨by first | omega | rfl | (dsimp only; omega), by first | omega | rfl | (dsimp only; omega)⟩ ?_) | (refine And.intro (by first | omega | rfl | (dsimp only; omega)) ?_)); conv => whnf)
    rw [hp1]
    conv => whnf
    refine fit_i32 ⟨by omega, by omega⟩ ?_
    conv => whnf
    obtain ⟨U, hU⟩ : ∃ U, bytesOf (Utf8.encode (p : Int)) = U := ⟨_, rfl⟩
    rw [hU]
    refine ifB_dec (fun k2 => ?_) (fun k2 => ?_)
    conv => whnf
    repeat ((refine ifB_t ?_); conv => whnf)
    refine ifB_dec (fun k3 => ?_) (fun k3 => ?_)
    · have e1 : (p : Int) / 2 ^ min (Int.toNat 12) IntKind.i64.bits = 13 := by
        show (p : Int) / 4096 = 13
        omega
      have e2 : bits .and .i64 ((p : Int) / 2 ^ min (Int.toNat 6) IntKind.i64.bits) 63 = (p : Int) / 64 % 64 := i64_and 6 (by decide) ((p : Int) / 64) (by omega) (by omega)
      have e3 : bits .and .i64 (p : Int) 63 = (p : Int) % 64 := i64_and 6 (by decide) (p : Int) (by omega) (by omega)
      have e5 : bits .or .u8 128 ((p : Int) / 64 % 64) = 128 + (p : Int) / 64 % 64 := or128 _ (by omega)
      have e6 : bits .or .u8 128 ((p : Int) % 64) = 128 + (p : Int) % 64 := or128 _ (by omega)
      conv => whnf
      repeat ((first | (refine fit_u8 ⟨by first | omega | rfl | (dsimp only; omega), by first | omega | rfl | (dsimp only; omega)⟩ ?_) | (refine Or.inl ⟨⟨rfl, ?_⟩, ?_⟩; (focus (first | rfl | (simp; done) | (rw [toksC_length]; omega)))) | refine ⟨rfl, ?_⟩ | (refine And.intro (by first | omega | rfl | (dsimp only; omega)) ?_)); conv => whnf)
      rw [e1, e2, e3, e5, e6]
      have hL : Byt [237, 128 + (p : Int) / 64 % 64, 128 + (p : Int) % 64] := by
        intro x hx
        simp at hx
        omega
      have u3 := utf8_ok [237, 128 + (p : Int) / 64 % 64, 128 + (p : Int) % 64] hL (by simp)
      rw [surr (p : Int) (by omega)] at u3
      refine ⟨_, _, u3, by first | rfl | simp [noRoIf, noRoL, noRoV, noRoL_bys], ?_⟩
      conv => whnf
      repeat ((first | refine ifB_t ?_ | refine ⟨rfl, ?_⟩); conv => whnf)
      conv => whnf
      refine ⟨_, _, wakes_ok, by first | rfl | simp [noRoIf, noRoL, noRoV, noRoL_bys], ?_⟩
      conv => whnf
      repeat ((first | refine ifB_t ?_ | refine ⟨rfl, ?_⟩); conv => whnf)
      rfl
    · have hns : ¬ (55296 ≤ p ∧ p ≤ 57343) := by omega
      rw [uEnc_eq p hp2 hns] at hU
      subst hU
      obtain ⟨hub, hul1, hul4⟩ := uEnc_byt (p : Int) (by omega)
      have ut := uEnc_then (p : Int) (by omega) (by omega)
      have uc := uEnc_cut (p : Int) (by omega)
      have ud := uEnc_drop (p : Int) (by omega)
      generalize uEnc (p : Int) = U at hub hul1 hul4 ut uc ud ⊢
      have v1 := utf8_ok U hub (by omega)
      rw [show validR U = true by have := ut []; rw [List.append_nil] at this; rw [this]; rfl] at v1
      have v4 := utf8_ok (U ++ U) (fun x hx => by rcases List.mem_append.1 hx with h | h <;> exact hub x h) (by simp; omega)
      rw [ut U, show validR U = true by have := ut []; rw [List.append_nil] at this; rw [this]; rfl] at v4
      have v5 := utf8_ok (U ++ [255]) (fun x hx => by rcases List.mem_append.1 hx with h | h; exact hub x h; simp at h; omega) (by simp; omega)
      rw [ut [255], validR_none (by decide) (by decide) []] at v5
      have t1 := twin_ok U (by omega)
      conv => whnf
      repeat ((first | refine ⟨pureL_bys _, ?_⟩ | (refine Or.inl ⟨⟨rfl, ?_⟩, ?_⟩; (focus (first | rfl | (simp; done) | (rw [toksC_length]; omega)))) | refine ⟨rfl, ?_⟩); conv => whnf)
      refine ⟨_, _, v1, by first | rfl | simp [noRoIf, noRoL, noRoV, noRoL_bys], ?_⟩
      conv => whnf
      repeat ((refine ifB_f ?_); conv => whnf)
      conv => whnf
      refine ifB_dec (fun k4 => ?_) (fun k4 => ?_)
      · obtain ⟨c, hc1, hc2⟩ : ∃ c : Nat, (cut % 18446744073709551616).tmod ((U.length : Int) - 1) = (c : Int) ∧ c < U.length - 1 := ⟨(cut % 18446744073709551616 % ((U.length : Int) - 1)).toNat, by rw [Int.tmod_eq_emod_of_nonneg (by omega)]; have := Int.emod_nonneg (cut % 18446744073709551616) (show (U.length : Int) - 1 ≠ 0 by omega); omega, by have := Int.emod_lt_of_pos (cut % 18446744073709551616) (show (0 : Int) < (U.length : Int) - 1 by omega); have := Int.emod_nonneg (cut % 18446744073709551616) (show (U.length : Int) - 1 ≠ 0 by omega); omega⟩
        have v2 := utf8_ok (U.take (1 + c)) (fun x hx => hub x (List.mem_of_mem_take hx)) (by simp; omega)
        have v3 := utf8_ok (U.drop 1) (fun x hx => hub x (List.mem_of_mem_drop hx)) (by simp; omega)
        rw [uc (1 + c) (by omega) (by omega)] at v2
        rw [ud (by omega)] at v3
        conv => whnf
        repeat ((refine ifB_t ?_); conv => whnf)
        refine fit_wrap ?_
        rw [w2]
        conv => whnf
        repeat ((first | refine ifB_t ?_ | (refine fit_i64 ⟨by first | omega | rfl | (dsimp only; omega), by first | omega | rfl | (dsimp only; omega)⟩ ?_) | (refine fit_u64 ⟨by first | omega | rfl | (dsimp only; omega), by first | omega | rfl | (dsimp only; omega)⟩ ?_) | refine ⟨pureL_bys _, ?_⟩ | (refine And.intro (by first | omega | rfl | (dsimp only; omega)) ?_) | (refine ⟨⟨rfl, ?_⟩, ?_⟩; (focus (first | (simp only [okB]; omega) | (simp [okB]; omega))))); conv => whnf)
        rw [hc1]
        conv => whnf
        refine Or.inr ?_
        conv => whnf
        repeat ((refine ⟨rfl, ?_⟩); conv => whnf)
        refine ⟨_, _, ACall.arg1 v2 (by simp [lenB]; omega) (by simp [offB, lenB]; rw [show (1 + (c : Int)).toNat = 1 + c by omega]; simp [bys]), by first | rfl | simp [noRoIf, noRoL, noRoV, noRoL_bys], ?_⟩
        conv => whnf
        repeat ((first | refine ifB_t ?_ | refine ifB_f ?_ | refine ⟨pureL_bys _, ?_⟩ | (refine ⟨⟨rfl, ?_⟩, ?_⟩; (focus (first | (simp only [okB]; omega) | (simp [okB]; omega))))); conv => whnf)
        conv => whnf
        refine Or.inr ?_
        conv => whnf
        repeat ((refine ⟨rfl, ?_⟩); conv => whnf)
        refine ⟨_, _, ACall.arg1 v3 (by simp [lenB]) (by simp [offB, lenB, bys]; rw [List.take_of_length_le (by simp)]), by first | rfl | simp [noRoIf, noRoL, noRoV, noRoL_bys], ?_⟩
        conv => whnf
        repeat ((first | refine ifB_t ?_ | refine ifB_f ?_ | refine ⟨pureL_bys _, ?_⟩ | (refine Or.inl ⟨⟨rfl, ?_⟩, ?_⟩; (focus (first | rfl | (simp; done) | (rw [toksC_length]; omega)))) | refine ⟨rfl, ?_⟩); conv => whnf)
        conv => whnf
        refine ⟨_, _, t1, by first | rfl | simp [noRoIf, noRoL, noRoV, noRoL_bys], ?_⟩
        conv => whnf
        repeat ((first | refine ⟨ones_bys _, ?_⟩ | (refine Or.inl ⟨⟨rfl, ?_⟩, ?_⟩; (focus (first | rfl | (simp; done) | (rw [toksC_length]; omega)))) | (refine ⟨⟨rfl, rfl, ?_, ?_⟩, ?_⟩; (focus (first | (simp [lenB, offB]; done) | (simp [lenB, offB]; omega))); (focus (first | (simp [limB, lenB, offB]; done) | (simp [limB, lenB, offB]; omega))))); conv => whnf)
        conv => whnf
        refine And.intro (by rw [show bys U ++ List.map (AV.int .u8) U = bys (U ++ U) by simp [bys]]; exact pureL_bys _) (Or.inl (And.intro (And.intro rfl ?_) ?_))
        · simp [bys]
        conv => whnf
        repeat ((refine ⟨rfl, ?_⟩); conv => whnf)
        refine ⟨_, _, ACall.arg1 v4 (by simp) (by simp [bys]), by first | rfl | simp [noRoIf, noRoL, noRoV, noRoL_bys], ?_⟩
        conv => whnf
        repeat ((first | refine ifB_t ?_ | refine ⟨pureL_bys _, ?_⟩ | (refine Or.inl ⟨⟨rfl, ?_⟩, ?_⟩; (focus (first | rfl | (simp; done) | (rw [toksC_length]; omega)))) | refine ⟨rfl, ?_⟩); conv => whnf)
        conv => whnf
        refine ⟨_, _, t1, by first | rfl | simp [noRoIf, noRoL, noRoV, noRoL_bys], ?_⟩
        conv => whnf
        repeat ((first | refine ifB_t ?_ | (refine Or.inl ⟨⟨rfl, ?_⟩, ?_⟩; (focus (first | rfl | (simp; done) | (rw [toksC_length]; omega)))) | refine ⟨rfl, ?_⟩ | (refine ⟨⟨rfl, rfl, ?_, ?_⟩, ?_⟩; (focus (first | (simp [lenB, offB]; done) | (simp [lenB, offB]; omega))); (focus (first | (simp [limB, lenB, offB]; done) | (simp [limB, lenB, offB]; omega)))) | (refine And.intro ?_ ?_; (focus (simp [pureL, pureV, pureL_bys, pureL_toks, pureL_app]; done)))); conv => whnf)
        conv => whnf
        refine ⟨_, _, ACall.arg1 v5 (by simp) (by simp [bys]), by first | rfl | simp [noRoIf, noRoL, noRoV, noRoL_bys], ?_⟩
        conv => whnf
        repeat ((first | refine ifB_t ?_ | refine ⟨rfl, ?_⟩); conv => whnf)
        conv => whnf
        refine ⟨_, _, wakes_ok, by first | rfl | simp [noRoIf, noRoL, noRoV, noRoL_bys], ?_⟩
        conv => whnf
        repeat ((first | refine ifB_t ?_ | refine ⟨rfl, ?_⟩); conv => whnf)
        rfl
      conv => whnf
      repeat ((first | refine ifB_f ?_ | refine ⟨pureL_bys _, ?_⟩ | (refine Or.inl ⟨⟨rfl, ?_⟩, ?_⟩; (focus (first | rfl | (simp; done) | (rw [toksC_length]; omega)))) | refine ⟨rfl, ?_⟩); conv => whnf)
      refine ⟨_, _, t1, by first | rfl | simp [noRoIf, noRoL, noRoV, noRoL_bys], ?_⟩
      conv => whnf
      repeat ((first | refine ⟨ones_bys _, ?_⟩ | (refine Or.inl ⟨⟨rfl, ?_⟩, ?_⟩; (focus (first | rfl | (simp; done) | (rw [toksC_length]; omega)))) | (refine ⟨⟨rfl, rfl, ?_, ?_⟩, ?_⟩; (focus (first | (simp [lenB, offB]; done) | (simp [lenB, offB]; omega))); (focus (first | (simp [limB, lenB, offB]; done) | (simp [limB, lenB, offB]; omega))))); conv => whnf)
      conv => whnf
      refine And.intro (by rw [show bys U ++ List.map (AV.int .u8) U = bys (U ++ U) by simp [bys]]; exact pureL_bys _) (Or.inl (And.intro (And.intro rfl ?_) ?_))
      · simp [bys]
      conv => whnf
      repeat ((refine ⟨rfl, ?_⟩); conv => whnf)
      refine ⟨_, _, ACall.arg1 v4 (by simp) (by simp [bys]), by first | rfl | simp [noRoIf, noRoL, noRoV, noRoL_bys], ?_⟩
      conv => whnf
      repeat ((first | refine ifB_t ?_ | refine ⟨pureL_bys _, ?_⟩ | (refine Or.inl ⟨⟨rfl, ?_⟩, ?_⟩; (focus (first | rfl | (simp; done) | (rw [toksC_length]; omega)))) | refine ⟨rfl, ?_⟩); conv => whnf)
      conv => whnf
      refine ⟨_, _, t1, by first | rfl | simp [noRoIf, noRoL, noRoV, noRoL_bys], ?_⟩
      conv => whnf
      repeat ((first | refine ifB_t ?_ | (refine Or.inl ⟨⟨rfl, ?_⟩, ?_⟩; (focus (first | rfl | (simp; done) | (rw [toksC_length]; omega)))) | refine ⟨rfl, ?_⟩ | (refine ⟨⟨rfl, rfl, ?_, ?_⟩, ?_⟩; (focus (first | (simp [lenB, offB]; done) | (simp [lenB, offB]; omega))); (focus (first | (simp [limB, lenB, offB]; done) | (simp [limB, lenB, offB]; omega)))) | (refine And.intro ?_ ?_; (focus (simp [pureL, pureV, pureL_bys, pureL_toks, pureL_app]; done)))); conv => whnf)
      conv => whnf
      refine ⟨_, _, ACall.arg1 v5 (by simp) (by simp [bys]), by first | rfl | simp [noRoIf, noRoL, noRoV, noRoL_bys], ?_⟩
      conv => whnf
      repeat ((first | refine ifB_t ?_ | refine ⟨rfl, ?_⟩); conv => whnf)
      conv => whnf
      refine ⟨_, _, wakes_ok, by first | rfl | simp [noRoIf, noRoL, noRoV, noRoL_bys], ?_⟩
      conv => whnf
      repeat ((first | refine ifB_t ?_ | refine ⟨rfl, ?_⟩); conv => whnf)
      rfl
    · have hns : ¬ (55296 ≤ p ∧ p ≤ 57343) := by omega
      rw [uEnc_eq p hp2 hns] at hU
      subst hU
      obtain ⟨hub, hul1, hul4⟩ := uEnc_byt (p : Int) (by omega)
      have ut := uEnc_then (p : Int) (by omega) (by omega)
      have uc := uEnc_cut (p : Int) (by omega)
      have ud := uEnc_drop (p : Int) (by omega)
      generalize uEnc (p : Int) = U at hub hul1 hul4 ut uc ud ⊢
      have v1 := utf8_ok U hub (by omega)
      rw [show validR U = true by have := ut []; rw [List.append_nil] at this; rw [this]; rfl] at v1
      have v4 := utf8_ok (U ++ U) (fun x hx => by rcases List.mem_append.1 hx with h | h <;> exact hub x h) (by simp; omega)
      rw [ut U, show validR U = true by have := ut []; rw [List.append_nil] at this; rw [this]; rfl] at v4
      have v5 := utf8_ok (U ++ [255]) (fun x hx => by rcases List.mem_append.1 hx with h | h; exact hub x h; simp at h; omega) (by simp; omega)
      rw [ut [255], validR_none (by decide) (by decide) []] at v5
      have t1 := twin_ok U (by omega)
      conv => whnf
      repeat ((first | refine ifB_f ?_ | refine ⟨pureL_bys _, ?_⟩ | (refine Or.inl ⟨⟨rfl, ?_⟩, ?_⟩; (focus (first | rfl | (simp; done) | (rw [toksC_length]; omega)))) | refine ⟨rfl, ?_⟩); conv => whnf)
      refine ⟨_, _, v1, by first | rfl | simp [noRoIf, noRoL, noRoV, noRoL_bys], ?_⟩
      conv => whnf
      repeat ((refine ifB_f ?_); conv => whnf)
      conv => whnf
      refine ifB_dec (fun k4 => ?_) (fun k4 => ?_)
      · obtain ⟨c, hc1, hc2⟩ : ∃ c : Nat, (cut % 18446744073709551616).tmod ((U.length : Int) - 1) = (c : Int) ∧ c < U.length - 1 := ⟨(cut % 18446744073709551616 % ((U.length : Int) - 1)).toNat, by rw [Int.tmod_eq_emod_of_nonneg (by omega)]; have := Int.emod_nonneg (cut % 18446744073709551616) (show (U.length : Int) - 1 ≠ 0 by omega); omega, by have := Int.emod_lt_of_pos (cut % 18446744073709551616) (show (0 : Int) < (U.length : Int) - 1 by omega); have := Int.emod_nonneg (cut % 18446744073709551616) (show (U.length : Int) - 1 ≠ 0 by omega); omega⟩
        have v2 := utf8_ok (U.take (1 + c)) (fun x hx => hub x (List.mem_of_mem_take hx)) (by simp; omega)
        have v3 := utf8_ok (U.drop 1) (fun x hx => hub x (List.mem_of_mem_drop hx)) (by simp; omega)
        rw [uc (1 + c) (by omega) (by omega)] at v2
        rw [ud (by omega)] at v3
        conv => whnf
        repeat ((refine ifB_t ?_); conv => whnf)
        refine fit_wrap ?_
        rw [w2]
        conv => whnf
        repeat ((first | refine ifB_t ?_ | (refine fit_i64 ⟨by first | omega | rfl | (dsimp only; omega), by first | omega | rfl | (dsimp only; omega)⟩ ?_) | (refine fit_u64 ⟨by first | omega | rfl | (dsimp only; omega), by first | omega | rfl | (dsimp only; omega)⟩ ?_) | refine ⟨pureL_bys _, ?_⟩ | (refine And.intro (by first | omega | rfl | (dsimp only; omega)) ?_) | (refine ⟨⟨rfl, ?_⟩, ?_⟩; (focus (first | (simp only [okB]; omega) | (simp [okB]; omega))))); conv => whnf)
        rw [hc1]
        conv => whnf
        refine Or.inr ?_
        conv => whnf
        repeat ((refine ⟨rfl, ?_⟩); conv => whnf)
        refine ⟨_, _, ACall.arg1 v2 (by simp [lenB]; omega) (by simp [offB, lenB]; rw [show (1 + (c : Int)).toNat = 1 + c by omega]; simp [bys]), by first | rfl | simp [noRoIf, noRoL, noRoV, noRoL_bys], ?_⟩
        conv => whnf
        repeat ((first | refine ifB_t ?_ | refine ifB_f ?_ | refine ⟨pureL_bys _, ?_⟩ | (refine ⟨⟨rfl, ?_⟩, ?_⟩; (focus (first | (simp only [okB]; omega) | (simp [okB]; omega))))); conv => whnf)
        conv => whnf
        refine Or.inr ?_
        conv => whnf
        repeat ((refine ⟨rfl, ?_⟩); conv => whnf)
        refine ⟨_, _, ACall.arg1 v3 (by simp [lenB]) (by simp [offB, lenB, bys]; rw [List.take_of_length_le (by simp)]), by first | rfl | simp [noRoIf, noRoL, noRoV, noRoL_bys], ?_⟩
        conv => whnf
        repeat ((first | refine ifB_t ?_ | refine ifB_f ?_ | refine ⟨pureL_bys _, ?_⟩ | (refine Or.inl ⟨⟨rfl, ?_⟩, ?_⟩; (focus (first | rfl | (simp; done) | (rw [toksC_length]; omega)))) | refine ⟨rfl, ?_⟩); conv => whnf)
        conv => whnf
        refine ⟨_, _, t1, by first | rfl | simp [noRoIf, noRoL, noRoV, noRoL_bys], ?_⟩
        conv => whnf
        repeat ((first | refine ⟨ones_bys _, ?_⟩ | (refine Or.inl ⟨⟨rfl, ?_⟩, ?_⟩; (focus (first | rfl | (simp; done) | (rw [toksC_length]; omega)))) | (refine ⟨⟨rfl, rfl, ?_, ?_⟩, ?_⟩; (focus (first | (simp [lenB, offB]; done) | (simp [lenB, offB]; omega))); (focus (first | (simp [limB, lenB, offB]; done) | (simp [limB, lenB, offB]; omega))))); conv => whnf)
        conv => whnf
        refine And.intro (by rw [show bys U ++ List.map (AV.int .u8) U = bys (U ++ U) by simp [bys]]; exact pureL_bys _) (Or.inl (And.intro (And.intro rfl ?_) ?_))
        · simp [bys]
        conv => whnf
        repeat ((refine ⟨rfl, ?_⟩); conv => whnf)
        refine ⟨_, _, ACall.arg1 v4 (by simp) (by simp [bys]), by first | rfl | simp [noRoIf, noRoL, noRoV, noRoL_bys], ?_⟩
        conv => whnf
        repeat ((first | refine ifB_t ?_ | refine ⟨pureL_bys _, ?_⟩ | (refine Or.inl ⟨⟨rfl, ?_⟩, ?_⟩; (focus (first | rfl | (simp; done) | (rw [toksC_length]; omega)))) | refine ⟨rfl, ?_⟩); conv => whnf)
        conv => whnf
        refine ⟨_, _, t1, by first | rfl | simp [noRoIf, noRoL, noRoV, noRoL_bys], ?_⟩
        conv => whnf
        repeat ((first | refine ifB_t ?_ | (refine Or.inl ⟨⟨rfl, ?_⟩, ?_⟩; (focus (first | rfl | (simp; done) | (rw [toksC_length]; omega)))) | refine ⟨rfl, ?_⟩ | (refine ⟨⟨rfl, rfl, ?_, ?_⟩, ?_⟩; (focus (first | (simp [lenB, offB]; done) | (simp [lenB, offB]; omega))); (focus (first | (simp [limB, lenB, offB]; done) | (simp [limB, lenB, offB]; omega)))) | (refine And.intro ?_ ?_; (focus (simp [pureL, pureV, pureL_bys, pureL_toks, pureL_app]; done)))); conv => whnf)
        conv => whnf
        refine ⟨_, _, ACall.arg1 v5 (by simp) (by simp [bys]), by first | rfl | simp [noRoIf, noRoL, noRoV, noRoL_bys], ?_⟩
        conv => whnf
        repeat ((first | refine ifB_t ?_ | refine ⟨rfl, ?_⟩); conv => whnf)
        conv => whnf
        refine ⟨_, _, wakes_ok, by first | rfl | simp [noRoIf, noRoL, noRoV, noRoL_bys], ?_⟩
        conv => whnf
        repeat ((first | refine ifB_t ?_ | refine ⟨rfl, ?_⟩); conv => whnf)
        rfl
      conv => whnf
      repeat ((first | refine ifB_f ?_ | refine ⟨pureL_bys _, ?_⟩ | (refine Or.inl ⟨⟨rfl, ?_⟩, ?_⟩; (focus (first | rfl | (simp; done) | (rw [toksC_length]; omega)))) | refine ⟨rfl, ?_⟩); conv => whnf)
      refine ⟨_, _, t1, by first | rfl | simp [noRoIf, noRoL, noRoV, noRoL_bys], ?_⟩
      conv => whnf
      repeat ((first | refine ⟨ones_bys _, ?_⟩ | (refine Or.inl ⟨⟨rfl, ?_⟩, ?_⟩; (focus (first | rfl | (simp; done) | (rw [toksC_length]; omega)))) | (refine ⟨⟨rfl, rfl, ?_, ?_⟩, ?_⟩; (focus (first | (simp [lenB, offB]; done) | (simp [lenB, offB]; omega))); (focus (first | (simp [limB, lenB, offB]; done) | (simp [limB, lenB, offB]; omega))))); conv => whnf)
      conv => whnf
      refine And.intro (by rw [show bys U ++ List.map (AV.int .u8) U = bys (U ++ U) by simp [bys]]; exact pureL_bys _) (Or.inl (And.intro (And.intro rfl ?_) ?_))
      · simp [bys]
      conv => whnf
      repeat ((refine ⟨rfl, ?_⟩); conv => whnf)
      refine ⟨_, _, ACall.arg1 v4 (by simp) (by simp [bys]), by first | rfl | simp [noRoIf, noRoL, noRoV, noRoL_bys], ?_⟩
      conv => whnf
      repeat ((first | refine ifB_t ?_ | refine ⟨pureL_bys _, ?_⟩ | (refine Or.inl ⟨⟨rfl, ?_⟩, ?_⟩; (focus (first | rfl | (simp; done) | (rw [toksC_length]; omega)))) | refine ⟨rfl, ?_⟩); conv => whnf)
      conv => whnf
      refine ⟨_, _, t1, by first | rfl | simp [noRoIf, noRoL, noRoV, noRoL_bys], ?_⟩
      conv => whnf
      repeat ((first | refine ifB_t ?_ | (refine Or.inl ⟨⟨rfl, ?_⟩, ?_⟩; (focus (first | rfl | (simp; done) | (rw [toksC_length]; omega)))) | refine ⟨rfl, ?_⟩ | (refine ⟨⟨rfl, rfl, ?_, ?_⟩, ?_⟩; (focus (first | (simp [lenB, offB]; done) | (simp [lenB, offB]; omega))); (focus (first | (simp [limB, lenB, offB]; done) | (simp [limB, lenB, offB]; omega)))) | (refine And.intro ?_ ?_; (focus (simp [pureL, pureV, pureL_bys, pureL_toks, pureL_app]; done)))); conv => whnf)
      conv => whnf
      refine ⟨_, _, ACall.arg1 v5 (by simp) (by simp [bys]), by first | rfl | simp [noRoIf, noRoL, noRoV, noRoL_bys], ?_⟩
      conv => whnf
      repeat ((first | refine ifB_t ?_ | refine ⟨rfl, ?_⟩); conv => whnf)
      conv => whnf
      refine ⟨_, _, wakes_ok, by first | rfl | simp [noRoIf, noRoL, noRoV, noRoL_bys], ?_⟩
      conv => whnf
      repeat ((first | refine ifB_t ?_ | refine ⟨rfl, ?_⟩); conv => whnf)
      rfl
end Go.Proofs.YtobjehjfdmelhaaDoor.Abs
end
section
set_option linter.unusedVariables false
namespace Go.Proofs.YtobjehjfdmelhaaDoor.Abs
open Go Go.Shelf Go.Lib
theorem first_eq : ∀ c : Fin 256, firstT c.val = utf8First.getD c.val 0 := by decide +kernel
theorem acc_eq : ∀ i : Fin 16, accLo i.val = utf8Ranges.getD (2 * i.val) 0 ∧ accHi i.val = utf8Ranges.getD (2 * i.val + 1) 0 := by decide +kernel
theorem tabOk_of {W : World} (h : Lib.Utf8Tabs 0 1 W) : TabOk (env0 W) := by
  obtain ⟨h1, h2⟩ := h
  have l1 : utf8First.length = 256 := by decide +kernel
  have l2 : utf8Ranges.length = 32 := by decide +kernel
  have s0 : 0 < W.heap.size := World.block_lt_of_cell? _ _ (h1 0 (by omega))
  have s1 : 1 < W.heap.size := World.block_lt_of_cell? _ _ (h2 0 (by omega)).1
  intro g k l hg
  unfold tabs at hg
  by_cases g0 : g = 0
  · subst g0
    simp only [Nat.beq_refl, cond_true, Option.some.injEq, Prod.mk.injEq] at hg
    obtain ⟨rfl, rfl⟩ := hg
    refine ⟨s0, fun hv => hv, fun j x hx => ?_⟩
    have hj : j < 256 := by rw [← l1]; exact (List.getElem?_eq_some_iff.1 hx).1
    have := h1 j hj
    have e := first_eq ⟨j, hj⟩
    simp only at e
    rw [e, List.getD_eq_getElem?_getD, hx] at this
    exact this
  · have hb : Nat.beq g 0 = false := by
      cases hh : Nat.beq g 0
      · rfl
      · exact absurd (Nat.eq_of_beq_eq_true hh) g0
    rw [hb, cond_false] at hg
    by_cases g1 : g = 1
    · subst g1
      simp only [Nat.beq_refl, cond_true, Option.some.injEq, Prod.mk.injEq] at hg
      obtain ⟨rfl, rfl⟩ := hg
      refine ⟨s1, fun hv => hv, fun j x hx => ?_⟩
      have hj : j < 32 := by rw [← l2]; exact (List.getElem?_eq_some_iff.1 hx).1
      have e := acc_eq ⟨j / 2, by omega⟩
      obtain ⟨q1, q2⟩ := h2 (j / 2) (by omega)
      simp only at e
      rw [e.1] at q1
      rw [e.2] at q2
      rcases Nat.mod_two_eq_zero_or_one j with hm | hm
      · have ej : 2 * (j / 2) = j := by omega
        rw [ej, List.getD_eq_getElem?_getD, hx] at q1
        exact q1
      · have ej : 2 * (j / 2) + 1 = j := by omega
        rw [ej, List.getD_eq_getElem?_getD, hx] at q2
        exact q2
    · have hb : Nat.beq g 1 = false := by
        cases hh : Nat.beq g 1
        · rfl
        · exact absurd (Nat.eq_of_beq_eq_true hh) g1
      rw [hb, cond_false] at hg
      cases hg
/-- The numbers of this program's types and tables. -/
def utRen : Ren := ⟨fun x => x, fun n => if n = 5 then 5 else if n = 119 then 67 else if n = 138 then 69 else 70, fun n => if n = 3 then 0 else 1⟩
theorem tabOk_of_laid {W : World} (hL : laidMet Tryd.prog [("unicode/utf8.acceptRanges", Rows.laid_unicode_utf8_acceptRanges), ("unicode/utf8.first", Rows.laid_unicode_utf8_first)] W) : TabOk (env0 W) := by
  have e1 : Rows.laid_unicode_utf8_first = Lib.firstData := Pinned.utf8First_eq
  have e2 : (Rows.laid_unicode_utf8_acceptRanges : DataW Unit) = Lib.acceptData := by kernel_rfl
  rw [e1, e2] at hL
  exact tabOk_of (utf8Tabs_of_readsT (P := Tryd.prog) (ρ := utRen) ⟨by kernel_rfl, by kernel_rfl, by kernel_rfl, by kernel_rfl⟩ ⟨by kernel_rfl, by kernel_rfl, by kernel_rfl, by kernel_rfl, by kernel_rfl, by kernel_rfl, by kernel_rfl⟩
    (Lib.laidMet.reads hL (.tail _ (.head _))) (Lib.laidMet.reads hL (.head _)))
end Go.Proofs.YtobjehjfdmelhaaDoor.Abs
end
section
namespace Go.Proofs.YtobjehjfdmelhaaDoor.cborUtf8
open Go Go.ChangeShapes Go.WideShapes Go.ChangeAt Go.RowKit Go.Proofs.YtobjehjfdmelhaaDoor.Abs
set_option linter.unusedVariables false
set_option linter.unusedSimpArgs false
theorem own : ownKnob Tryd.prog.godebug = none := by kernel_rfl
theorem laidOut : laidOutB Tryd.prog = true := by kernel_rfl
noncomputable def laidWorld (os : Os) : World := World.laidAll Tryd.prog os Rows.cborUtf8Row.laid
theorem laid_met (os : Os) (args : Array Value) : laidMetH Tryd.prog Rows.cborUtf8Row.laid ((laidWorld os).forCall (fun _ _ => 0) ⟨#[], args, []⟩).memory := by
  rw [MakeChecks.laidMetH_plain _ _ _ (by kernel_rfl)]
  exact laidMet_laidAll args (by kernel_rfl) (by kernel_rfl)
set_option maxRecDepth 100000 in
theorem lifted (os : Os) (started : os.Started) (H : Type) (enc : TypeId × Value → H) :
    ReturnsInHanded {} Tryd.checked os 4 .any (fun w args => (Rows.cborUtf8Spec.pre enc Tryd.prog Tryd.f4 [] false w args ∧ laidMetH Tryd.prog Rows.cborUtf8Row.laid w) ∧ sizedMet enc Tryd.prog Tryd.f4 (OpenSpec.ofChange Rows.cborUtf8Spec) false w args)
      (Rows.cborUtf8Spec.post enc Tryd.prog Tryd.f4 false true false false) := by
  refine returnsInHanded_of_change_and (C := Tryd.checked) (X := fun w _ => laidMetH Tryd.prog Rows.cborUtf8Row.laid w) (fun _ _ _ hh h => h.of_heap hh) own started (by kernel_rfl) Tryd.func4
    (ChangeSpec.witness_shaped (enc := enc) (C := Tryd.checked) (os := os) (X := fun w _ => laidMetH Tryd.prog Rows.cborUtf8Row.laid w) false (laidWorld os) #[.slice none 0 0, .int .i64 0, .int .i64 0] 8 (World.laidAll_os _ _ _) (World.shaped_of_RefB (by kernel_rfl) (by kernel_rfl)) (by kernel_rfl) (by kernel_rfl) (by kernel_rfl) (laid_met os _)) ?_
  intro W base args ds gs before hval0 hW _ _ hL _
  have hval : ∀ (j : Nat) t v, Tryd.f4.params[j]? = some t → args[j]? = some v → Value.okWide Tryd.prog W .any base t v := hval0
  have hW' := hW
  obtain ⟨p, q, hA0, hV, rfl, hfz, hnd⟩ := hW
  have hA : DataW.TrodAll enc Tryd.prog W 0 (fun _ => true) true Tryd.f4.params.toList args.toList ds p := hA0
  rw [Tryd.params4] at hA hval
  rw [MakeChecks.laidMetH_plain _ _ _ (by kernel_rfl)] at hL
  have htab : TabOk (env0 W) := tabOk_of_laid hL
  obtain ⟨v0, vs0, d0, ds0, p0, q0, hargs, rfl, rfl, h0, r0⟩ := trodAll_cons hA
  obtain ⟨v1, vs1, d1, ds1, p1, q1, rfl, rfl, rfl, h1, r1⟩ := trodAll_cons r0
  obtain ⟨v2, vs2, d2, ds2, p2, q2, rfl, rfl, rfl, h2, r2⟩ := trodAll_cons r1
  obtain ⟨rfl, rfl, rfl⟩ := trodAll_nil r2
  obtain rfl : args = #[v0, v1, v2] := by cases args; simp_all
  obtain ⟨rfl, rfl⟩ := trodVars_none hV
  obtain ⟨a0, len0, cap0, rfl⟩ := okWide_slice Tryd.underlying22 (hval 0 22 v0 rfl rfl)
  have k0 := h0
  have lt0 : ∀ x ∈ p0, x.block < W.heap.size := by obtain ⟨m, hm⟩ := k0; exact DataW.trod_lt m _ _ _ hm
  obtain ⟨x0, w0, t0⟩ := (by obtain ⟨fuel, hf⟩ := h0; exact open_any TTok 4 fuel 22 _ _ (by kernel_rfl) hf : ∃ xs, RepL (env0 W) xs (Value.cells _).toList ∧ TyL TT 4 22 xs)
  obtain ⟨l0, rfl, b0⟩ := bytes_of_slice t0
  have w0 := rep_one w0 rfl
  obtain ⟨a1, rfl, rfl, rfl, w1⟩ := open_int Tryd.underlying3 (hval 1 3 v1 rfl rfl) h1
  obtain ⟨a2, rfl, rfl, rfl, w2⟩ := open_int Tryd.underlying3 (hval 2 3 v2 rfl rfl) h2
  clear hA0 hval0
  refine (ACall.row (cborUtf8_ok l0 a1 a2 b0 (wf_i64 w1) (wf_i64 w2)) (by simp [pureL, pureV, pureL_bys, pureL_ints, pureL_toks]) (W := W) (vals := [.slice a0 len0 cap0, .int .i64 a1, .int .i64 a2]) (by simp only [RepL]; exact ⟨_, _, rfl, w0, ⟨_, _, rfl, rep_int _ _ _, ⟨_, _, rfl, rep_int _ _ _, rfl⟩⟩⟩) htab).mono fun e W' ⟨he, bel⟩ => ?_
  subst he
  exact ⟨_, rfl, _, _, _, [], _, [], hW', trodAll_mk1 (shut_bool Tryd.underlying4 _), (trodAll_cons_mk (Below.trod laidOut (by kernel_rfl) (of_decide_eq_true (by kernel_rfl)) k0 bel lt0) (trodAll_cons_mk (shut_int Tryd.underlying3 w1) (trodAll_cons_mk (shut_int Tryd.underlying3 w2) trodAll_mk0))), rfl, bel.frame _, fun h => by cases h⟩
theorem over : Rows.cborUtf8Row.holds Tryd.pinned (OpenSpec.ofChange Rows.cborUtf8Spec) :=
  OpenClaim.holds_of_wide 4 Tryd.f4 rfl rfl rfl rfl rfl rfl rfl ⟨rfl, rfl, rfl, rfl, rfl⟩ rfl rfl rfl rfl rfl (by kernel_rfl) Tryd.func4 (by kernel_rfl)
    (of_decide_eq_true (by kernel_rfl)) (by unfold Func.isWrapper; first | (rw [if_pos (by decide +kernel)]; kernel_rfl) | (rw [if_neg (by decide +kernel)]; exact ⟨rfl, rfl⟩))
    (fun os started H enc _ => lifted os started H enc)
/-- The tied card. -/
theorem card : Claim7.holds Tryd.pinned (.plain (OpenSpec.ofChange Rows.cborUtf8Spec)) Rows.cborUtf8Card :=
  Claim7.holds_tied_plain_at .later [] [.data, .pinned] true (true, "b2619b6392df5b047e91519415014f563fa691233174b37f4c7f108c787f7674") false
    over (fun _ h => by cases h) (by kernel_rfl) (fun _ h => by cases h) cborUtf8_row_tie rfl ⟨rfl, rfl⟩ (by kernel_rfl) rfl
    (fun f fn hf hfn => by
      obtain rfl : f = 4 := Option.some.inj ((show Tryd.prog.funcNamed "codicil/codicillaw10.CborUtf8" = some 4 by kernel_rfl).symm.trans hf) |>.symm
      obtain rfl : fn = Tryd.f4 := (Option.some.inj (Tryd.func4.symm.trans hfn)).symm
      exact ⟨by kernel_rfl, fun j t ht => by
        rw [Tryd.params4] at ht
        have hm : t ∈ [22, 3, 3] := by simpa using Array.mem_of_getElem? ht
        have hall : ([22, 3, 3].all fun u => !Tryd.prog.wantsStandIn u) = true := by kernel_rfl
        exact (show Tryd.prog.wantsStandIn t = false by simpa using List.all_eq_true.1 hall t hm)⟩)
    (by kernel_rfl)
end Go.Proofs.YtobjehjfdmelhaaDoor.cborUtf8
namespace Go.Proofs.YtobjehjfdmelhaaDoor
/-- The law CborUtf8. -/
theorem cborUtf8_holds : Rows.CborUtf8CardSaid := cborUtf8.card
end Go.Proofs.YtobjehjfdmelhaaDoor
end
