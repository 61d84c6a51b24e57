/- codicillaw09.HeadShort: it answers true. -/
import Derived.Test.YtaefmhdpfmpijaaHJ
set_option linter.unusedVariables false
set_option linter.unusedSimpArgs false
namespace Go.Proofs.Ytaefmhdpfmpijaa.Abs
open Go
attribute [local irreducible] ifB fitP Does Weaker

theorem uMod (x : Int) (q : Nat) (hq : 0 < q) : ∃ r : Nat, (IntKind.u64.wrap x).tmod q = r ∧ r < q := by
  rw [wrap_u64]
  have h0 : 0 ≤ x % 18446744073709551616 := by omega
  refine ⟨((x % 18446744073709551616).tmod q).toNat, ?_, ?_⟩
  · have := Int.tmod_nonneg (q : Int) h0
    omega
  · have := Int.tmod_nonneg (q : Int) h0
    have := Int.tmod_lt_of_pos (x % 18446744073709551616) (show (0 : Int) < q by omega)
    omega

theorem headShort_ok (major k below : Int) (h1 : -9223372036854775808 ≤ major ∧ major < 9223372036854775808) (h2 : -9223372036854775808 ≤ k ∧ k < 9223372036854775808)
    (h3 : -9223372036854775808 ≤ below ∧ below < 9223372036854775808) :
    ACall Try.prog 5 [.int .i64 major, .int .i64 k, .int .i64 below] (.bool true) [] := by
  obtain ⟨M, hM, hM8⟩ := uMod major 8 (by omega)
  obtain ⟨Q, hQ, hQ4⟩ := uMod k 4 (by omega)
  obtain ⟨B, hB, hB2⟩ := uMod below 2 (by omega)
  have e5 : (2 : Int) ^ min (Int.toNat 5) IntKind.i64.bits = 32 := by decide
  have hor : ∀ y : Int, 0 ≤ y → y < 32 → bits .or .i64 ((M : Int) * 2 ^ min (Int.toNat 5) IntKind.i64.bits) y = M * 32 + y := fun y k0 k1 => by
    rw [e5]
    exact bits_join .i64 63 (by decide) wrap_i64_63 5 _ _ (by omega) (by omega) (by omega) k0 (by omega) (by omega)
  refine ACall.of_does TTok Try.func5 rfl Try.call5 rfl (wpc_sound (M := MH) (PL := PL0) (CU := noCut) TTok mixed _ _ _ ?_)
  conv => whnf
  refine fit_wrap ?_
  conv => whnf
  refine ⟨by omega, ?_⟩
  conv => whnf
  rw [show (IntKind.u64.wrap major).tmod 8 = (M : Int) from hM]
  refine fit_i64 ⟨by omega, by omega⟩ ?_
  conv => whnf
  refine fit_wrap ?_
  conv => whnf
  refine ⟨by omega, ?_⟩
  conv => whnf
  rw [show (IntKind.u64.wrap k).tmod 4 = (Q : Int) from hQ]
  refine fit_i64 ⟨by omega, by omega⟩ ?_
  conv => whnf
  refine fit_wrap ?_
  conv => whnf
  refine ⟨by omega, ?_⟩
  conv => whnf
  rw [show (IntKind.u64.wrap below).tmod 2 = (B : Int) from hB]
  refine fit_i64 ⟨by omega, by omega⟩ ?_
  conv => whnf
  refine fit_u64 ⟨by omega, by omega⟩ ?_
  conv => whnf
  refine ⟨by omega, ?_⟩
  have hQc : Q = 0 ∨ Q = 1 ∨ Q = 2 ∨ Q = 3 := by omega
  have hBc : B = 0 ∨ B = 1 := by omega
  rcases hQc with rfl | rfl | rfl | rfl <;> rcases hBc with rfl | rfl
  · refine fit_i64 (by decide) ?_
    conv => whnf
    refine ⟨by decide, ?_⟩
    conv => whnf
    refine ⟨_, rfl, ?_⟩
    conv => whnf
    refine fit_i64 (by decide) ?_
    conv => whnf
    repeat (refine ⟨rfl, ?_⟩; conv => whnf)
    have hP := put_ok [] (by simp) M 24 (by omega) (by omega) (by omega) (by omega)
    have hpl : putL M 24 = [(M : Int) * 32 + 24, 24] := by simp [putL, sizeR, beAcc, byteAt, List.range_succ]
    rw [hpl] at hP
    refine ⟨_, _, hP, rfl, ?_⟩
    conv => whnf
    repeat (first | (refine ifB_t ?_; conv => whnf) | (refine ifB_f ?_; conv => whnf))
    refine fit_i64 (by decide) ?_
    conv => whnf
    repeat (first | (refine ifB_t ?_; conv => whnf) | (refine ifB_f ?_; conv => whnf))
    refine ⟨by omega, ?_⟩
    conv => whnf
    refine fit_i64 (by rw [e5]; omega) ?_
    conv => whnf
    refine fit_i64 (by rw [hor 24 (by omega) (by omega)]; omega) ?_
    conv => whnf
    refine fit_wrap ?_
    conv => whnf
    repeat (refine ⟨by decide, ?_⟩; conv => whnf)
    refine ⟨_, rfl, ?_⟩
    conv => whnf
    refine fit_i64 (by decide) ?_
    conv => whnf
    refine fit_i64 (by decide) ?_
    conv => whnf
    refine Does.loop (fun c : Nat => mkSt [(0, .int .i64 M), (1, .int .i64 (0 : Nat)), (13, .int .i64 23), (14, .int .i64 (((1 : Nat) : Int) - 1 - c)), (12, .sl 0 0 (1 + c) 1 false)] [(0, bys ([(M : Int) * 32 + 24 + (0 : Nat)] ++ beAcc 23 1 c))] 1 141)
      (fun c => c ≤ 1) (fun c => 1 - c) ?_ 0 (Nat.zero_le _) ?_
    · intro c hc
      refine wpc_sound (M := MH) (PL := PL0) (CU := noCut) TTok mixed _ _ _ ?_
      conv => whnf
      refine ifB_dec (fun h => ?_) (fun h => ?_)
      · conv => whnf
        refine fit_i64 ⟨by omega, by omega⟩ ?_
        conv => whnf
        refine fit_u64 ⟨by omega, by omega⟩ ?_
        conv => whnf
        refine ⟨by omega, ?_⟩
        conv => whnf
        refine fit_wrap ?_
        conv => whnf
        refine Or.inl ⟨⟨rfl, rfl, rfl⟩, ?_⟩
        conv => whnf
        refine ⟨rfl, ?_⟩
        conv => whnf
        refine ⟨⟨rfl, rfl, by simp; omega, by simp [limB]; omega⟩, ?_⟩
        conv => whnf
        refine fit_i64 ⟨by omega, by omega⟩ ?_
        conv => whnf
        refine ⟨c + 1, by omega, by omega, weaker_of [(0, 2)] rfl rfl ?_ ?_⟩
        · refine ⟨⟨rfl, rfl⟩, ⟨rfl, rfl⟩, ⟨rfl, rfl⟩, ⟨rfl, ?_⟩, ⟨rfl, rfl, rfl, rfl, id⟩, trivial⟩
          show ((1 : Nat) : Int) - 1 - c - 1 = (1 : Nat) - 1 - (c + 1 : Nat)
          omega
        · refine ⟨lesP_bys ?_, trivial⟩
          show bys ([(M : Int) * 32 + 24 + (0 : Nat)] ++ beAcc 23 1 c) ++ [.int .u8 _] = bys ([(M : Int) * 32 + 24 + (0 : Nat)] ++ beAcc 23 1 (c + 1))
          rw [byteAt_shr 23 1 c (by omega) (by omega), bys_snoc, beAcc_succ]
          simp
      · conv => whnf
        have hc1 : c = 1 := by omega
        subst hc1
        have hlong : [(M : Int) * 32 + 24 + (0 : Nat)] ++ beAcc 23 1 1 = [(M : Int) * 32 + 24, 23] := by simp [beAcc, byteAt, List.range_succ]; try omega
        have hG1 := get_ok [(M : Int) * 32 + 24, 23] (by intro x hx; simp at hx; omega) (by simp) 0
        have e1 : getR [(M : Int) * 32 + 24, 23] 0 = (0, 0, 0, 3) := by
          have : ((M : Int) * 32 + 24) % 32 = 24 := by omega
          simp [getR, moreOf, numOf, beVal, this, sizeR]
        rw [e1, ← hlong] at hG1
        refine ⟨pureL_bys _, ?_⟩
        refine Or.inl ⟨⟨rfl, by simp⟩, ?_⟩
        conv => whnf
        repeat (refine ⟨rfl, ?_⟩; conv => whnf)
        refine ⟨_, _, hG1, rfl, ?_⟩
        conv => whnf
        have hx28 : IntKind.u8.wrap (bits .or .i64 ((M : Int) * 2 ^ min (Int.toNat 5) IntKind.i64.bits) 28 + (0 : Nat)) = (M : Int) * 32 + 28 := by
          rw [hor 28 (by omega) (by omega), wrap_u8]
          omega
        have hx27 : IntKind.u8.wrap (bits .or .i64 ((M : Int) * 2 ^ min (Int.toNat 5) IntKind.i64.bits) 27) = (M : Int) * 32 + 27 := by
          rw [hor 27 (by omega) (by omega), wrap_u8]
          omega
        have hG2 := get_ok [(M : Int) * 32 + 28, 0, 0, 0, 0, 0, 0, 0, 0] (by intro x hx; simp at hx; omega) (by simp) 0
        have e2 : getR [(M : Int) * 32 + 28, 0, 0, 0, 0, 0, 0, 0, 0] 0 = (0, 0, 0, 3) := by
          have : ((M : Int) * 32 + 28) % 32 = 28 := by omega
          simp [getR, this]
        have hG3 := get_ok [(M : Int) * 32 + 27, 128, 0, 0, 0, 0, 0, 0, 0] (by intro x hx; simp at hx; omega) (by simp) 0
        have e3 : getR [(M : Int) * 32 + 27, 128, 0, 0, 0, 0, 0, 0, 0] 0 = (0, 0, 0, 3) := by
          have : ((M : Int) * 32 + 27) % 32 = 27 := by omega
          simp [getR, moreOf, numOf, beVal, this]
        rw [e2, ← hx28] at hG2
        rw [e3, ← hx27] at hG3
        refine ⟨by omega, ?_⟩
        refine fit_i64 (by rw [e5]; omega) ?_
        conv => whnf
        refine fit_i64 (by rw [hor 28 (by omega) (by omega)]; omega) ?_
        conv => whnf
        refine fit_wrap ?_
        conv => whnf
        refine ⟨rfl, ?_⟩
        refine Or.inl ⟨⟨rfl, rfl⟩, ?_⟩
        conv => whnf
        repeat (refine ⟨rfl, ?_⟩; conv => whnf)
        refine ⟨_, _, hG2, rfl, ?_⟩
        conv => whnf
        refine ⟨by omega, ?_⟩
        refine fit_i64 (by rw [e5]; omega) ?_
        conv => whnf
        refine fit_wrap ?_
        conv => whnf
        refine ⟨rfl, ?_⟩
        refine Or.inl ⟨⟨rfl, rfl⟩, ?_⟩
        conv => whnf
        repeat (refine ⟨rfl, ?_⟩; conv => whnf)
        refine ⟨_, _, hG3, rfl, ?_⟩
        conv => whnf
        repeat (first | (refine ifB_t ?_; conv => whnf) | (refine ifB_f ?_; conv => whnf))
        refine ⟨rfl, _, _, wakes_ok, rfl, ?_⟩
        conv => whnf
        repeat (first | (refine ifB_t ?_; conv => whnf) | (refine ifB_f ?_; conv => whnf))
        exact ⟨rfl, rfl⟩
    · refine weaker_of [(0, 2)] rfl rfl ?_ ?_
      · refine ⟨⟨rfl, rfl⟩, ⟨rfl, rfl⟩, ⟨rfl, rfl⟩, ⟨rfl, rfl⟩, ⟨rfl, rfl, rfl, rfl, nofun⟩, trivial⟩
      · refine ⟨lesP_bys ?_, trivial⟩
        show [AV.int .u8 _] = _
        rw [hor 24 (by omega) (by omega), wrap_u8]
        simp [bys, beAcc]
        omega
  · refine fit_i64 (by decide) ?_
    conv => whnf
    refine ⟨by decide, ?_⟩
    conv => whnf
    refine ⟨_, rfl, ?_⟩
    conv => whnf
    refine fit_i64 (by decide) ?_
    conv => whnf
    repeat (refine ⟨rfl, ?_⟩; conv => whnf)
    have hP := put_ok [] (by simp) M 23 (by omega) (by omega) (by omega) (by omega)
    have hpl : putL M 23 = [(M : Int) * 32 + 23] := by simp [putL, sizeR, beAcc, byteAt, List.range_succ]
    rw [hpl] at hP
    refine ⟨_, _, hP, rfl, ?_⟩
    conv => whnf
    repeat (first | (refine ifB_t ?_; conv => whnf) | (refine ifB_f ?_; conv => whnf))
    refine fit_i64 (by decide) ?_
    conv => whnf
    repeat (first | (refine ifB_t ?_; conv => whnf) | (refine ifB_f ?_; conv => whnf))
    refine ⟨by decide, ?_⟩
    conv => whnf
    refine ⟨_, rfl, ?_⟩
    conv => whnf
    repeat (first | (refine ifB_t ?_; conv => whnf) | (refine ifB_f ?_; conv => whnf))
    refine ⟨by omega, ?_⟩
    conv => whnf
    refine fit_i64 (by rw [e5]; omega) ?_
    conv => whnf
    refine fit_i64 (by rw [hor 24 (by omega) (by omega)]; omega) ?_
    conv => whnf
    refine fit_wrap ?_
    conv => whnf
    repeat (refine ⟨by decide, ?_⟩; conv => whnf)
    refine ⟨_, rfl, ?_⟩
    conv => whnf
    refine fit_i64 (by decide) ?_
    conv => whnf
    refine fit_i64 (by decide) ?_
    conv => whnf
    refine Does.loop (fun c : Nat => mkSt [(0, .int .i64 M), (1, .int .i64 (0 : Nat)), (13, .int .i64 23), (14, .int .i64 (((1 : Nat) : Int) - 1 - c)), (12, .sl 0 0 (1 + c) 1 false)] [(0, bys ([(M : Int) * 32 + 24 + (0 : Nat)] ++ beAcc 23 1 c))] 1 141)
      (fun c => c ≤ 1) (fun c => 1 - c) ?_ 0 (Nat.zero_le _) ?_
    · intro c hc
      refine wpc_sound (M := MH) (PL := PL0) (CU := noCut) TTok mixed _ _ _ ?_
      conv => whnf
      refine ifB_dec (fun h => ?_) (fun h => ?_)
      · conv => whnf
        refine fit_i64 ⟨by omega, by omega⟩ ?_
        conv => whnf
        refine fit_u64 ⟨by omega, by omega⟩ ?_
        conv => whnf
        refine ⟨by omega, ?_⟩
        conv => whnf
        refine fit_wrap ?_
        conv => whnf
        refine Or.inl ⟨⟨rfl, rfl, rfl⟩, ?_⟩
        conv => whnf
        refine ⟨rfl, ?_⟩
        conv => whnf
        refine ⟨⟨rfl, rfl, by simp; omega, by simp [limB]; omega⟩, ?_⟩
        conv => whnf
        refine fit_i64 ⟨by omega, by omega⟩ ?_
        conv => whnf
        refine ⟨c + 1, by omega, by omega, weaker_of [(0, 2)] rfl rfl ?_ ?_⟩
        · refine ⟨⟨rfl, rfl⟩, ⟨rfl, rfl⟩, ⟨rfl, rfl⟩, ⟨rfl, ?_⟩, ⟨rfl, rfl, rfl, rfl, id⟩, trivial⟩
          show ((1 : Nat) : Int) - 1 - c - 1 = (1 : Nat) - 1 - (c + 1 : Nat)
          omega
        · refine ⟨lesP_bys ?_, trivial⟩
          show bys ([(M : Int) * 32 + 24 + (0 : Nat)] ++ beAcc 23 1 c) ++ [.int .u8 _] = bys ([(M : Int) * 32 + 24 + (0 : Nat)] ++ beAcc 23 1 (c + 1))
          rw [byteAt_shr 23 1 c (by omega) (by omega), bys_snoc, beAcc_succ]
          simp
      · conv => whnf
        have hc1 : c = 1 := by omega
        subst hc1
        have hlong : [(M : Int) * 32 + 24 + (0 : Nat)] ++ beAcc 23 1 1 = [(M : Int) * 32 + 24, 23] := by simp [beAcc, byteAt, List.range_succ]; try omega
        have hG1 := get_ok [(M : Int) * 32 + 24, 23] (by intro x hx; simp at hx; omega) (by simp) 0
        have e1 : getR [(M : Int) * 32 + 24, 23] 0 = (0, 0, 0, 3) := by
          have : ((M : Int) * 32 + 24) % 32 = 24 := by omega
          simp [getR, moreOf, numOf, beVal, this, sizeR]
        rw [e1, ← hlong] at hG1
        refine ⟨pureL_bys _, ?_⟩
        refine Or.inl ⟨⟨rfl, by simp⟩, ?_⟩
        conv => whnf
        repeat (refine ⟨rfl, ?_⟩; conv => whnf)
        refine ⟨_, _, hG1, rfl, ?_⟩
        conv => whnf
        have hx28 : IntKind.u8.wrap (bits .or .i64 ((M : Int) * 2 ^ min (Int.toNat 5) IntKind.i64.bits) 28 + (0 : Nat)) = (M : Int) * 32 + 28 := by
          rw [hor 28 (by omega) (by omega), wrap_u8]
          omega
        have hx27 : IntKind.u8.wrap (bits .or .i64 ((M : Int) * 2 ^ min (Int.toNat 5) IntKind.i64.bits) 27) = (M : Int) * 32 + 27 := by
          rw [hor 27 (by omega) (by omega), wrap_u8]
          omega
        have hG2 := get_ok [(M : Int) * 32 + 28, 0, 0, 0, 0, 0, 0, 0, 0] (by intro x hx; simp at hx; omega) (by simp) 0
        have e2 : getR [(M : Int) * 32 + 28, 0, 0, 0, 0, 0, 0, 0, 0] 0 = (0, 0, 0, 3) := by
          have : ((M : Int) * 32 + 28) % 32 = 28 := by omega
          simp [getR, this]
        have hG3 := get_ok [(M : Int) * 32 + 27, 128, 0, 0, 0, 0, 0, 0, 0] (by intro x hx; simp at hx; omega) (by simp) 0
        have e3 : getR [(M : Int) * 32 + 27, 128, 0, 0, 0, 0, 0, 0, 0] 0 = (0, 0, 0, 3) := by
          have : ((M : Int) * 32 + 27) % 32 = 27 := by omega
          simp [getR, moreOf, numOf, beVal, this]
        rw [e2, ← hx28] at hG2
        rw [e3, ← hx27] at hG3
        refine ⟨by omega, ?_⟩
        refine fit_i64 (by rw [e5]; omega) ?_
        conv => whnf
        refine fit_i64 (by rw [hor 28 (by omega) (by omega)]; omega) ?_
        conv => whnf
        refine fit_wrap ?_
        conv => whnf
        refine ⟨rfl, ?_⟩
        refine Or.inl ⟨⟨rfl, rfl⟩, ?_⟩
        conv => whnf
        repeat (refine ⟨rfl, ?_⟩; conv => whnf)
        refine ⟨_, _, hG2, rfl, ?_⟩
        conv => whnf
        refine ⟨by omega, ?_⟩
        refine fit_i64 (by rw [e5]; omega) ?_
        conv => whnf
        refine fit_wrap ?_
        conv => whnf
        refine ⟨rfl, ?_⟩
        refine Or.inl ⟨⟨rfl, rfl⟩, ?_⟩
        conv => whnf
        repeat (refine ⟨rfl, ?_⟩; conv => whnf)
        refine ⟨_, _, hG3, rfl, ?_⟩
        conv => whnf
        repeat (first | (refine ifB_t ?_; conv => whnf) | (refine ifB_f ?_; conv => whnf))
        refine ⟨rfl, _, _, wakes_ok, rfl, ?_⟩
        conv => whnf
        repeat (first | (refine ifB_t ?_; conv => whnf) | (refine ifB_f ?_; conv => whnf))
        exact ⟨rfl, rfl⟩
    · refine weaker_of [(0, 3)] rfl rfl ?_ ?_
      · refine ⟨⟨rfl, rfl⟩, ⟨rfl, rfl⟩, ⟨rfl, rfl⟩, ⟨rfl, rfl⟩, ⟨rfl, rfl, rfl, rfl, nofun⟩, trivial⟩
      · refine ⟨lesP_bys ?_, trivial⟩
        show [AV.int .u8 _] = _
        rw [hor 24 (by omega) (by omega), wrap_u8]
        simp [bys, beAcc]
        omega
  · refine fit_i64 (by decide) ?_
    conv => whnf
    refine ⟨by decide, ?_⟩
    conv => whnf
    refine ⟨_, rfl, ?_⟩
    conv => whnf
    refine fit_i64 (by decide) ?_
    conv => whnf
    repeat (refine ⟨rfl, ?_⟩; conv => whnf)
    have hP := put_ok [] (by simp) M 256 (by omega) (by omega) (by omega) (by omega)
    have hpl : putL M 256 = [(M : Int) * 32 + 25, 1, 0] := by simp [putL, sizeR, beAcc, byteAt, List.range_succ]
    rw [hpl] at hP
    refine ⟨_, _, hP, rfl, ?_⟩
    conv => whnf
    repeat (first | (refine ifB_t ?_; conv => whnf) | (refine ifB_f ?_; conv => whnf))
    refine fit_i64 (by decide) ?_
    conv => whnf
    repeat (first | (refine ifB_t ?_; conv => whnf) | (refine ifB_f ?_; conv => whnf))
    refine ⟨by omega, ?_⟩
    conv => whnf
    refine fit_i64 (by rw [e5]; omega) ?_
    conv => whnf
    refine fit_i64 (by rw [hor 24 (by omega) (by omega)]; omega) ?_
    conv => whnf
    refine fit_wrap ?_
    conv => whnf
    repeat (refine ⟨by decide, ?_⟩; conv => whnf)
    refine ⟨_, rfl, ?_⟩
    conv => whnf
    refine fit_i64 (by decide) ?_
    conv => whnf
    refine fit_i64 (by decide) ?_
    conv => whnf
    refine Does.loop (fun c : Nat => mkSt [(0, .int .i64 M), (1, .int .i64 (1 : Nat)), (13, .int .i64 255), (14, .int .i64 (((2 : Nat) : Int) - 1 - c)), (12, .sl 0 0 (1 + c) 1 false)] [(0, bys ([(M : Int) * 32 + 24 + (1 : Nat)] ++ beAcc 255 2 c))] 1 141)
      (fun c => c ≤ 2) (fun c => 2 - c) ?_ 0 (Nat.zero_le _) ?_
    · intro c hc
      refine wpc_sound (M := MH) (PL := PL0) (CU := noCut) TTok mixed _ _ _ ?_
      conv => whnf
      refine ifB_dec (fun h => ?_) (fun h => ?_)
      · conv => whnf
        refine fit_i64 ⟨by omega, by omega⟩ ?_
        conv => whnf
        refine fit_u64 ⟨by omega, by omega⟩ ?_
        conv => whnf
        refine ⟨by omega, ?_⟩
        conv => whnf
        refine fit_wrap ?_
        conv => whnf
        refine Or.inl ⟨⟨rfl, rfl, rfl⟩, ?_⟩
        conv => whnf
        refine ⟨rfl, ?_⟩
        conv => whnf
        refine ⟨⟨rfl, rfl, by simp; omega, by simp [limB]; omega⟩, ?_⟩
        conv => whnf
        refine fit_i64 ⟨by omega, by omega⟩ ?_
        conv => whnf
        refine ⟨c + 1, by omega, by omega, weaker_of [(0, 2)] rfl rfl ?_ ?_⟩
        · refine ⟨⟨rfl, rfl⟩, ⟨rfl, rfl⟩, ⟨rfl, rfl⟩, ⟨rfl, ?_⟩, ⟨rfl, rfl, rfl, rfl, id⟩, trivial⟩
          show ((2 : Nat) : Int) - 1 - c - 1 = (2 : Nat) - 1 - (c + 1 : Nat)
          omega
        · refine ⟨lesP_bys ?_, trivial⟩
          show bys ([(M : Int) * 32 + 24 + (1 : Nat)] ++ beAcc 255 2 c) ++ [.int .u8 _] = bys ([(M : Int) * 32 + 24 + (1 : Nat)] ++ beAcc 255 2 (c + 1))
          rw [byteAt_shr 255 2 c (by omega) (by omega), bys_snoc, beAcc_succ]
          simp
      · conv => whnf
        have hc1 : c = 2 := by omega
        subst hc1
        have hlong : [(M : Int) * 32 + 24 + (1 : Nat)] ++ beAcc 255 2 2 = [(M : Int) * 32 + 25, 0, 255] := by simp [beAcc, byteAt, List.range_succ]; try omega
        have hG1 := get_ok [(M : Int) * 32 + 25, 0, 255] (by intro x hx; simp at hx; omega) (by simp) 0
        have e1 : getR [(M : Int) * 32 + 25, 0, 255] 0 = (0, 0, 0, 3) := by
          have : ((M : Int) * 32 + 25) % 32 = 25 := by omega
          simp [getR, moreOf, numOf, beVal, this, sizeR]
        rw [e1, ← hlong] at hG1
        refine ⟨pureL_bys _, ?_⟩
        refine Or.inl ⟨⟨rfl, by simp⟩, ?_⟩
        conv => whnf
        repeat (refine ⟨rfl, ?_⟩; conv => whnf)
        refine ⟨_, _, hG1, rfl, ?_⟩
        conv => whnf
        have hx28 : IntKind.u8.wrap (bits .or .i64 ((M : Int) * 2 ^ min (Int.toNat 5) IntKind.i64.bits) 28 + (1 : Nat)) = (M : Int) * 32 + 29 := by
          rw [hor 28 (by omega) (by omega), wrap_u8]
          omega
        have hx27 : IntKind.u8.wrap (bits .or .i64 ((M : Int) * 2 ^ min (Int.toNat 5) IntKind.i64.bits) 27) = (M : Int) * 32 + 27 := by
          rw [hor 27 (by omega) (by omega), wrap_u8]
          omega
        have hG2 := get_ok [(M : Int) * 32 + 29, 0, 0, 0, 0, 0, 0, 0, 0] (by intro x hx; simp at hx; omega) (by simp) 0
        have e2 : getR [(M : Int) * 32 + 29, 0, 0, 0, 0, 0, 0, 0, 0] 0 = (0, 0, 0, 3) := by
          have : ((M : Int) * 32 + 29) % 32 = 29 := by omega
          simp [getR, this]
        have hG3 := get_ok [(M : Int) * 32 + 27, 128, 0, 0, 0, 0, 0, 0, 0] (by intro x hx; simp at hx; omega) (by simp) 0
        have e3 : getR [(M : Int) * 32 + 27, 128, 0, 0, 0, 0, 0, 0, 0] 0 = (0, 0, 0, 3) := by
          have : ((M : Int) * 32 + 27) % 32 = 27 := by omega
          simp [getR, moreOf, numOf, beVal, this]
        rw [e2, ← hx28] at hG2
        rw [e3, ← hx27] at hG3
        refine ⟨by omega, ?_⟩
        refine fit_i64 (by rw [e5]; omega) ?_
        conv => whnf
        refine fit_i64 (by rw [hor 28 (by omega) (by omega)]; omega) ?_
        conv => whnf
        refine fit_wrap ?_
        conv => whnf
        refine ⟨rfl, ?_⟩
        refine Or.inl ⟨⟨rfl, rfl⟩, ?_⟩
        conv => whnf
        repeat (refine ⟨rfl, ?_⟩; conv => whnf)
        refine ⟨_, _, hG2, rfl, ?_⟩
        conv => whnf
        refine ⟨by omega, ?_⟩
        refine fit_i64 (by rw [e5]; omega) ?_
        conv => whnf
        refine fit_wrap ?_
        conv => whnf
        refine ⟨rfl, ?_⟩
        refine Or.inl ⟨⟨rfl, rfl⟩, ?_⟩
        conv => whnf
        repeat (refine ⟨rfl, ?_⟩; conv => whnf)
        refine ⟨_, _, hG3, rfl, ?_⟩
        conv => whnf
        repeat (first | (refine ifB_t ?_; conv => whnf) | (refine ifB_f ?_; conv => whnf))
        refine ⟨rfl, _, _, wakes_ok, rfl, ?_⟩
        conv => whnf
        repeat (first | (refine ifB_t ?_; conv => whnf) | (refine ifB_f ?_; conv => whnf))
        exact ⟨rfl, rfl⟩
    · refine weaker_of [(0, 2)] rfl rfl ?_ ?_
      · refine ⟨⟨rfl, rfl⟩, ⟨rfl, rfl⟩, ⟨rfl, rfl⟩, ⟨rfl, rfl⟩, ⟨rfl, rfl, rfl, rfl, nofun⟩, trivial⟩
      · refine ⟨lesP_bys ?_, trivial⟩
        show [AV.int .u8 _] = _
        rw [hor 24 (by omega) (by omega), wrap_u8]
        simp [bys, beAcc]
        omega
  · refine fit_i64 (by decide) ?_
    conv => whnf
    refine ⟨by decide, ?_⟩
    conv => whnf
    refine ⟨_, rfl, ?_⟩
    conv => whnf
    refine fit_i64 (by decide) ?_
    conv => whnf
    repeat (refine ⟨rfl, ?_⟩; conv => whnf)
    have hP := put_ok [] (by simp) M 255 (by omega) (by omega) (by omega) (by omega)
    have hpl : putL M 255 = [(M : Int) * 32 + 24, 255] := by simp [putL, sizeR, beAcc, byteAt, List.range_succ]
    rw [hpl] at hP
    refine ⟨_, _, hP, rfl, ?_⟩
    conv => whnf
    repeat (first | (refine ifB_t ?_; conv => whnf) | (refine ifB_f ?_; conv => whnf))
    refine fit_i64 (by decide) ?_
    conv => whnf
    repeat (first | (refine ifB_t ?_; conv => whnf) | (refine ifB_f ?_; conv => whnf))
    refine ⟨by decide, ?_⟩
    conv => whnf
    refine ⟨_, rfl, ?_⟩
    conv => whnf
    repeat (first | (refine ifB_t ?_; conv => whnf) | (refine ifB_f ?_; conv => whnf))
    refine ⟨by omega, ?_⟩
    conv => whnf
    refine fit_i64 (by rw [e5]; omega) ?_
    conv => whnf
    refine fit_i64 (by rw [hor 24 (by omega) (by omega)]; omega) ?_
    conv => whnf
    refine fit_wrap ?_
    conv => whnf
    repeat (refine ⟨by decide, ?_⟩; conv => whnf)
    refine ⟨_, rfl, ?_⟩
    conv => whnf
    refine fit_i64 (by decide) ?_
    conv => whnf
    refine fit_i64 (by decide) ?_
    conv => whnf
    refine Does.loop (fun c : Nat => mkSt [(0, .int .i64 M), (1, .int .i64 (1 : Nat)), (13, .int .i64 255), (14, .int .i64 (((2 : Nat) : Int) - 1 - c)), (12, .sl 0 0 (1 + c) 1 false)] [(0, bys ([(M : Int) * 32 + 24 + (1 : Nat)] ++ beAcc 255 2 c))] 1 141)
      (fun c => c ≤ 2) (fun c => 2 - c) ?_ 0 (Nat.zero_le _) ?_
    · intro c hc
      refine wpc_sound (M := MH) (PL := PL0) (CU := noCut) TTok mixed _ _ _ ?_
      conv => whnf
      refine ifB_dec (fun h => ?_) (fun h => ?_)
      · conv => whnf
        refine fit_i64 ⟨by omega, by omega⟩ ?_
        conv => whnf
        refine fit_u64 ⟨by omega, by omega⟩ ?_
        conv => whnf
        refine ⟨by omega, ?_⟩
        conv => whnf
        refine fit_wrap ?_
        conv => whnf
        refine Or.inl ⟨⟨rfl, rfl, rfl⟩, ?_⟩
        conv => whnf
        refine ⟨rfl, ?_⟩
        conv => whnf
        refine ⟨⟨rfl, rfl, by simp; omega, by simp [limB]; omega⟩, ?_⟩
        conv => whnf
        refine fit_i64 ⟨by omega, by omega⟩ ?_
        conv => whnf
        refine ⟨c + 1, by omega, by omega, weaker_of [(0, 2)] rfl rfl ?_ ?_⟩
        · refine ⟨⟨rfl, rfl⟩, ⟨rfl, rfl⟩, ⟨rfl, rfl⟩, ⟨rfl, ?_⟩, ⟨rfl, rfl, rfl, rfl, id⟩, trivial⟩
          show ((2 : Nat) : Int) - 1 - c - 1 = (2 : Nat) - 1 - (c + 1 : Nat)
          omega
        · refine ⟨lesP_bys ?_, trivial⟩
          show bys ([(M : Int) * 32 + 24 + (1 : Nat)] ++ beAcc 255 2 c) ++ [.int .u8 _] = bys ([(M : Int) * 32 + 24 + (1 : Nat)] ++ beAcc 255 2 (c + 1))
          rw [byteAt_shr 255 2 c (by omega) (by omega), bys_snoc, beAcc_succ]
          simp
      · conv => whnf
        have hc1 : c = 2 := by omega
        subst hc1
        have hlong : [(M : Int) * 32 + 24 + (1 : Nat)] ++ beAcc 255 2 2 = [(M : Int) * 32 + 25, 0, 255] := by simp [beAcc, byteAt, List.range_succ]; try omega
        have hG1 := get_ok [(M : Int) * 32 + 25, 0, 255] (by intro x hx; simp at hx; omega) (by simp) 0
        have e1 : getR [(M : Int) * 32 + 25, 0, 255] 0 = (0, 0, 0, 3) := by
          have : ((M : Int) * 32 + 25) % 32 = 25 := by omega
          simp [getR, moreOf, numOf, beVal, this, sizeR]
        rw [e1, ← hlong] at hG1
        refine ⟨pureL_bys _, ?_⟩
        refine Or.inl ⟨⟨rfl, by simp⟩, ?_⟩
        conv => whnf
        repeat (refine ⟨rfl, ?_⟩; conv => whnf)
        refine ⟨_, _, hG1, rfl, ?_⟩
        conv => whnf
        have hx28 : IntKind.u8.wrap (bits .or .i64 ((M : Int) * 2 ^ min (Int.toNat 5) IntKind.i64.bits) 28 + (1 : Nat)) = (M : Int) * 32 + 29 := by
          rw [hor 28 (by omega) (by omega), wrap_u8]
          omega
        have hx27 : IntKind.u8.wrap (bits .or .i64 ((M : Int) * 2 ^ min (Int.toNat 5) IntKind.i64.bits) 27) = (M : Int) * 32 + 27 := by
          rw [hor 27 (by omega) (by omega), wrap_u8]
          omega
        have hG2 := get_ok [(M : Int) * 32 + 29, 0, 0, 0, 0, 0, 0, 0, 0] (by intro x hx; simp at hx; omega) (by simp) 0
        have e2 : getR [(M : Int) * 32 + 29, 0, 0, 0, 0, 0, 0, 0, 0] 0 = (0, 0, 0, 3) := by
          have : ((M : Int) * 32 + 29) % 32 = 29 := by omega
          simp [getR, this]
        have hG3 := get_ok [(M : Int) * 32 + 27, 128, 0, 0, 0, 0, 0, 0, 0] (by intro x hx; simp at hx; omega) (by simp) 0
        have e3 : getR [(M : Int) * 32 + 27, 128, 0, 0, 0, 0, 0, 0, 0] 0 = (0, 0, 0, 3) := by
          have : ((M : Int) * 32 + 27) % 32 = 27 := by omega
          simp [getR, moreOf, numOf, beVal, this]
        rw [e2, ← hx28] at hG2
        rw [e3, ← hx27] at hG3
        refine ⟨by omega, ?_⟩
        refine fit_i64 (by rw [e5]; omega) ?_
        conv => whnf
        refine fit_i64 (by rw [hor 28 (by omega) (by omega)]; omega) ?_
        conv => whnf
        refine fit_wrap ?_
        conv => whnf
        refine ⟨rfl, ?_⟩
        refine Or.inl ⟨⟨rfl, rfl⟩, ?_⟩
        conv => whnf
        repeat (refine ⟨rfl, ?_⟩; conv => whnf)
        refine ⟨_, _, hG2, rfl, ?_⟩
        conv => whnf
        refine ⟨by omega, ?_⟩
        refine fit_i64 (by rw [e5]; omega) ?_
        conv => whnf
        refine fit_wrap ?_
        conv => whnf
        refine ⟨rfl, ?_⟩
        refine Or.inl ⟨⟨rfl, rfl⟩, ?_⟩
        conv => whnf
        repeat (refine ⟨rfl, ?_⟩; conv => whnf)
        refine ⟨_, _, hG3, rfl, ?_⟩
        conv => whnf
        repeat (first | (refine ifB_t ?_; conv => whnf) | (refine ifB_f ?_; conv => whnf))
        refine ⟨rfl, _, _, wakes_ok, rfl, ?_⟩
        conv => whnf
        repeat (first | (refine ifB_t ?_; conv => whnf) | (refine ifB_f ?_; conv => whnf))
        exact ⟨rfl, rfl⟩
    · refine weaker_of [(0, 3)] rfl rfl ?_ ?_
      · refine ⟨⟨rfl, rfl⟩, ⟨rfl, rfl⟩, ⟨rfl, rfl⟩, ⟨rfl, rfl⟩, ⟨rfl, rfl, rfl, rfl, nofun⟩, trivial⟩
      · refine ⟨lesP_bys ?_, trivial⟩
        show [AV.int .u8 _] = _
        rw [hor 24 (by omega) (by omega), wrap_u8]
        simp [bys, beAcc]
        omega
  · refine fit_i64 (by decide) ?_
    conv => whnf
    refine ⟨by decide, ?_⟩
    conv => whnf
    refine ⟨_, rfl, ?_⟩
    conv => whnf
    refine fit_i64 (by decide) ?_
    conv => whnf
    repeat (refine ⟨rfl, ?_⟩; conv => whnf)
    have hP := put_ok [] (by simp) M 65536 (by omega) (by omega) (by omega) (by omega)
    have hpl : putL M 65536 = [(M : Int) * 32 + 26, 0, 1, 0, 0] := by simp [putL, sizeR, beAcc, byteAt, List.range_succ]
    rw [hpl] at hP
    refine ⟨_, _, hP, rfl, ?_⟩
    conv => whnf
    repeat (first | (refine ifB_t ?_; conv => whnf) | (refine ifB_f ?_; conv => whnf))
    refine fit_i64 (by decide) ?_
    conv => whnf
    repeat (first | (refine ifB_t ?_; conv => whnf) | (refine ifB_f ?_; conv => whnf))
    refine ⟨by omega, ?_⟩
    conv => whnf
    refine fit_i64 (by rw [e5]; omega) ?_
    conv => whnf
    refine fit_i64 (by rw [hor 24 (by omega) (by omega)]; omega) ?_
    conv => whnf
    refine fit_wrap ?_
    conv => whnf
    repeat (refine ⟨by decide, ?_⟩; conv => whnf)
    refine ⟨_, rfl, ?_⟩
    conv => whnf
    refine fit_i64 (by decide) ?_
    conv => whnf
    refine fit_i64 (by decide) ?_
    conv => whnf
    refine Does.loop (fun c : Nat => mkSt [(0, .int .i64 M), (1, .int .i64 (2 : Nat)), (13, .int .i64 65535), (14, .int .i64 (((4 : Nat) : Int) - 1 - c)), (12, .sl 0 0 (1 + c) 1 false)] [(0, bys ([(M : Int) * 32 + 24 + (2 : Nat)] ++ beAcc 65535 4 c))] 1 141)
      (fun c => c ≤ 4) (fun c => 4 - c) ?_ 0 (Nat.zero_le _) ?_
    · intro c hc
      refine wpc_sound (M := MH) (PL := PL0) (CU := noCut) TTok mixed _ _ _ ?_
      conv => whnf
      refine ifB_dec (fun h => ?_) (fun h => ?_)
      · conv => whnf
        refine fit_i64 ⟨by omega, by omega⟩ ?_
        conv => whnf
        refine fit_u64 ⟨by omega, by omega⟩ ?_
        conv => whnf
        refine ⟨by omega, ?_⟩
        conv => whnf
        refine fit_wrap ?_
        conv => whnf
        refine Or.inl ⟨⟨rfl, rfl, rfl⟩, ?_⟩
        conv => whnf
        refine ⟨rfl, ?_⟩
        conv => whnf
        refine ⟨⟨rfl, rfl, by simp; omega, by simp [limB]; omega⟩, ?_⟩
        conv => whnf
        refine fit_i64 ⟨by omega, by omega⟩ ?_
        conv => whnf
        refine ⟨c + 1, by omega, by omega, weaker_of [(0, 2)] rfl rfl ?_ ?_⟩
        · refine ⟨⟨rfl, rfl⟩, ⟨rfl, rfl⟩, ⟨rfl, rfl⟩, ⟨rfl, ?_⟩, ⟨rfl, rfl, rfl, rfl, id⟩, trivial⟩
          show ((4 : Nat) : Int) - 1 - c - 1 = (4 : Nat) - 1 - (c + 1 : Nat)
          omega
        · refine ⟨lesP_bys ?_, trivial⟩
          show bys ([(M : Int) * 32 + 24 + (2 : Nat)] ++ beAcc 65535 4 c) ++ [.int .u8 _] = bys ([(M : Int) * 32 + 24 + (2 : Nat)] ++ beAcc 65535 4 (c + 1))
          rw [byteAt_shr 65535 4 c (by omega) (by omega), bys_snoc, beAcc_succ]
          simp
      · conv => whnf
        have hc1 : c = 4 := by omega
        subst hc1
        have hlong : [(M : Int) * 32 + 24 + (2 : Nat)] ++ beAcc 65535 4 4 = [(M : Int) * 32 + 26, 0, 0, 255, 255] := by simp [beAcc, byteAt, List.range_succ]; try omega
        have hG1 := get_ok [(M : Int) * 32 + 26, 0, 0, 255, 255] (by intro x hx; simp at hx; omega) (by simp) 0
        have e1 : getR [(M : Int) * 32 + 26, 0, 0, 255, 255] 0 = (0, 0, 0, 3) := by
          have : ((M : Int) * 32 + 26) % 32 = 26 := by omega
          simp [getR, moreOf, numOf, beVal, this, sizeR]
        rw [e1, ← hlong] at hG1
        refine ⟨pureL_bys _, ?_⟩
        refine Or.inl ⟨⟨rfl, by simp⟩, ?_⟩
        conv => whnf
        repeat (refine ⟨rfl, ?_⟩; conv => whnf)
        refine ⟨_, _, hG1, rfl, ?_⟩
        conv => whnf
        have hx28 : IntKind.u8.wrap (bits .or .i64 ((M : Int) * 2 ^ min (Int.toNat 5) IntKind.i64.bits) 28 + (2 : Nat)) = (M : Int) * 32 + 30 := by
          rw [hor 28 (by omega) (by omega), wrap_u8]
          omega
        have hx27 : IntKind.u8.wrap (bits .or .i64 ((M : Int) * 2 ^ min (Int.toNat 5) IntKind.i64.bits) 27) = (M : Int) * 32 + 27 := by
          rw [hor 27 (by omega) (by omega), wrap_u8]
          omega
        have hG2 := get_ok [(M : Int) * 32 + 30, 0, 0, 0, 0, 0, 0, 0, 0] (by intro x hx; simp at hx; omega) (by simp) 0
        have e2 : getR [(M : Int) * 32 + 30, 0, 0, 0, 0, 0, 0, 0, 0] 0 = (0, 0, 0, 3) := by
          have : ((M : Int) * 32 + 30) % 32 = 30 := by omega
          simp [getR, this]
        have hG3 := get_ok [(M : Int) * 32 + 27, 128, 0, 0, 0, 0, 0, 0, 0] (by intro x hx; simp at hx; omega) (by simp) 0
        have e3 : getR [(M : Int) * 32 + 27, 128, 0, 0, 0, 0, 0, 0, 0] 0 = (0, 0, 0, 3) := by
          have : ((M : Int) * 32 + 27) % 32 = 27 := by omega
          simp [getR, moreOf, numOf, beVal, this]
        rw [e2, ← hx28] at hG2
        rw [e3, ← hx27] at hG3
        refine ⟨by omega, ?_⟩
        refine fit_i64 (by rw [e5]; omega) ?_
        conv => whnf
        refine fit_i64 (by rw [hor 28 (by omega) (by omega)]; omega) ?_
        conv => whnf
        refine fit_wrap ?_
        conv => whnf
        refine ⟨rfl, ?_⟩
        refine Or.inl ⟨⟨rfl, rfl⟩, ?_⟩
        conv => whnf
        repeat (refine ⟨rfl, ?_⟩; conv => whnf)
        refine ⟨_, _, hG2, rfl, ?_⟩
        conv => whnf
        refine ⟨by omega, ?_⟩
        refine fit_i64 (by rw [e5]; omega) ?_
        conv => whnf
        refine fit_wrap ?_
        conv => whnf
        refine ⟨rfl, ?_⟩
        refine Or.inl ⟨⟨rfl, rfl⟩, ?_⟩
        conv => whnf
        repeat (refine ⟨rfl, ?_⟩; conv => whnf)
        refine ⟨_, _, hG3, rfl, ?_⟩
        conv => whnf
        repeat (first | (refine ifB_t ?_; conv => whnf) | (refine ifB_f ?_; conv => whnf))
        refine ⟨rfl, _, _, wakes_ok, rfl, ?_⟩
        conv => whnf
        repeat (first | (refine ifB_t ?_; conv => whnf) | (refine ifB_f ?_; conv => whnf))
        exact ⟨rfl, rfl⟩
    · refine weaker_of [(0, 2)] rfl rfl ?_ ?_
      · refine ⟨⟨rfl, rfl⟩, ⟨rfl, rfl⟩, ⟨rfl, rfl⟩, ⟨rfl, rfl⟩, ⟨rfl, rfl, rfl, rfl, nofun⟩, trivial⟩
      · refine ⟨lesP_bys ?_, trivial⟩
        show [AV.int .u8 _] = _
        rw [hor 24 (by omega) (by omega), wrap_u8]
        simp [bys, beAcc]
        omega
  · refine fit_i64 (by decide) ?_
    conv => whnf
    refine ⟨by decide, ?_⟩
    conv => whnf
    refine ⟨_, rfl, ?_⟩
    conv => whnf
    refine fit_i64 (by decide) ?_
    conv => whnf
    repeat (refine ⟨rfl, ?_⟩; conv => whnf)
    have hP := put_ok [] (by simp) M 65535 (by omega) (by omega) (by omega) (by omega)
    have hpl : putL M 65535 = [(M : Int) * 32 + 25, 255, 255] := by simp [putL, sizeR, beAcc, byteAt, List.range_succ]
    rw [hpl] at hP
    refine ⟨_, _, hP, rfl, ?_⟩
    conv => whnf
    repeat (first | (refine ifB_t ?_; conv => whnf) | (refine ifB_f ?_; conv => whnf))
    refine fit_i64 (by decide) ?_
    conv => whnf
    repeat (first | (refine ifB_t ?_; conv => whnf) | (refine ifB_f ?_; conv => whnf))
    refine ⟨by decide, ?_⟩
    conv => whnf
    refine ⟨_, rfl, ?_⟩
    conv => whnf
    repeat (first | (refine ifB_t ?_; conv => whnf) | (refine ifB_f ?_; conv => whnf))
    refine ⟨by omega, ?_⟩
    conv => whnf
    refine fit_i64 (by rw [e5]; omega) ?_
    conv => whnf
    refine fit_i64 (by rw [hor 24 (by omega) (by omega)]; omega) ?_
    conv => whnf
    refine fit_wrap ?_
    conv => whnf
    repeat (refine ⟨by decide, ?_⟩; conv => whnf)
    refine ⟨_, rfl, ?_⟩
    conv => whnf
    refine fit_i64 (by decide) ?_
    conv => whnf
    refine fit_i64 (by decide) ?_
    conv => whnf
    refine Does.loop (fun c : Nat => mkSt [(0, .int .i64 M), (1, .int .i64 (2 : Nat)), (13, .int .i64 65535), (14, .int .i64 (((4 : Nat) : Int) - 1 - c)), (12, .sl 0 0 (1 + c) 1 false)] [(0, bys ([(M : Int) * 32 + 24 + (2 : Nat)] ++ beAcc 65535 4 c))] 1 141)
      (fun c => c ≤ 4) (fun c => 4 - c) ?_ 0 (Nat.zero_le _) ?_
    · intro c hc
      refine wpc_sound (M := MH) (PL := PL0) (CU := noCut) TTok mixed _ _ _ ?_
      conv => whnf
      refine ifB_dec (fun h => ?_) (fun h => ?_)
      · conv => whnf
        refine fit_i64 ⟨by omega, by omega⟩ ?_
        conv => whnf
        refine fit_u64 ⟨by omega, by omega⟩ ?_
        conv => whnf
        refine ⟨by omega, ?_⟩
        conv => whnf
        refine fit_wrap ?_
        conv => whnf
        refine Or.inl ⟨⟨rfl, rfl, rfl⟩, ?_⟩
        conv => whnf
        refine ⟨rfl, ?_⟩
        conv => whnf
        refine ⟨⟨rfl, rfl, by simp; omega, by simp [limB]; omega⟩, ?_⟩
        conv => whnf
        refine fit_i64 ⟨by omega, by omega⟩ ?_
        conv => whnf
        refine ⟨c + 1, by omega, by omega, weaker_of [(0, 2)] rfl rfl ?_ ?_⟩
        · refine ⟨⟨rfl, rfl⟩, ⟨rfl, rfl⟩, ⟨rfl, rfl⟩, ⟨rfl, ?_⟩, ⟨rfl, rfl, rfl, rfl, id⟩, trivial⟩
          show ((4 : Nat) : Int) - 1 - c - 1 = (4 : Nat) - 1 - (c + 1 : Nat)
          omega
        · refine ⟨lesP_bys ?_, trivial⟩
          show bys ([(M : Int) * 32 + 24 + (2 : Nat)] ++ beAcc 65535 4 c) ++ [.int .u8 _] = bys ([(M : Int) * 32 + 24 + (2 : Nat)] ++ beAcc 65535 4 (c + 1))
          rw [byteAt_shr 65535 4 c (by omega) (by omega), bys_snoc, beAcc_succ]
          simp
      · conv => whnf
        have hc1 : c = 4 := by omega
        subst hc1
        have hlong : [(M : Int) * 32 + 24 + (2 : Nat)] ++ beAcc 65535 4 4 = [(M : Int) * 32 + 26, 0, 0, 255, 255] := by simp [beAcc, byteAt, List.range_succ]; try omega
        have hG1 := get_ok [(M : Int) * 32 + 26, 0, 0, 255, 255] (by intro x hx; simp at hx; omega) (by simp) 0
        have e1 : getR [(M : Int) * 32 + 26, 0, 0, 255, 255] 0 = (0, 0, 0, 3) := by
          have : ((M : Int) * 32 + 26) % 32 = 26 := by omega
          simp [getR, moreOf, numOf, beVal, this, sizeR]
        rw [e1, ← hlong] at hG1
        refine ⟨pureL_bys _, ?_⟩
        refine Or.inl ⟨⟨rfl, by simp⟩, ?_⟩
        conv => whnf
        repeat (refine ⟨rfl, ?_⟩; conv => whnf)
        refine ⟨_, _, hG1, rfl, ?_⟩
        conv => whnf
        have hx28 : IntKind.u8.wrap (bits .or .i64 ((M : Int) * 2 ^ min (Int.toNat 5) IntKind.i64.bits) 28 + (2 : Nat)) = (M : Int) * 32 + 30 := by
          rw [hor 28 (by omega) (by omega), wrap_u8]
          omega
        have hx27 : IntKind.u8.wrap (bits .or .i64 ((M : Int) * 2 ^ min (Int.toNat 5) IntKind.i64.bits) 27) = (M : Int) * 32 + 27 := by
          rw [hor 27 (by omega) (by omega), wrap_u8]
          omega
        have hG2 := get_ok [(M : Int) * 32 + 30, 0, 0, 0, 0, 0, 0, 0, 0] (by intro x hx; simp at hx; omega) (by simp) 0
        have e2 : getR [(M : Int) * 32 + 30, 0, 0, 0, 0, 0, 0, 0, 0] 0 = (0, 0, 0, 3) := by
          have : ((M : Int) * 32 + 30) % 32 = 30 := by omega
          simp [getR, this]
        have hG3 := get_ok [(M : Int) * 32 + 27, 128, 0, 0, 0, 0, 0, 0, 0] (by intro x hx; simp at hx; omega) (by simp) 0
        have e3 : getR [(M : Int) * 32 + 27, 128, 0, 0, 0, 0, 0, 0, 0] 0 = (0, 0, 0, 3) := by
          have : ((M : Int) * 32 + 27) % 32 = 27 := by omega
          simp [getR, moreOf, numOf, beVal, this]
        rw [e2, ← hx28] at hG2
        rw [e3, ← hx27] at hG3
        refine ⟨by omega, ?_⟩
        refine fit_i64 (by rw [e5]; omega) ?_
        conv => whnf
        refine fit_i64 (by rw [hor 28 (by omega) (by omega)]; omega) ?_
        conv => whnf
        refine fit_wrap ?_
        conv => whnf
        refine ⟨rfl, ?_⟩
        refine Or.inl ⟨⟨rfl, rfl⟩, ?_⟩
        conv => whnf
        repeat (refine ⟨rfl, ?_⟩; conv => whnf)
        refine ⟨_, _, hG2, rfl, ?_⟩
        conv => whnf
        refine ⟨by omega, ?_⟩
        refine fit_i64 (by rw [e5]; omega) ?_
        conv => whnf
        refine fit_wrap ?_
        conv => whnf
        refine ⟨rfl, ?_⟩
        refine Or.inl ⟨⟨rfl, rfl⟩, ?_⟩
        conv => whnf
        repeat (refine ⟨rfl, ?_⟩; conv => whnf)
        refine ⟨_, _, hG3, rfl, ?_⟩
        conv => whnf
        repeat (first | (refine ifB_t ?_; conv => whnf) | (refine ifB_f ?_; conv => whnf))
        refine ⟨rfl, _, _, wakes_ok, rfl, ?_⟩
        conv => whnf
        repeat (first | (refine ifB_t ?_; conv => whnf) | (refine ifB_f ?_; conv => whnf))
        exact ⟨rfl, rfl⟩
    · refine weaker_of [(0, 3)] rfl rfl ?_ ?_
      · refine ⟨⟨rfl, rfl⟩, ⟨rfl, rfl⟩, ⟨rfl, rfl⟩, ⟨rfl, rfl⟩, ⟨rfl, rfl, rfl, rfl, nofun⟩, trivial⟩
      · refine ⟨lesP_bys ?_, trivial⟩
        show [AV.int .u8 _] = _
        rw [hor 24 (by omega) (by omega), wrap_u8]
        simp [bys, beAcc]
        omega
  · refine fit_i64 (by decide) ?_
    conv => whnf
    refine ⟨by decide, ?_⟩
    conv => whnf
    refine ⟨_, rfl, ?_⟩
    conv => whnf
    refine fit_i64 (by decide) ?_
    conv => whnf
    repeat (refine ⟨rfl, ?_⟩; conv => whnf)
    have hP := put_ok [] (by simp) M 4294967296 (by omega) (by omega) (by omega) (by omega)
    have hpl : putL M 4294967296 = [(M : Int) * 32 + 27, 0, 0, 0, 1, 0, 0, 0, 0] := by simp [putL, sizeR, beAcc, byteAt, List.range_succ]
    rw [hpl] at hP
    refine ⟨_, _, hP, rfl, ?_⟩
    conv => whnf
    repeat (first | (refine ifB_t ?_; conv => whnf) | (refine ifB_f ?_; conv => whnf))
    refine fit_i64 (by decide) ?_
    conv => whnf
    repeat (first | (refine ifB_t ?_; conv => whnf) | (refine ifB_f ?_; conv => whnf))
    refine ⟨by omega, ?_⟩
    conv => whnf
    refine fit_i64 (by rw [e5]; omega) ?_
    conv => whnf
    refine fit_i64 (by rw [hor 24 (by omega) (by omega)]; omega) ?_
    conv => whnf
    refine fit_wrap ?_
    conv => whnf
    repeat (refine ⟨by decide, ?_⟩; conv => whnf)
    refine ⟨_, rfl, ?_⟩
    conv => whnf
    refine fit_i64 (by decide) ?_
    conv => whnf
    refine fit_i64 (by decide) ?_
    conv => whnf
    refine Does.loop (fun c : Nat => mkSt [(0, .int .i64 M), (1, .int .i64 (3 : Nat)), (13, .int .i64 4294967295), (14, .int .i64 (((8 : Nat) : Int) - 1 - c)), (12, .sl 0 0 (1 + c) 1 false)] [(0, bys ([(M : Int) * 32 + 24 + (3 : Nat)] ++ beAcc 4294967295 8 c))] 1 141)
      (fun c => c ≤ 8) (fun c => 8 - c) ?_ 0 (Nat.zero_le _) ?_
    · intro c hc
      refine wpc_sound (M := MH) (PL := PL0) (CU := noCut) TTok mixed _ _ _ ?_
      conv => whnf
      refine ifB_dec (fun h => ?_) (fun h => ?_)
      · conv => whnf
        refine fit_i64 ⟨by omega, by omega⟩ ?_
        conv => whnf
        refine fit_u64 ⟨by omega, by omega⟩ ?_
        conv => whnf
        refine ⟨by omega, ?_⟩
        conv => whnf
        refine fit_wrap ?_
        conv => whnf
        refine Or.inl ⟨⟨rfl, rfl, rfl⟩, ?_⟩
        conv => whnf
        refine ⟨rfl, ?_⟩
        conv => whnf
        refine ⟨⟨rfl, rfl, by simp; omega, by simp [limB]; omega⟩, ?_⟩
        conv => whnf
        refine fit_i64 ⟨by omega, by omega⟩ ?_
        conv => whnf
        refine ⟨c + 1, by omega, by omega, weaker_of [(0, 2)] rfl rfl ?_ ?_⟩
        · refine ⟨⟨rfl, rfl⟩, ⟨rfl, rfl⟩, ⟨rfl, rfl⟩, ⟨rfl, ?_⟩, ⟨rfl, rfl, rfl, rfl, id⟩, trivial⟩
          show ((8 : Nat) : Int) - 1 - c - 1 = (8 : Nat) - 1 - (c + 1 : Nat)
          omega
        · refine ⟨lesP_bys ?_, trivial⟩
          show bys ([(M : Int) * 32 + 24 + (3 : Nat)] ++ beAcc 4294967295 8 c) ++ [.int .u8 _] = bys ([(M : Int) * 32 + 24 + (3 : Nat)] ++ beAcc 4294967295 8 (c + 1))
          rw [byteAt_shr 4294967295 8 c (by omega) (by omega), bys_snoc, beAcc_succ]
          simp
      · conv => whnf
        have hc1 : c = 8 := by omega
        subst hc1
        have hlong : [(M : Int) * 32 + 24 + (3 : Nat)] ++ beAcc 4294967295 8 8 = [(M : Int) * 32 + 27, 0, 0, 0, 0, 255, 255, 255, 255] := by simp [beAcc, byteAt, List.range_succ]; try omega
        have hG1 := get_ok [(M : Int) * 32 + 27, 0, 0, 0, 0, 255, 255, 255, 255] (by intro x hx; simp at hx; omega) (by simp) 0
        have e1 : getR [(M : Int) * 32 + 27, 0, 0, 0, 0, 255, 255, 255, 255] 0 = (0, 0, 0, 3) := by
          have : ((M : Int) * 32 + 27) % 32 = 27 := by omega
          simp [getR, moreOf, numOf, beVal, this, sizeR]
        rw [e1, ← hlong] at hG1
        refine ⟨pureL_bys _, ?_⟩
        refine Or.inl ⟨⟨rfl, by simp⟩, ?_⟩
        conv => whnf
        repeat (refine ⟨rfl, ?_⟩; conv => whnf)
        refine ⟨_, _, hG1, rfl, ?_⟩
        conv => whnf
        have hx28 : IntKind.u8.wrap (bits .or .i64 ((M : Int) * 2 ^ min (Int.toNat 5) IntKind.i64.bits) 28 + (3 : Nat)) = (M : Int) * 32 + 31 := by
          rw [hor 28 (by omega) (by omega), wrap_u8]
          omega
        have hx27 : IntKind.u8.wrap (bits .or .i64 ((M : Int) * 2 ^ min (Int.toNat 5) IntKind.i64.bits) 27) = (M : Int) * 32 + 27 := by
          rw [hor 27 (by omega) (by omega), wrap_u8]
          omega
        have hG2 := get_ok [(M : Int) * 32 + 31, 0, 0, 0, 0, 0, 0, 0, 0] (by intro x hx; simp at hx; omega) (by simp) 0
        have e2 : getR [(M : Int) * 32 + 31, 0, 0, 0, 0, 0, 0, 0, 0] 0 = (0, 0, 0, 3) := by
          have : ((M : Int) * 32 + 31) % 32 = 31 := by omega
          simp [getR, this]
        have hG3 := get_ok [(M : Int) * 32 + 27, 128, 0, 0, 0, 0, 0, 0, 0] (by intro x hx; simp at hx; omega) (by simp) 0
        have e3 : getR [(M : Int) * 32 + 27, 128, 0, 0, 0, 0, 0, 0, 0] 0 = (0, 0, 0, 3) := by
          have : ((M : Int) * 32 + 27) % 32 = 27 := by omega
          simp [getR, moreOf, numOf, beVal, this]
        rw [e2, ← hx28] at hG2
        rw [e3, ← hx27] at hG3
        refine ⟨by omega, ?_⟩
        refine fit_i64 (by rw [e5]; omega) ?_
        conv => whnf
        refine fit_i64 (by rw [hor 28 (by omega) (by omega)]; omega) ?_
        conv => whnf
        refine fit_wrap ?_
        conv => whnf
        refine ⟨rfl, ?_⟩
        refine Or.inl ⟨⟨rfl, rfl⟩, ?_⟩
        conv => whnf
        repeat (refine ⟨rfl, ?_⟩; conv => whnf)
        refine ⟨_, _, hG2, rfl, ?_⟩
        conv => whnf
        refine ⟨by omega, ?_⟩
        refine fit_i64 (by rw [e5]; omega) ?_
        conv => whnf
        refine fit_wrap ?_
        conv => whnf
        refine ⟨rfl, ?_⟩
        refine Or.inl ⟨⟨rfl, rfl⟩, ?_⟩
        conv => whnf
        repeat (refine ⟨rfl, ?_⟩; conv => whnf)
        refine ⟨_, _, hG3, rfl, ?_⟩
        conv => whnf
        repeat (first | (refine ifB_t ?_; conv => whnf) | (refine ifB_f ?_; conv => whnf))
        refine ⟨rfl, _, _, wakes_ok, rfl, ?_⟩
        conv => whnf
        repeat (first | (refine ifB_t ?_; conv => whnf) | (refine ifB_f ?_; conv => whnf))
        exact ⟨rfl, rfl⟩
    · refine weaker_of [(0, 2)] rfl rfl ?_ ?_
      · refine ⟨⟨rfl, rfl⟩, ⟨rfl, rfl⟩, ⟨rfl, rfl⟩, ⟨rfl, rfl⟩, ⟨rfl, rfl, rfl, rfl, nofun⟩, trivial⟩
      · refine ⟨lesP_bys ?_, trivial⟩
        show [AV.int .u8 _] = _
        rw [hor 24 (by omega) (by omega), wrap_u8]
        simp [bys, beAcc]
        omega
  · refine fit_i64 (by decide) ?_
    conv => whnf
    refine ⟨by decide, ?_⟩
    conv => whnf
    refine ⟨_, rfl, ?_⟩
    conv => whnf
    refine fit_i64 (by decide) ?_
    conv => whnf
    repeat (refine ⟨rfl, ?_⟩; conv => whnf)
    have hP := put_ok [] (by simp) M 4294967295 (by omega) (by omega) (by omega) (by omega)
    have hpl : putL M 4294967295 = [(M : Int) * 32 + 26, 255, 255, 255, 255] := by simp [putL, sizeR, beAcc, byteAt, List.range_succ]
    rw [hpl] at hP
    refine ⟨_, _, hP, rfl, ?_⟩
    conv => whnf
    repeat (first | (refine ifB_t ?_; conv => whnf) | (refine ifB_f ?_; conv => whnf))
    refine fit_i64 (by decide) ?_
    conv => whnf
    repeat (first | (refine ifB_t ?_; conv => whnf) | (refine ifB_f ?_; conv => whnf))
    refine ⟨by decide, ?_⟩
    conv => whnf
    refine ⟨_, rfl, ?_⟩
    conv => whnf
    repeat (first | (refine ifB_t ?_; conv => whnf) | (refine ifB_f ?_; conv => whnf))
    refine ⟨by omega, ?_⟩
    conv => whnf
    refine fit_i64 (by rw [e5]; omega) ?_
    conv => whnf
    refine fit_i64 (by rw [hor 24 (by omega) (by omega)]; omega) ?_
    conv => whnf
    refine fit_wrap ?_
    conv => whnf
    repeat (refine ⟨by decide, ?_⟩; conv => whnf)
    refine ⟨_, rfl, ?_⟩
    conv => whnf
    refine fit_i64 (by decide) ?_
    conv => whnf
    refine fit_i64 (by decide) ?_
    conv => whnf
    refine Does.loop (fun c : Nat => mkSt [(0, .int .i64 M), (1, .int .i64 (3 : Nat)), (13, .int .i64 4294967295), (14, .int .i64 (((8 : Nat) : Int) - 1 - c)), (12, .sl 0 0 (1 + c) 1 false)] [(0, bys ([(M : Int) * 32 + 24 + (3 : Nat)] ++ beAcc 4294967295 8 c))] 1 141)
      (fun c => c ≤ 8) (fun c => 8 - c) ?_ 0 (Nat.zero_le _) ?_
    · intro c hc
      refine wpc_sound (M := MH) (PL := PL0) (CU := noCut) TTok mixed _ _ _ ?_
      conv => whnf
      refine ifB_dec (fun h => ?_) (fun h => ?_)
      · conv => whnf
        refine fit_i64 ⟨by omega, by omega⟩ ?_
        conv => whnf
        refine fit_u64 ⟨by omega, by omega⟩ ?_
        conv => whnf
        refine ⟨by omega, ?_⟩
        conv => whnf
        refine fit_wrap ?_
        conv => whnf
        refine Or.inl ⟨⟨rfl, rfl, rfl⟩, ?_⟩
        conv => whnf
        refine ⟨rfl, ?_⟩
        conv => whnf
        refine ⟨⟨rfl, rfl, by simp; omega, by simp [limB]; omega⟩, ?_⟩
        conv => whnf
        refine fit_i64 ⟨by omega, by omega⟩ ?_
        conv => whnf
        refine ⟨c + 1, by omega, by omega, weaker_of [(0, 2)] rfl rfl ?_ ?_⟩
        · refine ⟨⟨rfl, rfl⟩, ⟨rfl, rfl⟩, ⟨rfl, rfl⟩, ⟨rfl, ?_⟩, ⟨rfl, rfl, rfl, rfl, id⟩, trivial⟩
          show ((8 : Nat) : Int) - 1 - c - 1 = (8 : Nat) - 1 - (c + 1 : Nat)
          omega
        · refine ⟨lesP_bys ?_, trivial⟩
          show bys ([(M : Int) * 32 + 24 + (3 : Nat)] ++ beAcc 4294967295 8 c) ++ [.int .u8 _] = bys ([(M : Int) * 32 + 24 + (3 : Nat)] ++ beAcc 4294967295 8 (c + 1))
          rw [byteAt_shr 4294967295 8 c (by omega) (by omega), bys_snoc, beAcc_succ]
          simp
      · conv => whnf
        have hc1 : c = 8 := by omega
        subst hc1
        have hlong : [(M : Int) * 32 + 24 + (3 : Nat)] ++ beAcc 4294967295 8 8 = [(M : Int) * 32 + 27, 0, 0, 0, 0, 255, 255, 255, 255] := by simp [beAcc, byteAt, List.range_succ]; try omega
        have hG1 := get_ok [(M : Int) * 32 + 27, 0, 0, 0, 0, 255, 255, 255, 255] (by intro x hx; simp at hx; omega) (by simp) 0
        have e1 : getR [(M : Int) * 32 + 27, 0, 0, 0, 0, 255, 255, 255, 255] 0 = (0, 0, 0, 3) := by
          have : ((M : Int) * 32 + 27) % 32 = 27 := by omega
          simp [getR, moreOf, numOf, beVal, this, sizeR]
        rw [e1, ← hlong] at hG1
        refine ⟨pureL_bys _, ?_⟩
        refine Or.inl ⟨⟨rfl, by simp⟩, ?_⟩
        conv => whnf
        repeat (refine ⟨rfl, ?_⟩; conv => whnf)
        refine ⟨_, _, hG1, rfl, ?_⟩
        conv => whnf
        have hx28 : IntKind.u8.wrap (bits .or .i64 ((M : Int) * 2 ^ min (Int.toNat 5) IntKind.i64.bits) 28 + (3 : Nat)) = (M : Int) * 32 + 31 := by
          rw [hor 28 (by omega) (by omega), wrap_u8]
          omega
        have hx27 : IntKind.u8.wrap (bits .or .i64 ((M : Int) * 2 ^ min (Int.toNat 5) IntKind.i64.bits) 27) = (M : Int) * 32 + 27 := by
          rw [hor 27 (by omega) (by omega), wrap_u8]
          omega
        have hG2 := get_ok [(M : Int) * 32 + 31, 0, 0, 0, 0, 0, 0, 0, 0] (by intro x hx; simp at hx; omega) (by simp) 0
        have e2 : getR [(M : Int) * 32 + 31, 0, 0, 0, 0, 0, 0, 0, 0] 0 = (0, 0, 0, 3) := by
          have : ((M : Int) * 32 + 31) % 32 = 31 := by omega
          simp [getR, this]
        have hG3 := get_ok [(M : Int) * 32 + 27, 128, 0, 0, 0, 0, 0, 0, 0] (by intro x hx; simp at hx; omega) (by simp) 0
        have e3 : getR [(M : Int) * 32 + 27, 128, 0, 0, 0, 0, 0, 0, 0] 0 = (0, 0, 0, 3) := by
          have : ((M : Int) * 32 + 27) % 32 = 27 := by omega
          simp [getR, moreOf, numOf, beVal, this]
        rw [e2, ← hx28] at hG2
        rw [e3, ← hx27] at hG3
        refine ⟨by omega, ?_⟩
        refine fit_i64 (by rw [e5]; omega) ?_
        conv => whnf
        refine fit_i64 (by rw [hor 28 (by omega) (by omega)]; omega) ?_
        conv => whnf
        refine fit_wrap ?_
        conv => whnf
        refine ⟨rfl, ?_⟩
        refine Or.inl ⟨⟨rfl, rfl⟩, ?_⟩
        conv => whnf
        repeat (refine ⟨rfl, ?_⟩; conv => whnf)
        refine ⟨_, _, hG2, rfl, ?_⟩
        conv => whnf
        refine ⟨by omega, ?_⟩
        refine fit_i64 (by rw [e5]; omega) ?_
        conv => whnf
        refine fit_wrap ?_
        conv => whnf
        refine ⟨rfl, ?_⟩
        refine Or.inl ⟨⟨rfl, rfl⟩, ?_⟩
        conv => whnf
        repeat (refine ⟨rfl, ?_⟩; conv => whnf)
        refine ⟨_, _, hG3, rfl, ?_⟩
        conv => whnf
        repeat (first | (refine ifB_t ?_; conv => whnf) | (refine ifB_f ?_; conv => whnf))
        refine ⟨rfl, _, _, wakes_ok, rfl, ?_⟩
        conv => whnf
        repeat (first | (refine ifB_t ?_; conv => whnf) | (refine ifB_f ?_; conv => whnf))
        exact ⟨rfl, rfl⟩
    · refine weaker_of [(0, 3)] rfl rfl ?_ ?_
      · refine ⟨⟨rfl, rfl⟩, ⟨rfl, rfl⟩, ⟨rfl, rfl⟩, ⟨rfl, rfl⟩, ⟨rfl, rfl, rfl, rfl, nofun⟩, trivial⟩
      · refine ⟨lesP_bys ?_, trivial⟩
        show [AV.int .u8 _] = _
        rw [hor 24 (by omega) (by omega), wrap_u8]
        simp [bys, beAcc]
        omega

end Go.Proofs.Ytaefmhdpfmpijaa.Abs
