/- head.Put: what it does. -/
import Derived.Test.YtaefmhdpfmpijaaHA
import Derived.Laws.BitsLemmas
set_option linter.unusedVariables false
set_option linter.unusedSimpArgs false
namespace Go.Proofs.Ytaefmhdpfmpijaa.Abs
open Go
attribute [local irreducible] ifB fitP Does Weaker

/-- How the functions of package head and of the laws' helpers take what they are given. -/
def MH : FuncId → List Mode := modes [(16, [.rd]), (17, [.bw]), (18, [.rd, .rd]), (19, [.rd, .rd, .rd]), (8, [.bw]),
  (9, [.bw, .rd, .rd]), (11, [.rd, .rd]), (10, [.bw, .bw]), (12, [.mv 1]), (13, [.bw, .rd]), (14, [.bw, .rd])]

theorem sizeR_le (n : Int) (h : 0 ≤ n) : (sizeR n).1 ≤ 8 ∧ 0 ≤ (sizeR n).2 ∧ (sizeR n).2 < 32 := by
  unfold sizeR
  repeat' split
  all_goals simp
  omega

def putL (major n : Int) : List Int := (major * 32 + (sizeR n).2) :: beAcc n (sizeR n).1 (sizeR n).1

theorem wrap_i64_63 (n : Int) (h0 : 0 ≤ n) (h1 : n < 2 ^ 63) : IntKind.i64.wrap n = n := wrap_in (k := .i64) (by simp [IntKind.lo]; omega) (by simp [IntKind.hi]; omega)

theorem put_bad (b : List Int) (major n : Int) (h : major < 0 ∨ 8 ≤ major ∨ n < 0) : ACall Try.prog 9 [.ro b.length (bys b), .int .i64 major, .int .i64 n] (.tuple [.own 0 1 [], .int .i64 1]) [] := by
  refine ACall.of_does TTok Try.func9 rfl Try.call9 rfl (wpc_sound (M := MH) (PL := PL0) (CU := noCut) TTok mixed _ _ _ ?_)
  conv => whnf
  refine ifB_dec (fun h1 => ?_) (fun h1 => ?_)
  · conv => whnf
    repeat (refine ifB_t ?_; conv => whnf)
    exact ⟨⟨rfl, rfl⟩, ⟨rfl, rfl⟩, rfl⟩
  conv => whnf
  repeat (refine ifB_f ?_; conv => whnf)
  refine ifB_dec (fun h2 => ?_) (fun h2 => ?_)
  · conv => whnf
    repeat (refine ifB_t ?_; conv => whnf)
    exact ⟨⟨rfl, rfl⟩, ⟨rfl, rfl⟩, rfl⟩
  conv => whnf
  repeat (refine ifB_f ?_; conv => whnf)
  refine ifB_dec (fun h3 => ?_) (fun h3 => ?_)
  · conv => whnf
    repeat (refine ifB_t ?_; conv => whnf)
    exact ⟨⟨rfl, rfl⟩, ⟨rfl, rfl⟩, rfl⟩
  omega

theorem put_ok (b : List Int) (hb : b.length ≤ 1048576) (major n : Int) (h0 : 0 ≤ major) (h1 : major < 8) (h2 : 0 ≤ n) (h3 : n < 9223372036854775808) :
    ACall Try.prog 9 [.ro b.length (bys b), .int .i64 major, .int .i64 n] (.tuple [.own (b ++ putL major n).length 1 (bys (b ++ putL major n)), .int .i64 0]) [] := by
  obtain ⟨s1, s2, s3⟩ := sizeR_le n h2
  refine ACall.of_does TTok Try.func9 rfl Try.call9 rfl (wpc_sound (M := MH) (PL := PL0) (CU := noCut) TTok mixed _ _ _ ?_)
  conv => whnf
  refine ifB_neg (by simp; omega) ?_
  conv => whnf
  repeat (refine ifB_f ?_; conv => whnf)
  refine ifB_neg (by simp; omega) ?_
  conv => whnf
  repeat (refine ifB_f ?_; conv => whnf)
  refine ifB_neg (by simp; omega) ?_
  conv => whnf
  repeat (refine ifB_f ?_; conv => whnf)
  refine ⟨rfl, ?_⟩
  conv => whnf
  refine ⟨rfl, _, _, size_ok n, rfl, ?_⟩
  conv => whnf
  refine ⟨pureL_bys b, ?_⟩
  conv => whnf
  refine ⟨rfl, _, _, clone_ok b (by omega), rfl, ?_⟩
  conv => whnf
  refine ⟨by omega, ?_⟩
  conv => whnf
  have e5 : (2 : Int) ^ min (Int.toNat 5) IntKind.i64.bits = 32 := by decide
  refine fit_i64 (by rw [e5]; omega) ?_
  conv => whnf
  refine fit_wrap ?_
  conv => whnf
  refine Or.inl ⟨⟨rfl, rfl, rfl⟩, ?_⟩
  conv => whnf
  refine ⟨rfl, ?_⟩
  conv => whnf
  refine ⟨⟨rfl, rfl, by simp, by simp [limB]; omega⟩, ?_⟩
  conv => whnf
  refine fit_i64 ⟨by omega, by omega⟩ ?_
  conv => whnf
  have hor : IntKind.u8.wrap (bits .or .i64 (major * 2 ^ min (Int.toNat 5) IntKind.i64.bits) (sizeR n).2) = major * 32 + (sizeR n).2 := by
    rw [e5, bits_join .i64 63 (by decide) wrap_i64_63 5 (major * 32) (sizeR n).2 (by omega) (by omega) (by omega) s2 (by omega) (by omega), wrap_u8]
    omega
  refine Does.loop (fun c : Nat => mkSt [(2, .int .i64 n), (11, .int .i64 (((sizeR n).1 : Int) - 1 - c)), (10, .sl 0 0 (b.length + 1 + c) 1 false)]
      [(0, bys (b ++ [major * 32 + (sizeR n).2] ++ beAcc n (sizeR n).1 c))] 1 51)
    (fun c => c ≤ (sizeR n).1) (fun c => (sizeR n).1 - c) ?_ 0 (Nat.zero_le _) ?_
  · intro c hc
    refine wpc_sound (M := MH) (PL := PL0) (CU := noCut) TTok mixed _ _ _ ?_
    conv => whnf
    refine ifB_dec (fun h => ?_) (fun h => ?_)
    · conv => whnf
      refine fit_i64 ⟨by omega, by omega⟩ ?_
      conv => whnf
      refine ⟨by omega, ?_⟩
      conv => whnf
      refine fit_wrap ?_
      conv => whnf
      refine Or.inl ⟨⟨rfl, rfl, rfl⟩, ?_⟩
      conv => whnf
      refine ⟨rfl, ?_⟩
      conv => whnf
      refine ⟨⟨rfl, rfl, by simp; omega, by simp [limB]; omega⟩, ?_⟩
      conv => whnf
      refine fit_i64 ⟨by omega, by omega⟩ ?_
      conv => whnf
      refine ⟨c + 1, by omega, by omega, weaker_of [(0, 2)] rfl rfl ?_ ?_⟩
      · refine ⟨⟨rfl, rfl⟩, ⟨rfl, ?_⟩, ⟨rfl, rfl, rfl, rfl, id⟩, trivial⟩
        show ((sizeR n).1 : Int) - 1 - c - 1 = (sizeR n).1 - 1 - (c + 1 : Nat)
        omega
      · refine ⟨lesP_bys ?_, trivial⟩
        show bys (b ++ [major * 32 + (sizeR n).2] ++ beAcc n (sizeR n).1 c) ++ [.int .u8 _] = bys (b ++ [major * 32 + (sizeR n).2] ++ beAcc n (sizeR n).1 (c + 1))
        rw [byteAt_shr n (sizeR n).1 c s1 (by omega), bys_snoc, beAcc_succ]
        simp
    · conv => whnf
      have hcs : c = (sizeR n).1 := by omega
      refine ⟨⟨by simp [putL]; omega, rfl, by rw [hcs]; simp [putL], by simp, pureL_bys _⟩, ?_⟩
      conv => whnf
      exact ⟨⟨rfl, rfl⟩, rfl⟩
  · refine weaker_of [(0, 2)] rfl rfl ?_ ?_
    · refine ⟨⟨rfl, rfl⟩, ⟨rfl, ?_⟩, ⟨rfl, rfl, rfl, rfl, id⟩, trivial⟩
      show ((sizeR n).1 : Int) - 1 = (sizeR n).1 - 1 - (0 : Nat)
      omega
    · refine ⟨lesP_bys ?_, trivial⟩
      show bys b ++ [.int .u8 _] = _
      rw [hor, bys_snoc]
      simp [beAcc]

/-- What Put gives back. -/
def putS (b : List Int) (major n : Int) : List Int × Int := if major < 0 ∨ 8 ≤ major ∨ n < 0 then ([], 1) else (b ++ putL major n, 0)

theorem put_any (b : List Int) (hb : b.length ≤ 1048576) (major n : Int) (h3 : n < 9223372036854775808) :
    ACall Try.prog 9 [.ro b.length (bys b), .int .i64 major, .int .i64 n] (.tuple [.own (putS b major n).1.length 1 (bys (putS b major n).1), .int .i64 (putS b major n).2]) [] := by
  by_cases h : major < 0 ∨ 8 ≤ major ∨ n < 0
  · simp only [putS, if_pos h]
    exact put_bad b major n h
  · simp only [putS, if_neg h]
    exact put_ok b hb major n (by omega) (by omega) (by omega) h3

end Go.Proofs.Ytaefmhdpfmpijaa.Abs
