/- codicilref09.Head: what it does. -/
import Derived.Test.YtaefmhdpfmpijaaHD
set_option linter.unusedVariables false
set_option linter.unusedSimpArgs false
namespace Go.Proofs.Ytaefmhdpfmpijaa.Abs
open Go
attribute [local irreducible] ifB fitP Does Weaker

theorem refHead_ok (major n : Int) (h0 : 0 ≤ major) (h1 : major < 8) (h2 : 0 ≤ n) : ACall Try.prog 11 [.int .i64 major, .int .i64 n] (.own (putL major n).length 1 (bys (putL major n))) [] := by
  have e5 : (2 : Int) ^ min (Int.toNat 5) IntKind.i64.bits = 32 := by decide
  have e8 : IntKind.u8.wrap (major * 2 ^ min (Int.toNat 5) IntKind.i64.bits) = major * 32 := by rw [e5, wrap_u8]; omega
  have hor : ∀ y : Int, 0 ≤ y → y < 32 → bits .or .u8 (IntKind.u8.wrap (major * 2 ^ min (Int.toNat 5) IntKind.i64.bits)) y = major * 32 + y := fun y k0 k1 => by
    rw [e8]
    exact bits_join .u8 8 (by decide) wraps_u8 5 _ _ (by omega) (by omega) (by omega) k0 (by omega) (by omega)
  refine ACall.of_does TTok Try.func11 rfl Try.call11 rfl (wpc_sound (M := MH) (PL := PL0) (CU := noCut) TTok mixed _ _ _ ?_)
  conv => whnf
  refine ⟨by omega, ?_⟩
  conv => whnf
  refine fit_i64 (by rw [e5]; omega) ?_
  conv => whnf
  refine fit_wrap ?_
  conv => whnf
  refine ifB_dec (fun h3 => ?_) (fun h3 => ?_)
  · conv => whnf
    refine fit_u8 ⟨by omega, by omega⟩ ?_
    conv => whnf
    have ep : putL major n = [major * 32 + n] := by simp [putL, sizeR, h3, beAcc]
    refine ⟨⟨by simp [ep], rfl, ?_, by simp, pureL_bys _⟩, rfl⟩
    show [AV.int .u8 _] = _
    rw [ep, hor n h2 (by omega)]
    rfl
  conv => whnf
  refine ifB_dec (fun h4 => ?_) (fun h4 => ?_)
  · skip
    conv => whnf
    repeat (refine ⟨rfl, ?_⟩; conv => whnf)
    refine ⟨_, _, be_ok n 1 (by omega), rfl, ?_⟩
    conv => whnf
    refine Or.inl ⟨⟨rfl, rfl, by simp⟩, ?_⟩
    conv => whnf
    refine ⟨ones_bys _, ?_⟩
    conv => whnf
    refine ⟨⟨rfl, by simp, Or.inr (by omega), by simp [limB]⟩, ?_⟩
    conv => whnf
    have ep : putL major n = (major * 32 + 24) :: beAcc n 1 1 := by simp [putL, sizeR, h3, h4]
    refine ⟨⟨by simp [ep], rfl, ?_, by simp, pureL_bys _⟩, rfl⟩
    show [AV.int .u8 (bits .or .u8 (IntKind.u8.wrap (major * 2 ^ min (Int.toNat 5) IntKind.i64.bits)) 24)] ++ bys (beAcc n 1 1) = _
    rw [ep, hor 24 (by omega) (by omega)]
    rfl
  conv => whnf
  refine ifB_dec (fun h5 => ?_) (fun h5 => ?_)
  · skip
    conv => whnf
    repeat (refine ⟨rfl, ?_⟩; conv => whnf)
    refine ⟨_, _, be_ok n 2 (by omega), rfl, ?_⟩
    conv => whnf
    refine Or.inl ⟨⟨rfl, rfl, by simp⟩, ?_⟩
    conv => whnf
    refine ⟨ones_bys _, ?_⟩
    conv => whnf
    refine ⟨⟨rfl, by simp, Or.inr (by omega), by simp [limB]⟩, ?_⟩
    conv => whnf
    have ep : putL major n = (major * 32 + 25) :: beAcc n 2 2 := by simp [putL, sizeR, h3, h4, h5]
    refine ⟨⟨by simp [ep], rfl, ?_, by simp, pureL_bys _⟩, rfl⟩
    show [AV.int .u8 (bits .or .u8 (IntKind.u8.wrap (major * 2 ^ min (Int.toNat 5) IntKind.i64.bits)) 25)] ++ bys (beAcc n 2 2) = _
    rw [ep, hor 25 (by omega) (by omega)]
    rfl
  conv => whnf
  refine ifB_dec (fun h6 => ?_) (fun h6 => ?_)
  · skip
    conv => whnf
    repeat (refine ⟨rfl, ?_⟩; conv => whnf)
    refine ⟨_, _, be_ok n 4 (by omega), rfl, ?_⟩
    conv => whnf
    refine Or.inl ⟨⟨rfl, rfl, by simp⟩, ?_⟩
    conv => whnf
    refine ⟨ones_bys _, ?_⟩
    conv => whnf
    refine ⟨⟨rfl, by simp, Or.inr (by omega), by simp [limB]⟩, ?_⟩
    conv => whnf
    have ep : putL major n = (major * 32 + 26) :: beAcc n 4 4 := by simp [putL, sizeR, h3, h4, h5, h6]
    refine ⟨⟨by simp [ep], rfl, ?_, by simp, pureL_bys _⟩, rfl⟩
    show [AV.int .u8 (bits .or .u8 (IntKind.u8.wrap (major * 2 ^ min (Int.toNat 5) IntKind.i64.bits)) 26)] ++ bys (beAcc n 4 4) = _
    rw [ep, hor 26 (by omega) (by omega)]
    rfl
  conv => whnf
  repeat (refine ⟨rfl, ?_⟩; conv => whnf)
  refine ⟨_, _, be_ok n 8 (by omega), rfl, ?_⟩
  conv => whnf
  refine Or.inl ⟨⟨rfl, rfl, by simp⟩, ?_⟩
  conv => whnf
  refine ⟨ones_bys _, ?_⟩
  conv => whnf
  refine ⟨⟨rfl, by simp, Or.inr (by omega), by simp [limB]⟩, ?_⟩
  conv => whnf
  have ep : putL major n = (major * 32 + 27) :: beAcc n 8 8 := by simp [putL, sizeR, h3, h4, h5, h6]
  refine ⟨⟨by simp [ep], rfl, ?_, by simp, pureL_bys _⟩, rfl⟩
  show [AV.int .u8 (bits .or .u8 (IntKind.u8.wrap (major * 2 ^ min (Int.toNat 5) IntKind.i64.bits)) 27)] ++ bys (beAcc n 8 8) = _
  rw [ep, hor 27 (by omega) (by omega)]
  rfl

end Go.Proofs.Ytaefmhdpfmpijaa.Abs
