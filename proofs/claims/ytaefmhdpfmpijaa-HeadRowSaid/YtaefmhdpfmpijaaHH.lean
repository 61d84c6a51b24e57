/- codicillaw09.wakes: it answers true. -/
import Derived.Test.YtaefmhdpfmpijaaHG
set_option linter.unusedVariables false
set_option linter.unusedSimpArgs false
namespace Go.Proofs.Ytaefmhdpfmpijaa.Abs
open Go
attribute [local irreducible] ifB fitP Does Weaker

theorem putL_500 : putL 0 500 = [25, 1, 244] := by decide
theorem getR_500 : getR [25, 1, 244] 0 = (0, 500, 3, 0) := by decide

theorem wakes_ok : ACall Try.prog 15 [] (.bool true) [] := by
  have hput := put_ok [] (by simp) 0 500 (by omega) (by omega) (by omega) (by omega)
  have hget := get_ok [25, 1, 244] (by intro x hx; simp at hx; omega) (by simp) 0
  have hb := bytes_ok [25, 1, 244] [25, 1, 244] (by simp)
  rw [putL_500] at hput
  rw [getR_500] at hget
  refine ACall.of_does TTok Try.func15 rfl Try.call15 rfl (wpc_sound (M := MH) (PL := PL0) (CU := noCut) TTok mixed _ _ _ ?_)
  conv => whnf
  repeat (refine ⟨rfl, ?_⟩; conv => whnf)
  refine ⟨_, _, hput, rfl, ?_⟩
  conv => whnf
  repeat (refine ⟨rfl, ?_⟩; conv => whnf)
  refine Or.inl ⟨⟨rfl, rfl⟩, ?_⟩
  conv => whnf
  repeat (refine ⟨rfl, ?_⟩; conv => whnf)
  refine ⟨_, _, hget, rfl, ?_⟩
  conv => whnf
  repeat (first | (refine ifB_t ?_; conv => whnf) | (refine ifB_f ?_; conv => whnf) | (refine ⟨rfl, ?_⟩; conv => whnf))
  refine Or.inl ⟨⟨rfl, rfl⟩, ?_⟩
  conv => whnf
  repeat (refine ⟨rfl, ?_⟩; conv => whnf)
  refine Or.inl ⟨⟨rfl, rfl⟩, ?_⟩
  conv => whnf
  repeat (refine ⟨rfl, ?_⟩; conv => whnf)
  refine ⟨_, _, hb, rfl, ?_⟩
  conv => whnf
  repeat (first | (refine ifB_t ?_; conv => whnf) | (refine ifB_f ?_; conv => whnf))
  exact ⟨rfl, rfl⟩

end Go.Proofs.Ytaefmhdpfmpijaa.Abs
