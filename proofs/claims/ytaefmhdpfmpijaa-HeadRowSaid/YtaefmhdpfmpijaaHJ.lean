/- What head.Get answers, said by what head.Put writes. -/
import Derived.Test.YtaefmhdpfmpijaaHH
set_option linter.unusedVariables false
set_option linter.unusedSimpArgs false
namespace Go.Proofs.Ytaefmhdpfmpijaa.Abs
open Go

/-- What Get answers: bad places, bad bytes, or the head that stands there. -/
theorem getR_says (b : List Int) (hb : Byt b) (at' : Int) :
    (getR b at' = (0, 0, 0, 1) ∧ (at' < 0 ∨ (b.length : Int) < at')) ∨ (getR b at' = (0, 0, 0, 3) ∧ ¬ (at' < 0 ∨ (b.length : Int) < at')) ∨
    ∃ (k m : Nat) (hk : k < b.length) (n : Int), at' = k ∧ k + 1 + m ≤ b.length ∧ 0 ≤ n ∧ n ≤ 9223372036854775807 ∧ getR b at' = (b[k] / 32, n, (k : Int) + 1 + m, 0) ∧
      putL (b[k] / 32) n = (b.drop k).take (1 + m) := by
  by_cases h1 : at' < 0 ∨ (b.length : Int) < at'
  · exact .inl ⟨by simp [getR, h1], h1⟩
  right
  have hat : ∃ k : Nat, at' = k := ⟨at'.toNat, by omega⟩
  obtain ⟨k, rfl⟩ := hat
  have h2 : ¬ (b.length : Int) < k := by omega
  by_cases hk : ¬ k < b.length
  · exact .inl ⟨by simp [getR, h2, hk], h1⟩
  have hk := Classical.not_not.1 hk
  have hbk := hb b[k] (by simp)
  by_cases h4 : 27 < b[k] % 32
  · exact .inl ⟨by simp [getR, h2, hk, h4], h1⟩
  by_cases h6 : b.length < k + 1 + moreOf b[k]
  · exact .inl ⟨by simp [getR, h2, hk, h4, h6], h1⟩
  by_cases h7 : 9223372036854775807 < numOf b[k] ((b.drop (k + 1)).take (moreOf b[k]))
  · exact .inl ⟨by simp [getR, h2, hk, h4, h6, h7], h1⟩
  by_cases h8 : ¬ (sizeR (numOf b[k] ((b.drop (k + 1)).take (moreOf b[k])))).1 = moreOf b[k]
  · exact .inl ⟨by simp [getR, h2, hk, h4, h6, h7, h8], h1⟩
  have h8 := Classical.not_not.1 h8
  right
  have hsb : Byt ((b.drop (k + 1)).take (moreOf b[k])) := fun x hx => hb x (List.mem_of_mem_drop (List.mem_of_mem_take hx))
  refine ⟨k, moreOf b[k], hk, numOf b[k] ((b.drop (k + 1)).take (moreOf b[k])), rfl, by omega, ?_, by omega, by simp [getR, h2, hk, h4, h6, h7, h8], ?_⟩
  · unfold numOf
    split
    · exact (beVal_bound hsb).1
    · omega
  · rw [putL_of hbk.1 h4 hsb (by simp; omega) h8]
    have e2 : b.drop k = b[k] :: b.drop (k + 1) := by simp
    rw [e2, Nat.add_comm 1, List.take_succ_cons]

end Go.Proofs.Ytaefmhdpfmpijaa.Abs
