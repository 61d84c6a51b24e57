/- codicillaw09.HeadAny: it answers true. -/
import Derived.Test.YtaefmhdpfmpijaaHJ
set_option linter.unusedVariables false
set_option linter.unusedSimpArgs false
namespace Go.Proofs.Ytaefmhdpfmpijaa.Abs
open Go
attribute [local irreducible] ifB fitP Does Weaker

theorem headAny_ok (b : List Int) (at' : Int) (hb : Byt b) (h3 : -9223372036854775808 ≤ at' ∧ at' < 9223372036854775808) :
    ACall Try.prog 6 [.ro b.length (bys b), .int .i64 at'] (.bool true) [] := by
  refine ACall.of_does TTok Try.func6 rfl Try.call6 rfl (wpc_sound (M := MH) (PL := PL0) (CU := noCut) TTok mixed _ _ _ ?_)
  conv => whnf
  refine ifB_dec (fun hl => ?_) (fun hl => ?_)
  · conv => whnf
    exact ⟨rfl, rfl⟩
  have hget := get_ok b hb (by omega) at'
  conv => whnf
  refine ⟨pureL_bys _, ?_⟩
  conv => whnf
  repeat (refine ⟨rfl, ?_⟩; conv => whnf)
  refine ⟨_, _, hget, rfl, ?_⟩
  conv => whnf
  rcases getR_says b hb at' with ⟨e, hbad⟩ | ⟨e, hbad⟩ | ⟨k, m, hk, n, rfl, hkm, hn0, hn1, e, hput⟩
  · rw [e]
    repeat (first | (refine ifB_t ?_; conv => whnf) | (refine ifB_f ?_; conv => whnf))
    refine ifB_dec (fun k1 => ?_) (fun k1 => ?_)
    · conv => whnf
      repeat (first | (refine ifB_t ?_; conv => whnf) | (refine ifB_f ?_; conv => whnf))
      refine ⟨rfl, _, _, wakes_ok, rfl, ?_⟩
      conv => whnf
      repeat (first | (refine ifB_t ?_; conv => whnf) | (refine ifB_f ?_; conv => whnf))
      exact ⟨rfl, rfl⟩
    · have k2 : (b.length : Int) < at' := by omega
      conv => whnf
      repeat (first | (refine ifB_t ?_; conv => whnf) | (refine ifB_f ?_; conv => whnf))
      refine ifB_pos (by simp; omega) ?_
      conv => whnf
      repeat (first | (refine ifB_t ?_; conv => whnf) | (refine ifB_f ?_; conv => whnf))
      refine ⟨rfl, _, _, wakes_ok, rfl, ?_⟩
      conv => whnf
      repeat (first | (refine ifB_t ?_; conv => whnf) | (refine ifB_f ?_; conv => whnf))
      exact ⟨rfl, rfl⟩
  · rw [e]
    repeat (first | (refine ifB_t ?_; conv => whnf) | (refine ifB_f ?_; conv => whnf))
    refine ifB_neg (decide_eq_false (by omega)) ?_
    conv => whnf
    repeat (first | (refine ifB_t ?_; conv => whnf) | (refine ifB_f ?_; conv => whnf))
    refine ifB_pos (by simp; omega) ?_
    conv => whnf
    repeat (first | (refine ifB_t ?_; conv => whnf) | (refine ifB_f ?_; conv => whnf))
    refine ⟨rfl, _, _, wakes_ok, rfl, ?_⟩
    conv => whnf
    repeat (first | (refine ifB_t ?_; conv => whnf) | (refine ifB_f ?_; conv => whnf))
    exact ⟨rfl, rfl⟩
  · have hbk := hb b[k] (by simp)
    have e5 : b[k] / 2 ^ min (Int.toNat 5) IntKind.u8.bits = b[k] / 32 := by
      have : (2 : Int) ^ min (Int.toNat 5) IntKind.u8.bits = 32 := by decide
      rw [this]
    rw [e]
    repeat (first | (refine ifB_t ?_; conv => whnf) | (refine ifB_f ?_; conv => whnf))
    refine ifB_neg (decide_eq_false (by (try dsimp only); omega)) ?_
    conv => whnf
    repeat (first | (refine ifB_t ?_; conv => whnf) | (refine ifB_f ?_; conv => whnf))
    refine ifB_neg (decide_eq_false (by (try dsimp only); omega)) ?_
    conv => whnf
    repeat (first | (refine ifB_t ?_; conv => whnf) | (refine ifB_f ?_; conv => whnf))
    refine ifB_neg (decide_eq_false (by (try dsimp only); omega)) ?_
    conv => whnf
    repeat (first | (refine ifB_t ?_; conv => whnf) | (refine ifB_f ?_; conv => whnf))
    refine ⟨by simp; omega, ?_⟩
    conv => whnf
    repeat (first | (refine ifB_t ?_; conv => whnf) | (refine ifB_f ?_; conv => whnf))
    refine ⟨_, by simpa using get_bys hk, ?_⟩
    conv => whnf
    repeat (first | (refine ifB_t ?_; conv => whnf) | (refine ifB_f ?_; conv => whnf))
    refine ⟨by omega, ?_⟩
    conv => whnf
    repeat (first | (refine ifB_t ?_; conv => whnf) | (refine ifB_f ?_; conv => whnf))
    refine fit_i64 (by rw [e5]; omega) ?_
    conv => whnf
    repeat (first | (refine ifB_t ?_; conv => whnf) | (refine ifB_f ?_; conv => whnf))
    refine ifB_neg (decide_eq_false (by (try dsimp only); omega)) ?_
    conv => whnf
    repeat (first | (refine ifB_t ?_; conv => whnf) | (refine ifB_f ?_; conv => whnf))
    have hP := put_ok [] (by simp) (b[k] / 32) n (by omega) (by omega) hn0 (by omega)
    have hL : lenB (some (k : Int)) (some ((k : Int) + 1 + m)) b.length = ([] ++ putL (b[k] / 32) n).length := by
      rw [hput]
      simp [lenB]
      omega
    have hC : cutB (bys b) (some (k : Int)) (some ((k : Int) + 1 + m)) 1 = bys ([] ++ putL (b[k] / 32) n) := by
      have e1 : ((k : Int) + 1 + m).toNat - k = 1 + m := by omega
      rw [List.nil_append, hput, ← bys_take, ← bys_drop]
      simp [cutB, e1]
    have hB : ACall Try.prog 10 [.ro ([] ++ putL (b[k] / 32) n).length (bys ([] ++ putL (b[k] / 32) n)), .ro (lenB (some (k : Int)) (some ((k : Int) + 1 + m)) b.length) (cutB (bys b) (some (k : Int)) (some ((k : Int) + 1 + m)) 1)]
        (.bool (decide (([] ++ putL (b[k] / 32) n) = ([] ++ putL (b[k] / 32) n)))) [] := by
      rw [hL, hC]
      exact bytes_ok _ _ (by rw [List.nil_append, hput]; simp; omega)
    repeat (refine ⟨rfl, ?_⟩; conv => whnf)
    refine ⟨_, _, hP, rfl, ?_⟩
    conv => whnf
    repeat (first | (refine ifB_t ?_; conv => whnf) | (refine ifB_f ?_; conv => whnf))
    refine ⟨⟨by simp, by omega, by (try dsimp only); omega, by (try dsimp only); omega⟩, ?_⟩
    conv => whnf
    repeat (first | (refine ifB_t ?_; conv => whnf) | (refine ifB_f ?_; conv => whnf))
    refine ⟨pureL_bys _, ?_⟩
    refine Or.inl ⟨⟨rfl, by simp⟩, ?_⟩
    conv => whnf
    refine ⟨by
      have : pureL (cutB (bys b) (some (k : Int)) (some ((k : Int) + 1 + m)) 1) = true := by rw [hC]; exact pureL_bys _
      exact this, ?_⟩
    conv => whnf
    refine ⟨rfl, _, _, hB, rfl, ?_⟩
    conv => whnf
    repeat (first | (refine ifB_t ?_; conv => whnf) | (refine ifB_f ?_; conv => whnf))
    refine ifB_pos (by simp) ?_
    conv => whnf
    repeat (first | (refine ifB_t ?_; conv => whnf) | (refine ifB_f ?_; conv => whnf))
    refine ⟨rfl, _, _, wakes_ok, rfl, ?_⟩
    conv => whnf
    repeat (first | (refine ifB_t ?_; conv => whnf) | (refine ifB_f ?_; conv => whnf))
    exact ⟨rfl, rfl⟩

end Go.Proofs.Ytaefmhdpfmpijaa.Abs
