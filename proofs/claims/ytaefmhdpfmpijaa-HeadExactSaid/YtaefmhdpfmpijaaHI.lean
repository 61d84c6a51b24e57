/- codicillaw09.HeadExact: it answers true. -/
import Derived.Test.YtaefmhdpfmpijaaHH
set_option linter.unusedVariables false
set_option linter.unusedSimpArgs false
namespace Go.Proofs.Ytaefmhdpfmpijaa.Abs
open Go
attribute [local irreducible] ifB fitP Does Weaker

theorem headExact_ok (b : List Int) (major n at' : Int) (hb : Byt b) (h1 : -9223372036854775808 ≤ major ∧ major < 9223372036854775808) (h2 : -9223372036854775808 ≤ n ∧ n < 9223372036854775808)
    (h3 : -9223372036854775808 ≤ at' ∧ at' < 9223372036854775808) :
    ACall Try.prog 3 [.ro b.length (bys b), .int .i64 major, .int .i64 n, .int .i64 at'] (.bool true) [] := by
  refine ACall.of_does TTok Try.func3 rfl Try.call3 rfl (wpc_sound (M := MH) (PL := PL0) (CU := cutAt [6]) TTok mixed _ _ _ ?_)
  conv => whnf
  refine ifB_dec (fun hl => ?_) (fun hl => ?_)
  · conv => whnf
    exact ⟨rfl, rfl⟩
  have hget := get_ok b hb (by omega) at'
  have href := refGet_ok b hb (by omega) at' h3
  have hbb := bytes_ok b b (by omega)
  conv => whnf
  refine ⟨pureL_bys _, ?_⟩
  conv => whnf
  refine ⟨rfl, _, _, twin_ok b (by omega), rfl, ?_⟩
  conv => whnf
  refine ⟨pureL_bys _, ?_⟩
  refine Or.inl ⟨⟨rfl, by simp⟩, ?_⟩
  conv => whnf
  repeat (refine ⟨rfl, ?_⟩; conv => whnf)
  refine ⟨_, _, put_any b (by omega) major n h2.2, by simp [noRoIf, noRoL, noRoV, noRoL_bys], ?_⟩
  conv => whnf
  obtain ⟨x, hx⟩ : ∃ x, x = (putS b major n).1 := ⟨_, rfl⟩
  have hxl : x.length ≤ 310 := by
    rw [hx]
    unfold putS
    split
    · simp
    · have := sizeR_le n (by omega)
      simp [putL]
      omega
  refine Does.seqCut (α := Unit) (fun _ => mkSt [(0, .ro b.length (bys b)), (3, .int .i64 at'), (9, .sl 0 0 b.length 1 false), (10, .sl 1 0 x.length 1 false)] [(0, bys b), (1, bys x)] 2 105) (fun _ => True) ?_ (fun _ _ => ?_)
  · refine wpc_sound (M := MH) (PL := PL0) (CU := noCut) TTok mixed _ _ _ ?_
    conv => whnf
    by_cases hbad : major < 0 ∨ 8 ≤ major ∨ n < 0
    · have e1 : putS b major n = ([], 1) := by simp [putS, hbad]
      rw [e1]
      have hx0 : x = [] := by rw [hx, e1]
      subst hx0
      refine ifB_dec (fun k1 => ?_) (fun k1 => ?_)
      · conv => whnf
        repeat (first | (refine ifB_t ?_; conv => whnf) | (refine ifB_f ?_; conv => whnf))
        refine ⟨(), trivial, weaker_of [(0, 0), (1, 1)] rfl rfl ?_ ?_⟩
        · exact ⟨⟨rfl, rfl, pureL_bys _⟩, ⟨rfl, rfl⟩, ⟨rfl, rfl, rfl, rfl, id⟩, ⟨rfl, rfl, rfl, rfl, id⟩, trivial⟩
        · exact ⟨lesP_bys rfl, lesP_bys rfl, trivial⟩
      conv => whnf
      repeat (first | (refine ifB_t ?_; conv => whnf) | (refine ifB_f ?_; conv => whnf))
      refine ifB_dec (fun k2 => ?_) (fun k2 => ?_)
      · conv => whnf
        repeat (first | (refine ifB_t ?_; conv => whnf) | (refine ifB_f ?_; conv => whnf))
        refine ⟨(), trivial, weaker_of [(0, 0), (1, 1)] rfl rfl ?_ ?_⟩
        · exact ⟨⟨rfl, rfl, pureL_bys _⟩, ⟨rfl, rfl⟩, ⟨rfl, rfl, rfl, rfl, id⟩, ⟨rfl, rfl, rfl, rfl, id⟩, trivial⟩
        · exact ⟨lesP_bys rfl, lesP_bys rfl, trivial⟩
      conv => whnf
      repeat (first | (refine ifB_t ?_; conv => whnf) | (refine ifB_f ?_; conv => whnf))
      refine ifB_dec (fun k3 => ?_) (fun k3 => ?_)
      · conv => whnf
        repeat (first | (refine ifB_t ?_; conv => whnf) | (refine ifB_f ?_; conv => whnf))
        refine ⟨(), trivial, weaker_of [(0, 0), (1, 1)] rfl rfl ?_ ?_⟩
        · exact ⟨⟨rfl, rfl, pureL_bys _⟩, ⟨rfl, rfl⟩, ⟨rfl, rfl, rfl, rfl, id⟩, ⟨rfl, rfl, rfl, rfl, id⟩, trivial⟩
        · exact ⟨lesP_bys rfl, lesP_bys rfl, trivial⟩
      omega
    · have e1 : putS b major n = (b ++ putL major n, 0) := by simp [putS, hbad]
      rw [e1]
      have hx0 : x = b ++ putL major n := by rw [hx, e1]
      subst hx0
      refine ifB_neg (by simp; omega) ?_
      conv => whnf
      repeat (first | (refine ifB_t ?_; conv => whnf) | (refine ifB_f ?_; conv => whnf))
      refine ifB_neg (by simp; omega) ?_
      conv => whnf
      repeat (first | (refine ifB_t ?_; conv => whnf) | (refine ifB_f ?_; conv => whnf))
      refine ifB_neg (by simp; omega) ?_
      conv => whnf
      repeat (first | (refine ifB_t ?_; conv => whnf) | (refine ifB_f ?_; conv => whnf))
      refine ⟨pureL_bys _, ?_⟩
      conv => whnf
      refine ⟨rfl, _, _, twin_ok b (by omega), rfl, ?_⟩
      conv => whnf
      repeat (first | (refine ifB_t ?_; conv => whnf) | (refine ifB_f ?_; conv => whnf))
      repeat (first | (refine ifB_t ?_; conv => whnf) | (refine ifB_f ?_; conv => whnf) | (refine ⟨rfl, ?_⟩; conv => whnf))
      refine ⟨_, _, refHead_ok major n (by omega) (by omega) (by omega), rfl, ?_⟩
      conv => whnf
      repeat (first | (refine ifB_t ?_; conv => whnf) | (refine ifB_f ?_; conv => whnf))
      have hpl : (putL major n).length ≤ 9 := by
        have := sizeR_le n (by omega)
        simp [putL]
        omega
      refine Or.inl ⟨⟨rfl, rfl, by simp⟩, ?_⟩
      conv => whnf
      refine ⟨ones_bys _, ?_⟩
      conv => whnf
      refine ⟨⟨rfl, rfl, by simp, by simp [limB]; omega⟩, ?_⟩
      conv => whnf
      repeat (first | (refine ifB_t ?_; conv => whnf) | (refine ifB_f ?_; conv => whnf))
      refine ⟨pureL_bys _, ?_⟩
      refine Or.inl ⟨⟨rfl, by simp⟩, ?_⟩
      conv => whnf
      have hap : bys b ++ bys (putL major n) = bys (b ++ putL major n) := bys_append _ _
      refine ⟨by
        show pureL (bys b ++ bys (putL major n)) = true
        rw [hap]; exact pureL_bys _, ?_⟩
      refine Or.inl ⟨⟨rfl, by simp⟩, ?_⟩
      conv => whnf
      have hc : ACall Try.prog 10 [.ro (b ++ putL major n).length (bys (b ++ putL major n)), .ro (b.length + (putL major n).length) (bys b ++ bys (putL major n))]
          (.bool (decide (b ++ putL major n = b ++ putL major n))) [] := by
        have := bytes_ok (b ++ putL major n) (b ++ putL major n) (by omega)
        rw [hap, ← List.length_append]
        exact this
      refine ⟨rfl, _, _, hc, rfl, ?_⟩
      conv => whnf
      repeat (first | (refine ifB_t ?_; conv => whnf) | (refine ifB_f ?_; conv => whnf))
      refine ifB_neg (by simp) ?_
      conv => whnf
      refine ⟨(), trivial, weaker_of [(0, 0), (1, 1)] rfl rfl ?_ ?_⟩
      · exact ⟨⟨rfl, rfl, pureL_bys _⟩, ⟨rfl, rfl⟩, ⟨rfl, rfl, rfl, rfl, id⟩, ⟨rfl, rfl, rfl, rfl, id⟩, trivial⟩
      · exact ⟨lesP_bys rfl, lesP_bys rfl, trivial⟩
  have hnr : ∀ r : Int × Int × Int × Int, noRoL [tup4 r] = true := fun r => rfl
  refine wpc_sound (M := MH) (PL := PL0) (CU := noCut) TTok mixed _ _ _ ?_
  conv => whnf
  refine ⟨⟨rfl, rfl, by simp, pureL_bys _⟩, ?_⟩
  conv => whnf
  refine ⟨rfl, _, _, spoil_ok x (by omega), rfl, ?_⟩
  conv => whnf
  refine ⟨pureL_bys _, ?_⟩
  refine Or.inl ⟨⟨rfl, by simp⟩, ?_⟩
  conv => whnf
  repeat (refine ⟨rfl, ?_⟩; conv => whnf)
  refine ⟨_, _, hget, rfl, ?_⟩
  conv => whnf
  refine ⟨pureL_bys _, ?_⟩
  conv => whnf
  repeat (refine ⟨rfl, ?_⟩; conv => whnf)
  refine ⟨_, _, href, rfl, ?_⟩
  conv => whnf
  repeat (first | (refine ifB_t ?_; conv => whnf) | (refine ifB_f ?_; conv => whnf))
  refine ifB_pos (by simp) ?_
  conv => whnf
  repeat (first | (refine ifB_t ?_; conv => whnf) | (refine ifB_f ?_; conv => whnf))
  refine ifB_pos (by simp) ?_
  conv => whnf
  repeat (first | (refine ifB_t ?_; conv => whnf) | (refine ifB_f ?_; conv => whnf))
  refine ifB_pos (by simp) ?_
  conv => whnf
  repeat (first | (refine ifB_t ?_; conv => whnf) | (refine ifB_f ?_; conv => whnf))
  refine ifB_pos (by simp) ?_
  conv => whnf
  repeat (first | (refine ifB_t ?_; conv => whnf) | (refine ifB_f ?_; conv => whnf))
  refine ⟨pureL_bys _, ?_⟩
  refine Or.inl ⟨⟨rfl, by simp⟩, ?_⟩
  conv => whnf
  refine ⟨pureL_bys _, ?_⟩
  conv => whnf
  refine ⟨rfl, _, _, hbb, rfl, ?_⟩
  conv => whnf
  repeat (first | (refine ifB_t ?_; conv => whnf) | (refine ifB_f ?_; conv => whnf))
  refine ifB_pos (by simp) ?_
  conv => whnf
  repeat (first | (refine ifB_t ?_; conv => whnf) | (refine ifB_f ?_; conv => whnf))
  refine ⟨rfl, _, _, wakes_ok, rfl, ?_⟩
  conv => whnf
  repeat (first | (refine ifB_t ?_; conv => whnf) | (refine ifB_f ?_; conv => whnf))
  exact ⟨rfl, rfl⟩

end Go.Proofs.Ytaefmhdpfmpijaa.Abs
