/- codicillaw09.HeadBack: it answers true. -/
import Derived.Test.YtaefmhdpfmpijaaHN
set_option linter.unusedVariables false
set_option linter.unusedSimpArgs false
namespace Go.Proofs.Ytaefmhdpfmpijaa.Abs
open Go
attribute [local irreducible] ifB fitP Does Weaker

theorem sizeR_range (n : Int) : (sizeR n = (0, n) ∧ n < 24) ∨ (sizeR n = (1, 24) ∧ 24 ≤ n ∧ n < 256) ∨ (sizeR n = (2, 25) ∧ 256 ≤ n ∧ n < 65536) ∨ (sizeR n = (4, 26) ∧ 65536 ≤ n ∧ n < 4294967296) ∨ (sizeR n = (8, 27) ∧ 4294967296 ≤ n) := by
  unfold sizeR
  repeat' split
  all_goals simp
  all_goals omega

theorem putL_lt (M A B : Int) (hA : 0 ≤ A) (hA2 : A < 9223372036854775808) (hB : 0 ≤ B) (hB2 : B < 9223372036854775808) : bytesLt (putL M A) (putL M B) = decide (A < B) := by
  have p1 : (256 : Int) ^ 1 = 256 := by decide
  have p2 : (256 : Int) ^ 2 = 65536 := by decide
  have p4 : (256 : Int) ^ 4 = 4294967296 := by decide
  have p8 : (256 : Int) ^ 8 = 18446744073709551616 := by decide
  unfold putL
  rcases sizeR_range A with ⟨ea, ra⟩ | ⟨ea, ra⟩ | ⟨ea, ra⟩ | ⟨ea, ra⟩ | ⟨ea, ra⟩ <;> rcases sizeR_range B with ⟨eb, rb⟩ | ⟨eb, rb⟩ | ⟨eb, rb⟩ | ⟨eb, rb⟩ | ⟨eb, rb⟩ <;> rw [ea, eb] <;>
    simp only [bytesLt] <;>
    first
    | (rw [show beAcc A 0 0 = [] from rfl, show beAcc B 0 0 = [] from rfl]
       by_cases h : A < B <;> simp [h, bytesLt])
    | (rw [beAcc_lt _ A B hA (by omega) hB (by omega)]
       by_cases h : A < B <;> simp [h])
    | (have h : A < B := by omega
       simp [h] <;> omega)
    | (have h : ¬ A < B := by omega
       simp [h] <;> omega)

theorem putL_inj (M A B : Int) (hM : 0 ≤ M) (hA : 0 ≤ A) (hA2 : A < 9223372036854775808) (hB : 0 ≤ B) (hB2 : B < 9223372036854775808) (h : putL M A = putL M B) : A = B := by
  have h1 := getR_put [] [] M A hM hA hA2
  have h2 := getR_put [] [] M B hM hB hB2
  rw [h, h2] at h1
  simp at h1
  exact h1.symm

theorem uMod (x : Int) (q : Nat) (hq : 0 < q) : ∃ r : Nat, (IntKind.u64.wrap x).tmod q = r ∧ r < q := by
  rw [wrap_u64]
  have h0 : 0 ≤ x % 18446744073709551616 := by omega
  refine ⟨((x % 18446744073709551616).tmod q).toNat, ?_, ?_⟩
  · have := Int.tmod_nonneg (q : Int) h0
    omega
  · have := Int.tmod_nonneg (q : Int) h0
    have := Int.tmod_lt_of_pos (x % 18446744073709551616) (show (0 : Int) < q by omega)
    omega

theorem headBack_ok (major a b cut : Int) (h1 : -9223372036854775808 ≤ major ∧ major < 9223372036854775808) (h2 : -9223372036854775808 ≤ a ∧ a < 9223372036854775808)
    (h3 : -9223372036854775808 ≤ b ∧ b < 9223372036854775808) (h4 : -9223372036854775808 ≤ cut ∧ cut < 9223372036854775808) :
    ACall Try.prog 4 [.int .i64 major, .int .i64 a, .int .i64 b, .int .i64 cut] (.bool true) [] := by
  obtain ⟨M, hM, hM8⟩ := uMod major 8 (by omega)
  obtain ⟨A, hA, hA2⟩ := and_max a
  obtain ⟨B, hB, hB2⟩ := and_max b
  refine ACall.of_does TTok Try.func4 rfl Try.call4 rfl (wpc_sound (M := MH) (PL := PL0) (CU := noCut) TTok mixed _ _ _ ?_)
  conv => whnf
  repeat (first | (refine ifB_t ?_; conv => whnf) | (refine ifB_f ?_; conv => whnf))
  refine fit_wrap ?_
  conv => whnf
  repeat (first | (refine ifB_t ?_; conv => whnf) | (refine ifB_f ?_; conv => whnf))
  refine ⟨by omega, ?_⟩
  conv => whnf
  repeat (first | (refine ifB_t ?_; conv => whnf) | (refine ifB_f ?_; conv => whnf))
  rw [show (IntKind.u64.wrap major).tmod 8 = (M : Int) from hM]
  refine fit_i64 ⟨by omega, by omega⟩ ?_
  conv => whnf
  repeat (first | (refine ifB_t ?_; conv => whnf) | (refine ifB_f ?_; conv => whnf))
  rw [hA, hB]
  conv => whnf
  repeat (first | (refine ifB_t ?_; conv => whnf) | (refine ifB_f ?_; conv => whnf) | (refine ifB_neg (decide_eq_false (by first | omega | rfl | (dsimp only; omega))) ?_; conv => whnf) | (refine ifB_pos (decide_eq_true (by first | omega | rfl | (dsimp only; omega))) ?_; conv => whnf) | (refine fit_i64 ⟨by first | omega | rfl | (dsimp only; omega), by first | omega | rfl | (dsimp only; omega)⟩ ?_; conv => whnf) | (refine fit_u64 ⟨by first | omega | rfl | (dsimp only; omega), by first | omega | rfl | (dsimp only; omega)⟩ ?_; conv => whnf) | (refine fit_u8 ⟨by first | omega | rfl | (dsimp only; omega), by first | omega | rfl | (dsimp only; omega)⟩ ?_; conv => whnf) | (refine ⟨pureL_bys _, ?_⟩; conv => whnf) | (refine Or.inl ⟨⟨rfl, ?_⟩, ?_⟩; (focus (first | rfl | (simp; done))); conv => whnf) | (refine ⟨rfl, ?_⟩; conv => whnf) | (refine ⟨by first | omega | rfl | (dsimp only; omega), ?_⟩; conv => whnf) | (refine ⟨⟨rfl, ?_⟩, ?_⟩; (focus (first | (simp only [okB]; omega) | (simp [okB]; omega))); conv => whnf))
  have hpa := put_ok [7] (by simp) M A (by omega) (by omega) (by omega) (by omega)
  have hpb := put_ok [7] (by simp) M B (by omega) (by omega) (by omega) (by omega)
  have sa := sizeR_le A (by omega)
  have sb := sizeR_le B (by omega)
  have lx : ([7] ++ putL M A).length = 2 + (sizeR A).1 := by simp [putL_length]; omega
  have ly : ([7] ++ putL M B).length = 2 + (sizeR B).1 := by simp [putL_length]; omega
  have hg := getR_put [7] [] M A (by omega) (by omega) (by omega)
  rw [List.append_nil] at hg
  have bl : ∀ n : Nat, Byt ([7] ++ putL M n) := by
    intro n x hx
    have sn := sizeR_le n (by omega)
    simp only [putL, List.cons_append, List.nil_append, List.mem_cons] at hx
    rcases hx with rfl | rfl | hx
    · omega
    · omega
    · exact byt_beAcc _ _ _ x hx
  have bx := bl A
  have hbb := bytes_ok ([7] ++ putL M A) ([7] ++ putL M B) (by omega)
  have hgx := get_ok ([7] ++ putL M A) bx (by omega) 1
  rw [show getR ([7] ++ putL M A) 1 = _ from hg] at hgx
  refine ⟨_, _, hpa, by first | rfl | simp [noRoIf, noRoL, noRoV, noRoL_bys], ?_⟩
  conv => whnf
  repeat (first | (refine ifB_t ?_; conv => whnf) | (refine ifB_f ?_; conv => whnf) | (refine ifB_neg (decide_eq_false (by first | omega | rfl | (dsimp only; omega))) ?_; conv => whnf) | (refine ifB_pos (decide_eq_true (by first | omega | rfl | (dsimp only; omega))) ?_; conv => whnf) | (refine fit_i64 ⟨by first | omega | rfl | (dsimp only; omega), by first | omega | rfl | (dsimp only; omega)⟩ ?_; conv => whnf) | (refine fit_u64 ⟨by first | omega | rfl | (dsimp only; omega), by first | omega | rfl | (dsimp only; omega)⟩ ?_; conv => whnf) | (refine fit_u8 ⟨by first | omega | rfl | (dsimp only; omega), by first | omega | rfl | (dsimp only; omega)⟩ ?_; conv => whnf) | (refine ⟨pureL_bys _, ?_⟩; conv => whnf) | (refine Or.inl ⟨⟨rfl, ?_⟩, ?_⟩; (focus (first | rfl | (simp; done))); conv => whnf) | (refine ⟨rfl, ?_⟩; conv => whnf) | (refine ⟨by first | omega | rfl | (dsimp only; omega), ?_⟩; conv => whnf) | (refine ⟨⟨rfl, ?_⟩, ?_⟩; (focus (first | (simp only [okB]; omega) | (simp [okB]; omega))); conv => whnf))
  refine ⟨_, _, hpb, by first | rfl | simp [noRoIf, noRoL, noRoV, noRoL_bys], ?_⟩
  conv => whnf
  repeat (first | (refine ifB_t ?_; conv => whnf) | (refine ifB_f ?_; conv => whnf) | (refine ifB_neg (decide_eq_false (by first | omega | rfl | (dsimp only; omega))) ?_; conv => whnf) | (refine ifB_pos (decide_eq_true (by first | omega | rfl | (dsimp only; omega))) ?_; conv => whnf) | (refine fit_i64 ⟨by first | omega | rfl | (dsimp only; omega), by first | omega | rfl | (dsimp only; omega)⟩ ?_; conv => whnf) | (refine fit_u64 ⟨by first | omega | rfl | (dsimp only; omega), by first | omega | rfl | (dsimp only; omega)⟩ ?_; conv => whnf) | (refine fit_u8 ⟨by first | omega | rfl | (dsimp only; omega), by first | omega | rfl | (dsimp only; omega)⟩ ?_; conv => whnf) | (refine ⟨pureL_bys _, ?_⟩; conv => whnf) | (refine Or.inl ⟨⟨rfl, ?_⟩, ?_⟩; (focus (first | rfl | (simp; done))); conv => whnf) | (refine ⟨rfl, ?_⟩; conv => whnf) | (refine ⟨by first | omega | rfl | (dsimp only; omega), ?_⟩; conv => whnf) | (refine ⟨⟨rfl, ?_⟩, ?_⟩; (focus (first | (simp only [okB]; omega) | (simp [okB]; omega))); conv => whnf))
  refine ⟨_, _, hgx, by first | rfl | simp [noRoIf, noRoL, noRoV, noRoL_bys], ?_⟩
  conv => whnf
  repeat (first | (refine ifB_t ?_; conv => whnf) | (refine ifB_f ?_; conv => whnf) | (refine ifB_neg (decide_eq_false (by first | omega | rfl | (dsimp only; omega))) ?_; conv => whnf) | (refine ifB_pos (decide_eq_true (by first | omega | rfl | (dsimp only; omega))) ?_; conv => whnf) | (refine fit_i64 ⟨by first | omega | rfl | (dsimp only; omega), by first | omega | rfl | (dsimp only; omega)⟩ ?_; conv => whnf) | (refine fit_u64 ⟨by first | omega | rfl | (dsimp only; omega), by first | omega | rfl | (dsimp only; omega)⟩ ?_; conv => whnf) | (refine fit_u8 ⟨by first | omega | rfl | (dsimp only; omega), by first | omega | rfl | (dsimp only; omega)⟩ ?_; conv => whnf) | (refine ⟨pureL_bys _, ?_⟩; conv => whnf) | (refine Or.inl ⟨⟨rfl, ?_⟩, ?_⟩; (focus (first | rfl | (simp; done))); conv => whnf) | (refine ⟨rfl, ?_⟩; conv => whnf) | (refine ⟨by first | omega | rfl | (dsimp only; omega), ?_⟩; conv => whnf) | (refine ⟨⟨rfl, ?_⟩, ?_⟩; (focus (first | (simp only [okB]; omega) | (simp [okB]; omega))); conv => whnf))
  refine fit_wrap ?_
  conv => whnf
  repeat (first | (refine ifB_t ?_; conv => whnf) | (refine ifB_f ?_; conv => whnf) | (refine ifB_neg (decide_eq_false (by first | omega | rfl | (dsimp only; omega))) ?_; conv => whnf) | (refine ifB_pos (decide_eq_true (by first | omega | rfl | (dsimp only; omega))) ?_; conv => whnf) | (refine fit_i64 ⟨by first | omega | rfl | (dsimp only; omega), by first | omega | rfl | (dsimp only; omega)⟩ ?_; conv => whnf) | (refine fit_u64 ⟨by first | omega | rfl | (dsimp only; omega), by first | omega | rfl | (dsimp only; omega)⟩ ?_; conv => whnf) | (refine fit_u8 ⟨by first | omega | rfl | (dsimp only; omega), by first | omega | rfl | (dsimp only; omega)⟩ ?_; conv => whnf) | (refine ⟨pureL_bys _, ?_⟩; conv => whnf) | (refine Or.inl ⟨⟨rfl, ?_⟩, ?_⟩; (focus (first | rfl | (simp; done))); conv => whnf) | (refine ⟨rfl, ?_⟩; conv => whnf) | (refine ⟨by first | omega | rfl | (dsimp only; omega), ?_⟩; conv => whnf) | (refine ⟨⟨rfl, ?_⟩, ?_⟩; (focus (first | (simp only [okB]; omega) | (simp [okB]; omega))); conv => whnf))
  obtain ⟨r, hr, hr2⟩ := uMod cut (1 + (sizeR A).1) (by omega)
  have er : (IntKind.u64.wrap cut).tmod (((([7] : List Int) ++ putL (M : Int) (A : Int)).length : Int) - 1) = (r : Int) := by rw [lx, ← hr]; congr 1; omega
  rw [er]
  conv => whnf
  repeat (first | (refine ifB_t ?_; conv => whnf) | (refine ifB_f ?_; conv => whnf) | (refine ifB_neg (decide_eq_false (by first | omega | rfl | (dsimp only; omega))) ?_; conv => whnf) | (refine ifB_pos (decide_eq_true (by first | omega | rfl | (dsimp only; omega))) ?_; conv => whnf) | (refine fit_i64 ⟨by first | omega | rfl | (dsimp only; omega), by first | omega | rfl | (dsimp only; omega)⟩ ?_; conv => whnf) | (refine fit_u64 ⟨by first | omega | rfl | (dsimp only; omega), by first | omega | rfl | (dsimp only; omega)⟩ ?_; conv => whnf) | (refine fit_u8 ⟨by first | omega | rfl | (dsimp only; omega), by first | omega | rfl | (dsimp only; omega)⟩ ?_; conv => whnf) | (refine ⟨pureL_bys _, ?_⟩; conv => whnf) | (refine Or.inl ⟨⟨rfl, ?_⟩, ?_⟩; (focus (first | rfl | (simp; done))); conv => whnf) | (refine ⟨rfl, ?_⟩; conv => whnf) | (refine ⟨by first | omega | rfl | (dsimp only; omega), ?_⟩; conv => whnf) | (refine ⟨⟨rfl, ?_⟩, ?_⟩; (focus (first | (simp only [okB]; omega) | (simp [okB]; omega))); conv => whnf))
  have hcut := getR_cut [7] M A (by omega) (by omega) (by omega) (1 + r) (by simp) (by rw [lx]; omega)
  have hgc : ACall Try.prog 13 [.ro (lenB none (some (1 + (r : Int))) (([7] : List Int) ++ putL (M : Int) (A : Int)).length)
      (((bys (([7] : List Int) ++ putL (M : Int) (A : Int))).drop 0).take (lenB none (some (1 + (r : Int))) (([7] : List Int) ++ putL (M : Int) (A : Int)).length * 1)), .int .i64 1] (tup4 (0, 0, 0, 3)) [] := by
    have e1 : lenB none (some (1 + (r : Int))) (([7] : List Int) ++ putL (M : Int) (A : Int)).length = ((([7] : List Int) ++ putL (M : Int) (A : Int)).take (1 + r)).length := by
      rw [List.length_take, lx]
      simp [lenB]
      omega
    have e2 : (((bys (([7] : List Int) ++ putL (M : Int) (A : Int))).drop 0).take (lenB none (some (1 + (r : Int))) (([7] : List Int) ++ putL (M : Int) (A : Int)).length * 1)) = bys ((([7] : List Int) ++ putL (M : Int) (A : Int)).take (1 + r)) := by
      rw [e1, List.drop_zero, bys_take, List.length_take, lx, Nat.mul_one, Nat.min_eq_left (by omega)]
    rw [e2, e1, show ((0 : Int), (0 : Int), (0 : Int), (3 : Int)) = _ from hcut.symm]
    exact get_ok _ (fun x hx => bx x (List.mem_of_mem_take hx)) (by rw [List.length_take]; omega) _
  refine Or.inr ?_
  conv => whnf
  repeat (first | (refine ifB_t ?_; conv => whnf) | (refine ifB_f ?_; conv => whnf) | (refine ifB_neg (decide_eq_false (by first | omega | rfl | (dsimp only; omega))) ?_; conv => whnf) | (refine ifB_pos (decide_eq_true (by first | omega | rfl | (dsimp only; omega))) ?_; conv => whnf) | (refine fit_i64 ⟨by first | omega | rfl | (dsimp only; omega), by first | omega | rfl | (dsimp only; omega)⟩ ?_; conv => whnf) | (refine fit_u64 ⟨by first | omega | rfl | (dsimp only; omega), by first | omega | rfl | (dsimp only; omega)⟩ ?_; conv => whnf) | (refine fit_u8 ⟨by first | omega | rfl | (dsimp only; omega), by first | omega | rfl | (dsimp only; omega)⟩ ?_; conv => whnf) | (refine ⟨pureL_bys _, ?_⟩; conv => whnf) | (refine Or.inl ⟨⟨rfl, ?_⟩, ?_⟩; (focus (first | rfl | (simp; done))); conv => whnf) | (refine ⟨rfl, ?_⟩; conv => whnf) | (refine ⟨by first | omega | rfl | (dsimp only; omega), ?_⟩; conv => whnf) | (refine ⟨⟨rfl, ?_⟩, ?_⟩; (focus (first | (simp only [okB]; omega) | (simp [okB]; omega))); conv => whnf))
  refine ⟨_, _, hgc, by first | rfl | simp [noRoIf, noRoL, noRoV, noRoL_bys], ?_⟩
  conv => whnf
  repeat (first | (refine ifB_t ?_; conv => whnf) | (refine ifB_f ?_; conv => whnf) | (refine ifB_neg (decide_eq_false (by first | omega | rfl | (dsimp only; omega))) ?_; conv => whnf) | (refine ifB_pos (decide_eq_true (by first | omega | rfl | (dsimp only; omega))) ?_; conv => whnf) | (refine fit_i64 ⟨by first | omega | rfl | (dsimp only; omega), by first | omega | rfl | (dsimp only; omega)⟩ ?_; conv => whnf) | (refine fit_u64 ⟨by first | omega | rfl | (dsimp only; omega), by first | omega | rfl | (dsimp only; omega)⟩ ?_; conv => whnf) | (refine fit_u8 ⟨by first | omega | rfl | (dsimp only; omega), by first | omega | rfl | (dsimp only; omega)⟩ ?_; conv => whnf) | (refine ⟨pureL_bys _, ?_⟩; conv => whnf) | (refine Or.inl ⟨⟨rfl, ?_⟩, ?_⟩; (focus (first | rfl | (simp; done))); conv => whnf) | (refine ⟨rfl, ?_⟩; conv => whnf) | (refine ⟨by first | omega | rfl | (dsimp only; omega), ?_⟩; conv => whnf) | (refine ⟨⟨rfl, ?_⟩, ?_⟩; (focus (first | (simp only [okB]; omega) | (simp [okB]; omega))); conv => whnf))
  refine ⟨[7] ++ putL M A, ⟨rfl, bx⟩, ?_⟩
  conv => whnf
  repeat (first | (refine ifB_t ?_; conv => whnf) | (refine ifB_f ?_; conv => whnf) | (refine ifB_neg (decide_eq_false (by first | omega | rfl | (dsimp only; omega))) ?_; conv => whnf) | (refine ifB_pos (decide_eq_true (by first | omega | rfl | (dsimp only; omega))) ?_; conv => whnf) | (refine fit_i64 ⟨by first | omega | rfl | (dsimp only; omega), by first | omega | rfl | (dsimp only; omega)⟩ ?_; conv => whnf) | (refine fit_u64 ⟨by first | omega | rfl | (dsimp only; omega), by first | omega | rfl | (dsimp only; omega)⟩ ?_; conv => whnf) | (refine fit_u8 ⟨by first | omega | rfl | (dsimp only; omega), by first | omega | rfl | (dsimp only; omega)⟩ ?_; conv => whnf) | (refine ⟨pureL_bys _, ?_⟩; conv => whnf) | (refine Or.inl ⟨⟨rfl, ?_⟩, ?_⟩; (focus (first | rfl | (simp; done))); conv => whnf) | (refine ⟨rfl, ?_⟩; conv => whnf) | (refine ⟨by first | omega | rfl | (dsimp only; omega), ?_⟩; conv => whnf) | (refine ⟨⟨rfl, ?_⟩, ?_⟩; (focus (first | (simp only [okB]; omega) | (simp [okB]; omega))); conv => whnf))
  refine ⟨[7] ++ putL M B, ⟨rfl, bl B⟩, ?_⟩
  conv => whnf
  repeat (first | (refine ifB_t ?_; conv => whnf) | (refine ifB_f ?_; conv => whnf) | (refine ifB_neg (decide_eq_false (by first | omega | rfl | (dsimp only; omega))) ?_; conv => whnf) | (refine ifB_pos (decide_eq_true (by first | omega | rfl | (dsimp only; omega))) ?_; conv => whnf) | (refine fit_i64 ⟨by first | omega | rfl | (dsimp only; omega), by first | omega | rfl | (dsimp only; omega)⟩ ?_; conv => whnf) | (refine fit_u64 ⟨by first | omega | rfl | (dsimp only; omega), by first | omega | rfl | (dsimp only; omega)⟩ ?_; conv => whnf) | (refine fit_u8 ⟨by first | omega | rfl | (dsimp only; omega), by first | omega | rfl | (dsimp only; omega)⟩ ?_; conv => whnf) | (refine ⟨pureL_bys _, ?_⟩; conv => whnf) | (refine Or.inl ⟨⟨rfl, ?_⟩, ?_⟩; (focus (first | rfl | (simp; done))); conv => whnf) | (refine ⟨rfl, ?_⟩; conv => whnf) | (refine ⟨by first | omega | rfl | (dsimp only; omega), ?_⟩; conv => whnf) | (refine ⟨⟨rfl, ?_⟩, ?_⟩; (focus (first | (simp only [okB]; omega) | (simp [okB]; omega))); conv => whnf))
  have hlt : bytesLt ([7] ++ putL (M : Int) (A : Int)) ([7] ++ putL (M : Int) (B : Int)) = decide ((A : Int) < B) := by
    rw [← putL_lt M A B (by omega) (by omega) (by omega) (by omega)]
    simp [bytesLt]
  refine ifB_pos (by rw [hlt]; simp) ?_
  conv => whnf
  repeat (first | (refine ifB_t ?_; conv => whnf) | (refine ifB_f ?_; conv => whnf) | (refine ifB_neg (decide_eq_false (by first | omega | rfl | (dsimp only; omega))) ?_; conv => whnf) | (refine ifB_pos (decide_eq_true (by first | omega | rfl | (dsimp only; omega))) ?_; conv => whnf) | (refine fit_i64 ⟨by first | omega | rfl | (dsimp only; omega), by first | omega | rfl | (dsimp only; omega)⟩ ?_; conv => whnf) | (refine fit_u64 ⟨by first | omega | rfl | (dsimp only; omega), by first | omega | rfl | (dsimp only; omega)⟩ ?_; conv => whnf) | (refine fit_u8 ⟨by first | omega | rfl | (dsimp only; omega), by first | omega | rfl | (dsimp only; omega)⟩ ?_; conv => whnf) | (refine ⟨pureL_bys _, ?_⟩; conv => whnf) | (refine Or.inl ⟨⟨rfl, ?_⟩, ?_⟩; (focus (first | rfl | (simp; done))); conv => whnf) | (refine ⟨rfl, ?_⟩; conv => whnf) | (refine ⟨by first | omega | rfl | (dsimp only; omega), ?_⟩; conv => whnf) | (refine ⟨⟨rfl, ?_⟩, ?_⟩; (focus (first | (simp only [okB]; omega) | (simp [okB]; omega))); conv => whnf))
  refine ⟨_, _, hbb, by first | rfl | simp [noRoIf, noRoL, noRoV, noRoL_bys], ?_⟩
  conv => whnf
  repeat (first | (refine ifB_t ?_; conv => whnf) | (refine ifB_f ?_; conv => whnf) | (refine ifB_neg (decide_eq_false (by first | omega | rfl | (dsimp only; omega))) ?_; conv => whnf) | (refine ifB_pos (decide_eq_true (by first | omega | rfl | (dsimp only; omega))) ?_; conv => whnf) | (refine fit_i64 ⟨by first | omega | rfl | (dsimp only; omega), by first | omega | rfl | (dsimp only; omega)⟩ ?_; conv => whnf) | (refine fit_u64 ⟨by first | omega | rfl | (dsimp only; omega), by first | omega | rfl | (dsimp only; omega)⟩ ?_; conv => whnf) | (refine fit_u8 ⟨by first | omega | rfl | (dsimp only; omega), by first | omega | rfl | (dsimp only; omega)⟩ ?_; conv => whnf) | (refine ⟨pureL_bys _, ?_⟩; conv => whnf) | (refine Or.inl ⟨⟨rfl, ?_⟩, ?_⟩; (focus (first | rfl | (simp; done))); conv => whnf) | (refine ⟨rfl, ?_⟩; conv => whnf) | (refine ⟨by first | omega | rfl | (dsimp only; omega), ?_⟩; conv => whnf) | (refine ⟨⟨rfl, ?_⟩, ?_⟩; (focus (first | (simp only [okB]; omega) | (simp [okB]; omega))); conv => whnf))
  have heq : decide (([7] : List Int) ++ putL (M : Int) (A : Int) = [7] ++ putL (M : Int) (B : Int)) = decide ((A : Int) = B) := by
    by_cases h : (A : Int) = B
    · rw [h]
      simp
    · have : ¬ ([7] : List Int) ++ putL (M : Int) (A : Int) = [7] ++ putL (M : Int) (B : Int) := fun e => h (putL_inj M A B (by omega) (by omega) (by omega) (by omega) (by omega) (by simpa using e))
      rw [decide_eq_false h, decide_eq_false this]
  refine ifB_pos (by rw [heq]; simp) ?_
  conv => whnf
  repeat (first | (refine ifB_t ?_; conv => whnf) | (refine ifB_f ?_; conv => whnf) | (refine ifB_neg (decide_eq_false (by first | omega | rfl | (dsimp only; omega))) ?_; conv => whnf) | (refine ifB_pos (decide_eq_true (by first | omega | rfl | (dsimp only; omega))) ?_; conv => whnf) | (refine fit_i64 ⟨by first | omega | rfl | (dsimp only; omega), by first | omega | rfl | (dsimp only; omega)⟩ ?_; conv => whnf) | (refine fit_u64 ⟨by first | omega | rfl | (dsimp only; omega), by first | omega | rfl | (dsimp only; omega)⟩ ?_; conv => whnf) | (refine fit_u8 ⟨by first | omega | rfl | (dsimp only; omega), by first | omega | rfl | (dsimp only; omega)⟩ ?_; conv => whnf) | (refine ⟨pureL_bys _, ?_⟩; conv => whnf) | (refine Or.inl ⟨⟨rfl, ?_⟩, ?_⟩; (focus (first | rfl | (simp; done))); conv => whnf) | (refine ⟨rfl, ?_⟩; conv => whnf) | (refine ⟨by first | omega | rfl | (dsimp only; omega), ?_⟩; conv => whnf) | (refine ⟨⟨rfl, ?_⟩, ?_⟩; (focus (first | (simp only [okB]; omega) | (simp [okB]; omega))); conv => whnf))
  refine ⟨_, _, wakes_ok, by first | rfl | simp [noRoIf, noRoL, noRoV, noRoL_bys], ?_⟩
  conv => whnf
  repeat (first | (refine ifB_t ?_; conv => whnf) | (refine ifB_f ?_; conv => whnf) | (refine ifB_neg (decide_eq_false (by first | omega | rfl | (dsimp only; omega))) ?_; conv => whnf) | (refine ifB_pos (decide_eq_true (by first | omega | rfl | (dsimp only; omega))) ?_; conv => whnf) | (refine fit_i64 ⟨by first | omega | rfl | (dsimp only; omega), by first | omega | rfl | (dsimp only; omega)⟩ ?_; conv => whnf) | (refine fit_u64 ⟨by first | omega | rfl | (dsimp only; omega), by first | omega | rfl | (dsimp only; omega)⟩ ?_; conv => whnf) | (refine fit_u8 ⟨by first | omega | rfl | (dsimp only; omega), by first | omega | rfl | (dsimp only; omega)⟩ ?_; conv => whnf) | (refine ⟨pureL_bys _, ?_⟩; conv => whnf) | (refine Or.inl ⟨⟨rfl, ?_⟩, ?_⟩; (focus (first | rfl | (simp; done))); conv => whnf) | (refine ⟨rfl, ?_⟩; conv => whnf) | (refine ⟨by first | omega | rfl | (dsimp only; omega), ?_⟩; conv => whnf) | (refine ⟨⟨rfl, ?_⟩, ?_⟩; (focus (first | (simp only [okB]; omega) | (simp [okB]; omega))); conv => whnf))
  rfl

end Go.Proofs.Ytaefmhdpfmpijaa.Abs
