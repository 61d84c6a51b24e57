/- Texts CB to CP, merged. -/
import Derived.Test.YtelnlfhdaelfdaaDoorK2
section
set_option linter.unusedVariables false
set_option linter.unusedSimpArgs false
namespace Go.Proofs.YtelnlfhdaelfdaaDoor.Abs
open Go
attribute [local irreducible] ifB fitP Does Weaker
def wrM : Mode := .rf [.bw, .rd, .mv 1, .rd]
def paM : Mode := .rf [.bw, .rd, .mv 3, .rd]
def MC : FuncId → List Mode := modes [(133, [.rd]), (90, [.bw]), (130, [.rd, .rd]), (50, [.rd, .rd, .rd]), (36, [.bw]),
  (131, [.bw, .rd, .rd]), (123, [.rd, .rd]), (34, [.bw, .bw]), (128, [.bw, .rd]), (124, [.bw, .rd]),
  (125, [wrM, .rd, .rd]), (111, [wrM, .rd, .rd]), (112, [wrM, .rd]), (113, [wrM, .rd, .rd]), (92, [wrM, .rd]),
  (116, [.bw]), (127, [.bw]), (132, [.bw]), (121, [.bw]), (94, [.bw, .bw]), (115, [.cmp]), (118, [.bw, .bw]),
  (129, [.rf [.bw, .rd, .hd, .rd], .rd]), (117, [paM, .rd]), (58, [.bw]), (99, [.bw]), (999999, [.bw]),
  (106, [.bw, .rd, .rd]), (79, [.bw]), (107, [.bw, .rd, .mv 3, .rd]), (80, [.bw]), (110, [.bw]),
  (999999, [.bw, .bw]), (999999, [.bw]), (999999, [.bw])]
theorem whead_ok (len : Nat) (L : List AV) (hL : pureL L = true) (w : W) (hb : w.out.length ≤ 1048576) (major n : Int) (h3 : n < 9223372036854775808) :
    ACall Tryd.prog 125 [.ref (wC len L w), .int .i64 major, .int .i64 n] (.tuple []) [.ref (wC len L (wHead major n w))] := by
  obtain ⟨at', out, bad⟩ := w
  refine ACall.of_does TTok Tryd.func125 rfl Tryd.call125 rfl (wpc_sound (M := MC) (PL := PL0) (CU := noCut) TTok mixed _ _ _ ?_)
  conv => whnf
  repeat (first | (refine ifB_t ?_; conv => whnf) | (refine ifB_f ?_; conv => whnf) | (refine ifB_neg (decide_eq_false (by first | omega | rfl | (dsimp only; omega))) ?_; conv => whnf) | (refine ifB_pos (decide_eq_true (by first | omega | rfl | (dsimp only; omega))) ?_; conv => whnf) | (refine fit_i64 ⟨by first | omega | rfl | (dsimp only; omega), by first | omega | rfl | (dsimp only; omega)⟩ ?_; conv => whnf) | (refine fit_u64 ⟨by first | omega | rfl | (dsimp only; omega), by first | omega | rfl | (dsimp only; omega)⟩ ?_; conv => whnf) | (refine fit_u8 ⟨by first | omega | rfl | (dsimp only; omega), by first | omega | rfl | (dsimp only; omega)⟩ ?_; conv => whnf) | (refine ⟨pureL_bys _, ?_⟩; conv => whnf) | (refine ⟨ones_bys _, ?_⟩; conv => whnf) | (refine ⟨pureL_cutB _ _ _ _, ?_⟩; conv => whnf) | (refine Or.inl ⟨⟨rfl, ?_⟩, ?_⟩; (focus (first | rfl | (simp; done) | (rw [toksC_length]; omega))); conv => whnf) | (refine ⟨rfl, ?_⟩; conv => whnf) | (refine ⟨_, rfl, ?_⟩; conv => whnf) | (refine ⟨⟨rfl, rfl⟩, ?_⟩; conv => whnf) | (refine ⟨⟨rfl, rfl, rfl, ?_, pureL_bys _⟩, ?_⟩; (focus (simp; done)); conv => whnf) | (refine ⟨⟨rfl, rfl, ?_, pureL_bys _⟩, ?_⟩; (focus (simp; done)); conv => whnf) | (refine ⟨⟨rfl, rfl, rfl, ?_, pureL_toks _⟩, ?_⟩; (focus (rw [toksC_length]; omega)); conv => whnf) | (refine ⟨⟨rfl, rfl, ?_, pureL_toks _⟩, ?_⟩; (focus (rw [toksC_length]; omega)); conv => whnf) | (refine ⟨⟨rfl, rfl, ?_⟩, ?_⟩; (focus (first | assumption | exact pureL_bys _ | exact pureL_toks _)); conv => whnf) | (refine ⟨⟨rfl, rfl, ?_⟩, ?_⟩; (focus (first | exact Nat.le_of_ble_eq_true rfl | (simp; done))); conv => whnf) | (refine And.intro (by first | omega | rfl | (dsimp only; omega)) ?_; conv => whnf) | (refine ⟨⟨rfl, ?_⟩, ?_⟩; (focus (first | (simp only [okB]; omega) | (simp [okB]; omega))); conv => whnf) | (refine ⟨⟨?_, ?_, ?_⟩, ?_⟩; (focus omega); (focus (first | omega | (simp; done) | (simp; omega))); (focus (first | (simp; done) | (simp; omega) | (rw [toksC_length]; simp; omega))); conv => whnf) | (refine ⟨roLoad_ok rfl ?_, ?_⟩; (focus (simp [toksC_length]; omega)); conv => whnf) | (refine ⟨⟨?_, ?_⟩, ?_⟩; (focus (simp; done)); (focus (first | (simp only [okB]; omega) | (simp [okB]; omega))); conv => whnf) | (refine And.intro ?_ ?_; (focus (first | (simp only [pureL, pureV, pureL_bys, Bool.and_true, Bool.and_self]; done) | (simp only [pureL, pureV, pureL_bys, pureL_toks, Bool.and_true, Bool.and_self]; done))); conv => whnf) | (refine ⟨⟨rfl, rfl, ?_, ?_⟩, ?_⟩; (focus (first | (simp [lenB, offB]; done) | (simp [lenB, offB]; omega))); (focus (first | (simp [limB, lenB, offB]; done) | (simp [limB, lenB, offB]; omega))); conv => whnf) | (refine ⟨⟨rfl, ?_, ?_, ?_⟩, ?_⟩; (focus (first | (simp; done) | (simp; omega))); (focus (first | exact Or.inl rfl | exact Or.inr (by omega))); (focus (first | (simp [limB, lenB, offB]; done) | (simp [limB, lenB, offB]; omega))); conv => whnf) | (refine And.intro ?_ ?_; (focus (first | (simp [limB, lenB, offB]; done) | (simp [limB, lenB, offB]; omega))); conv => whnf) | (refine ⟨ones_toks _, ?_⟩; conv => whnf) | (refine And.intro ?_ ?_; (focus (simp [pureL, pureV, pureL_bys, pureL_toks, pureL_app]; done)); conv => whnf) | (refine fit_i64 ⟨by first | (simp; done) | (simp; omega), by first | (simp; done) | (simp; omega)⟩ ?_; conv => whnf) | (refine ifB_neg (decide_eq_false (by first | (simp; done) | (simp; omega))) ?_; conv => whnf) | (refine ifB_pos (decide_eq_true (by first | (simp; done) | (simp; omega))) ?_; conv => whnf) | (refine Or.inl ⟨⟨rfl, ?_⟩, ?_⟩; (focus (first | (simp [toksC_length]; done) | (simp [toksC_length]; omega))); conv => whnf) | (refine ⟨⟨rfl, rfl, ?_, ?_⟩, ?_⟩; (focus (first | (simp [toksC_length]; done) | (simp [toksC_length]; omega))); (focus (first | (simp [limB, lenB, offB]; done) | (simp [limB, lenB, offB]; omega))); conv => whnf) | (refine ⟨⟨rfl, ?_, ?_, ?_⟩, ?_⟩; (focus (first | (simp [toksC_length]; done) | (simp [toksC_length]; omega))); (focus (first | exact Or.inl rfl | exact Or.inr (by omega))); (focus (first | (simp [limB, lenB, offB]; done) | (simp [limB, lenB, offB]; omega))); conv => whnf) | (refine And.intro ?_ ?_; (focus (first | (simp [toksC_length]; done) | (simp [toksC_length]; omega))); conv => whnf) | (refine ⟨pureL_take (pureL_drop (pureL_bys _) _) _, ?_⟩; conv => whnf) | (refine ⟨pureL_take (pureL_drop (pureL_toks _) _) _, ?_⟩; conv => whnf) | (refine ⟨pureL_ints _, ?_⟩; conv => whnf) | (refine ⟨ones_ints _, ?_⟩; conv => whnf) | (refine ⟨ones_part (ones_ints _) _ _, ?_⟩; conv => whnf) | (refine ⟨ones_part (ones_toks _) _ _, ?_⟩; conv => whnf) | (refine ⟨ones_part (ones_bys _) _ _, ?_⟩; conv => whnf))
  refine ⟨_, _, put_any out hb major n h3, by first | rfl | simp [noRoIf, noRoL, noRoV, noRoL_bys], ?_⟩
  conv => whnf
  repeat (first | (refine ifB_t ?_; conv => whnf) | (refine ifB_f ?_; conv => whnf) | (refine ifB_neg (decide_eq_false (by first | omega | rfl | (dsimp only; omega))) ?_; conv => whnf) | (refine ifB_pos (decide_eq_true (by first | omega | rfl | (dsimp only; omega))) ?_; conv => whnf) | (refine fit_i64 ⟨by first | omega | rfl | (dsimp only; omega), by first | omega | rfl | (dsimp only; omega)⟩ ?_; conv => whnf) | (refine fit_u64 ⟨by first | omega | rfl | (dsimp only; omega), by first | omega | rfl | (dsimp only; omega)⟩ ?_; conv => whnf) | (refine fit_u8 ⟨by first | omega | rfl | (dsimp only; omega), by first | omega | rfl | (dsimp only; omega)⟩ ?_; conv => whnf) | (refine ⟨pureL_bys _, ?_⟩; conv => whnf) | (refine ⟨ones_bys _, ?_⟩; conv => whnf) | (refine ⟨pureL_cutB _ _ _ _, ?_⟩; conv => whnf) | (refine Or.inl ⟨⟨rfl, ?_⟩, ?_⟩; (focus (first | rfl | (simp; done) | (rw [toksC_length]; omega))); conv => whnf) | (refine ⟨rfl, ?_⟩; conv => whnf) | (refine ⟨_, rfl, ?_⟩; conv => whnf) | (refine ⟨⟨rfl, rfl⟩, ?_⟩; conv => whnf) | (refine ⟨⟨rfl, rfl, rfl, ?_, pureL_bys _⟩, ?_⟩; (focus (simp; done)); conv => whnf) | (refine ⟨⟨rfl, rfl, ?_, pureL_bys _⟩, ?_⟩; (focus (simp; done)); conv => whnf) | (refine ⟨⟨rfl, rfl, rfl, ?_, pureL_toks _⟩, ?_⟩; (focus (rw [toksC_length]; omega)); conv => whnf) | (refine ⟨⟨rfl, rfl, ?_, pureL_toks _⟩, ?_⟩; (focus (rw [toksC_length]; omega)); conv => whnf) | (refine ⟨⟨rfl, rfl, ?_⟩, ?_⟩; (focus (first | assumption | exact pureL_bys _ | exact pureL_toks _)); conv => whnf) | (refine ⟨⟨rfl, rfl, ?_⟩, ?_⟩; (focus (first | exact Nat.le_of_ble_eq_true rfl | (simp; done))); conv => whnf) | (refine And.intro (by first | omega | rfl | (dsimp only; omega)) ?_; conv => whnf) | (refine ⟨⟨rfl, ?_⟩, ?_⟩; (focus (first | (simp only [okB]; omega) | (simp [okB]; omega))); conv => whnf) | (refine ⟨⟨?_, ?_, ?_⟩, ?_⟩; (focus omega); (focus (first | omega | (simp; done) | (simp; omega))); (focus (first | (simp; done) | (simp; omega) | (rw [toksC_length]; simp; omega))); conv => whnf) | (refine ⟨roLoad_ok rfl ?_, ?_⟩; (focus (simp [toksC_length]; omega)); conv => whnf) | (refine ⟨⟨?_, ?_⟩, ?_⟩; (focus (simp; done)); (focus (first | (simp only [okB]; omega) | (simp [okB]; omega))); conv => whnf) | (refine And.intro ?_ ?_; (focus (first | (simp only [pureL, pureV, pureL_bys, Bool.and_true, Bool.and_self]; done) | (simp only [pureL, pureV, pureL_bys, pureL_toks, Bool.and_true, Bool.and_self]; done))); conv => whnf) | (refine ⟨⟨rfl, rfl, ?_, ?_⟩, ?_⟩; (focus (first | (simp [lenB, offB]; done) | (simp [lenB, offB]; omega))); (focus (first | (simp [limB, lenB, offB]; done) | (simp [limB, lenB, offB]; omega))); conv => whnf) | (refine ⟨⟨rfl, ?_, ?_, ?_⟩, ?_⟩; (focus (first | (simp; done) | (simp; omega))); (focus (first | exact Or.inl rfl | exact Or.inr (by omega))); (focus (first | (simp [limB, lenB, offB]; done) | (simp [limB, lenB, offB]; omega))); conv => whnf) | (refine And.intro ?_ ?_; (focus (first | (simp [limB, lenB, offB]; done) | (simp [limB, lenB, offB]; omega))); conv => whnf) | (refine ⟨ones_toks _, ?_⟩; conv => whnf) | (refine And.intro ?_ ?_; (focus (simp [pureL, pureV, pureL_bys, pureL_toks, pureL_app]; done)); conv => whnf) | (refine fit_i64 ⟨by first | (simp; done) | (simp; omega), by first | (simp; done) | (simp; omega)⟩ ?_; conv => whnf) | (refine ifB_neg (decide_eq_false (by first | (simp; done) | (simp; omega))) ?_; conv => whnf) | (refine ifB_pos (decide_eq_true (by first | (simp; done) | (simp; omega))) ?_; conv => whnf) | (refine Or.inl ⟨⟨rfl, ?_⟩, ?_⟩; (focus (first | (simp [toksC_length]; done) | (simp [toksC_length]; omega))); conv => whnf) | (refine ⟨⟨rfl, rfl, ?_, ?_⟩, ?_⟩; (focus (first | (simp [toksC_length]; done) | (simp [toksC_length]; omega))); (focus (first | (simp [limB, lenB, offB]; done) | (simp [limB, lenB, offB]; omega))); conv => whnf) | (refine ⟨⟨rfl, ?_, ?_, ?_⟩, ?_⟩; (focus (first | (simp [toksC_length]; done) | (simp [toksC_length]; omega))); (focus (first | exact Or.inl rfl | exact Or.inr (by omega))); (focus (first | (simp [limB, lenB, offB]; done) | (simp [limB, lenB, offB]; omega))); conv => whnf) | (refine And.intro ?_ ?_; (focus (first | (simp [toksC_length]; done) | (simp [toksC_length]; omega))); conv => whnf) | (refine ⟨pureL_take (pureL_drop (pureL_bys _) _) _, ?_⟩; conv => whnf) | (refine ⟨pureL_take (pureL_drop (pureL_toks _) _) _, ?_⟩; conv => whnf) | (refine ⟨pureL_ints _, ?_⟩; conv => whnf) | (refine ⟨ones_ints _, ?_⟩; conv => whnf) | (refine ⟨ones_part (ones_ints _) _ _, ?_⟩; conv => whnf) | (refine ⟨ones_part (ones_toks _) _ _, ?_⟩; conv => whnf) | (refine ⟨ones_part (ones_bys _) _ _, ?_⟩; conv => whnf))
  cases bad
  · conv => whnf
    repeat (first | (refine ifB_t ?_; conv => whnf) | (refine ifB_f ?_; conv => whnf) | (refine ifB_neg (decide_eq_false (by first | omega | rfl | (dsimp only; omega))) ?_; conv => whnf) | (refine ifB_pos (decide_eq_true (by first | omega | rfl | (dsimp only; omega))) ?_; conv => whnf) | (refine fit_i64 ⟨by first | omega | rfl | (dsimp only; omega), by first | omega | rfl | (dsimp only; omega)⟩ ?_; conv => whnf) | (refine fit_u64 ⟨by first | omega | rfl | (dsimp only; omega), by first | omega | rfl | (dsimp only; omega)⟩ ?_; conv => whnf) | (refine fit_u8 ⟨by first | omega | rfl | (dsimp only; omega), by first | omega | rfl | (dsimp only; omega)⟩ ?_; conv => whnf) | (refine ⟨pureL_bys _, ?_⟩; conv => whnf) | (refine ⟨ones_bys _, ?_⟩; conv => whnf) | (refine ⟨pureL_cutB _ _ _ _, ?_⟩; conv => whnf) | (refine Or.inl ⟨⟨rfl, ?_⟩, ?_⟩; (focus (first | rfl | (simp; done) | (rw [toksC_length]; omega))); conv => whnf) | (refine ⟨rfl, ?_⟩; conv => whnf) | (refine ⟨_, rfl, ?_⟩; conv => whnf) | (refine ⟨⟨rfl, rfl⟩, ?_⟩; conv => whnf) | (refine ⟨⟨rfl, rfl, rfl, ?_, pureL_bys _⟩, ?_⟩; (focus (simp; done)); conv => whnf) | (refine ⟨⟨rfl, rfl, ?_, pureL_bys _⟩, ?_⟩; (focus (simp; done)); conv => whnf) | (refine ⟨⟨rfl, rfl, rfl, ?_, pureL_toks _⟩, ?_⟩; (focus (rw [toksC_length]; omega)); conv => whnf) | (refine ⟨⟨rfl, rfl, ?_, pureL_toks _⟩, ?_⟩; (focus (rw [toksC_length]; omega)); conv => whnf) | (refine ⟨⟨rfl, rfl, ?_⟩, ?_⟩; (focus (first | assumption | exact pureL_bys _ | exact pureL_toks _)); conv => whnf) | (refine ⟨⟨rfl, rfl, ?_⟩, ?_⟩; (focus (first | exact Nat.le_of_ble_eq_true rfl | (simp; done))); conv => whnf) | (refine And.intro (by first | omega | rfl | (dsimp only; omega)) ?_; conv => whnf) | (refine ⟨⟨rfl, ?_⟩, ?_⟩; (focus (first | (simp only [okB]; omega) | (simp [okB]; omega))); conv => whnf) | (refine ⟨⟨?_, ?_, ?_⟩, ?_⟩; (focus omega); (focus (first | omega | (simp; done) | (simp; omega))); (focus (first | (simp; done) | (simp; omega) | (rw [toksC_length]; simp; omega))); conv => whnf) | (refine ⟨roLoad_ok rfl ?_, ?_⟩; (focus (simp [toksC_length]; omega)); conv => whnf) | (refine ⟨⟨?_, ?_⟩, ?_⟩; (focus (simp; done)); (focus (first | (simp only [okB]; omega) | (simp [okB]; omega))); conv => whnf) | (refine And.intro ?_ ?_; (focus (first | (simp only [pureL, pureV, pureL_bys, Bool.and_true, Bool.and_self]; done) | (simp only [pureL, pureV, pureL_bys, pureL_toks, Bool.and_true, Bool.and_self]; done))); conv => whnf) | (refine ⟨⟨rfl, rfl, ?_, ?_⟩, ?_⟩; (focus (first | (simp [lenB, offB]; done) | (simp [lenB, offB]; omega))); (focus (first | (simp [limB, lenB, offB]; done) | (simp [limB, lenB, offB]; omega))); conv => whnf) | (refine ⟨⟨rfl, ?_, ?_, ?_⟩, ?_⟩; (focus (first | (simp; done) | (simp; omega))); (focus (first | exact Or.inl rfl | exact Or.inr (by omega))); (focus (first | (simp [limB, lenB, offB]; done) | (simp [limB, lenB, offB]; omega))); conv => whnf) | (refine And.intro ?_ ?_; (focus (first | (simp [limB, lenB, offB]; done) | (simp [limB, lenB, offB]; omega))); conv => whnf) | (refine ⟨ones_toks _, ?_⟩; conv => whnf) | (refine And.intro ?_ ?_; (focus (simp [pureL, pureV, pureL_bys, pureL_toks, pureL_app]; done)); conv => whnf) | (refine fit_i64 ⟨by first | (simp; done) | (simp; omega), by first | (simp; done) | (simp; omega)⟩ ?_; conv => whnf) | (refine ifB_neg (decide_eq_false (by first | (simp; done) | (simp; omega))) ?_; conv => whnf) | (refine ifB_pos (decide_eq_true (by first | (simp; done) | (simp; omega))) ?_; conv => whnf) | (refine Or.inl ⟨⟨rfl, ?_⟩, ?_⟩; (focus (first | (simp [toksC_length]; done) | (simp [toksC_length]; omega))); conv => whnf) | (refine ⟨⟨rfl, rfl, ?_, ?_⟩, ?_⟩; (focus (first | (simp [toksC_length]; done) | (simp [toksC_length]; omega))); (focus (first | (simp [limB, lenB, offB]; done) | (simp [limB, lenB, offB]; omega))); conv => whnf) | (refine ⟨⟨rfl, ?_, ?_, ?_⟩, ?_⟩; (focus (first | (simp [toksC_length]; done) | (simp [toksC_length]; omega))); (focus (first | exact Or.inl rfl | exact Or.inr (by omega))); (focus (first | (simp [limB, lenB, offB]; done) | (simp [limB, lenB, offB]; omega))); conv => whnf) | (refine And.intro ?_ ?_; (focus (first | (simp [toksC_length]; done) | (simp [toksC_length]; omega))); conv => whnf) | (refine ⟨pureL_take (pureL_drop (pureL_bys _) _) _, ?_⟩; conv => whnf) | (refine ⟨pureL_take (pureL_drop (pureL_toks _) _) _, ?_⟩; conv => whnf) | (refine ⟨pureL_ints _, ?_⟩; conv => whnf) | (refine ⟨ones_ints _, ?_⟩; conv => whnf) | (refine ⟨ones_part (ones_ints _) _ _, ?_⟩; conv => whnf) | (refine ⟨ones_part (ones_toks _) _ _, ?_⟩; conv => whnf) | (refine ⟨ones_part (ones_bys _) _ _, ?_⟩; conv => whnf))
    rfl
  · conv => whnf
    repeat (first | (refine ifB_t ?_; conv => whnf) | (refine ifB_f ?_; conv => whnf) | (refine ifB_neg (decide_eq_false (by first | omega | rfl | (dsimp only; omega))) ?_; conv => whnf) | (refine ifB_pos (decide_eq_true (by first | omega | rfl | (dsimp only; omega))) ?_; conv => whnf) | (refine fit_i64 ⟨by first | omega | rfl | (dsimp only; omega), by first | omega | rfl | (dsimp only; omega)⟩ ?_; conv => whnf) | (refine fit_u64 ⟨by first | omega | rfl | (dsimp only; omega), by first | omega | rfl | (dsimp only; omega)⟩ ?_; conv => whnf) | (refine fit_u8 ⟨by first | omega | rfl | (dsimp only; omega), by first | omega | rfl | (dsimp only; omega)⟩ ?_; conv => whnf) | (refine ⟨pureL_bys _, ?_⟩; conv => whnf) | (refine ⟨ones_bys _, ?_⟩; conv => whnf) | (refine ⟨pureL_cutB _ _ _ _, ?_⟩; conv => whnf) | (refine Or.inl ⟨⟨rfl, ?_⟩, ?_⟩; (focus (first | rfl | (simp; done) | (rw [toksC_length]; omega))); conv => whnf) | (refine ⟨rfl, ?_⟩; conv => whnf) | (refine ⟨_, rfl, ?_⟩; conv => whnf) | (refine ⟨⟨rfl, rfl⟩, ?_⟩; conv => whnf) | (refine ⟨⟨rfl, rfl, rfl, ?_, pureL_bys _⟩, ?_⟩; (focus (simp; done)); conv => whnf) | (refine ⟨⟨rfl, rfl, ?_, pureL_bys _⟩, ?_⟩; (focus (simp; done)); conv => whnf) | (refine ⟨⟨rfl, rfl, rfl, ?_, pureL_toks _⟩, ?_⟩; (focus (rw [toksC_length]; omega)); conv => whnf) | (refine ⟨⟨rfl, rfl, ?_, pureL_toks _⟩, ?_⟩; (focus (rw [toksC_length]; omega)); conv => whnf) | (refine ⟨⟨rfl, rfl, ?_⟩, ?_⟩; (focus (first | assumption | exact pureL_bys _ | exact pureL_toks _)); conv => whnf) | (refine ⟨⟨rfl, rfl, ?_⟩, ?_⟩; (focus (first | exact Nat.le_of_ble_eq_true rfl | (simp; done))); conv => whnf) | (refine And.intro (by first | omega | rfl | (dsimp only; omega)) ?_; conv => whnf) | (refine ⟨⟨rfl, ?_⟩, ?_⟩; (focus (first | (simp only [okB]; omega) | (simp [okB]; omega))); conv => whnf) | (refine ⟨⟨?_, ?_, ?_⟩, ?_⟩; (focus omega); (focus (first | omega | (simp; done) | (simp; omega))); (focus (first | (simp; done) | (simp; omega) | (rw [toksC_length]; simp; omega))); conv => whnf) | (refine ⟨roLoad_ok rfl ?_, ?_⟩; (focus (simp [toksC_length]; omega)); conv => whnf) | (refine ⟨⟨?_, ?_⟩, ?_⟩; (focus (simp; done)); (focus (first | (simp only [okB]; omega) | (simp [okB]; omega))); conv => whnf) | (refine And.intro ?_ ?_; (focus (first | (simp only [pureL, pureV, pureL_bys, Bool.and_true, Bool.and_self]; done) | (simp only [pureL, pureV, pureL_bys, pureL_toks, Bool.and_true, Bool.and_self]; done))); conv => whnf) | (refine ⟨⟨rfl, rfl, ?_, ?_⟩, ?_⟩; (focus (first | (simp [lenB, offB]; done) | (simp [lenB, offB]; omega))); (focus (first | (simp [limB, lenB, offB]; done) | (simp [limB, lenB, offB]; omega))); conv => whnf) | (refine ⟨⟨rfl, ?_, ?_, ?_⟩, ?_⟩; (focus (first | (simp; done) | (simp; omega))); (focus (first | exact Or.inl rfl | exact Or.inr (by omega))); (focus (first | (simp [limB, lenB, offB]; done) | (simp [limB, lenB, offB]; omega))); conv => whnf) | (refine And.intro ?_ ?_; (focus (first | (simp [limB, lenB, offB]; done) | (simp [limB, lenB, offB]; omega))); conv => whnf) | (refine ⟨ones_toks _, ?_⟩; conv => whnf) | (refine And.intro ?_ ?_; (focus (simp [pureL, pureV, pureL_bys, pureL_toks, pureL_app]; done)); conv => whnf) | (refine fit_i64 ⟨by first | (simp; done) | (simp; omega), by first | (simp; done) | (simp; omega)⟩ ?_; conv => whnf) | (refine ifB_neg (decide_eq_false (by first | (simp; done) | (simp; omega))) ?_; conv => whnf) | (refine ifB_pos (decide_eq_true (by first | (simp; done) | (simp; omega))) ?_; conv => whnf) | (refine Or.inl ⟨⟨rfl, ?_⟩, ?_⟩; (focus (first | (simp [toksC_length]; done) | (simp [toksC_length]; omega))); conv => whnf) | (refine ⟨⟨rfl, rfl, ?_, ?_⟩, ?_⟩; (focus (first | (simp [toksC_length]; done) | (simp [toksC_length]; omega))); (focus (first | (simp [limB, lenB, offB]; done) | (simp [limB, lenB, offB]; omega))); conv => whnf) | (refine ⟨⟨rfl, ?_, ?_, ?_⟩, ?_⟩; (focus (first | (simp [toksC_length]; done) | (simp [toksC_length]; omega))); (focus (first | exact Or.inl rfl | exact Or.inr (by omega))); (focus (first | (simp [limB, lenB, offB]; done) | (simp [limB, lenB, offB]; omega))); conv => whnf) | (refine And.intro ?_ ?_; (focus (first | (simp [toksC_length]; done) | (simp [toksC_length]; omega))); conv => whnf) | (refine ⟨pureL_take (pureL_drop (pureL_bys _) _) _, ?_⟩; conv => whnf) | (refine ⟨pureL_take (pureL_drop (pureL_toks _) _) _, ?_⟩; conv => whnf) | (refine ⟨pureL_ints _, ?_⟩; conv => whnf) | (refine ⟨ones_ints _, ?_⟩; conv => whnf) | (refine ⟨ones_part (ones_ints _) _ _, ?_⟩; conv => whnf) | (refine ⟨ones_part (ones_toks _) _ _, ?_⟩; conv => whnf) | (refine ⟨ones_part (ones_bys _) _ _, ?_⟩; conv => whnf))
    rfl
theorem wnumber_ok (len : Nat) (L : List AV) (hL : pureL L = true) (w : W) (hb : w.out.length ≤ 1048576) (major : Int) (t : Tok) (h3 : t.n < 9223372036854775808) :
    ACall Tryd.prog 111 [.ref (wC len L w), .int .i64 major, .agg (tokC t)] (.tuple []) [.ref (wC len L (wNumber major t w))] := by
  obtain ⟨at', out, bad⟩ := w
  refine ACall.of_does TTok Tryd.func111 rfl Tryd.call111 rfl (wpc_sound (M := MC) (PL := PL0) (CU := noCut) TTok mixed _ _ _ ?_)
  cases bad
  · conv => whnf
    repeat (first | (refine ifB_t ?_; conv => whnf) | (refine ifB_f ?_; conv => whnf) | (refine ifB_neg (decide_eq_false (by first | omega | rfl | (dsimp only; omega))) ?_; conv => whnf) | (refine ifB_pos (decide_eq_true (by first | omega | rfl | (dsimp only; omega))) ?_; conv => whnf) | (refine fit_i64 ⟨by first | omega | rfl | (dsimp only; omega), by first | omega | rfl | (dsimp only; omega)⟩ ?_; conv => whnf) | (refine fit_u64 ⟨by first | omega | rfl | (dsimp only; omega), by first | omega | rfl | (dsimp only; omega)⟩ ?_; conv => whnf) | (refine fit_u8 ⟨by first | omega | rfl | (dsimp only; omega), by first | omega | rfl | (dsimp only; omega)⟩ ?_; conv => whnf) | (refine ⟨pureL_bys _, ?_⟩; conv => whnf) | (refine ⟨ones_bys _, ?_⟩; conv => whnf) | (refine ⟨pureL_cutB _ _ _ _, ?_⟩; conv => whnf) | (refine Or.inl ⟨⟨rfl, ?_⟩, ?_⟩; (focus (first | rfl | (simp; done) | (rw [toksC_length]; omega))); conv => whnf) | (refine ⟨rfl, ?_⟩; conv => whnf) | (refine ⟨_, rfl, ?_⟩; conv => whnf) | (refine ⟨⟨rfl, rfl⟩, ?_⟩; conv => whnf) | (refine ⟨⟨rfl, rfl, rfl, ?_, pureL_bys _⟩, ?_⟩; (focus (simp; done)); conv => whnf) | (refine ⟨⟨rfl, rfl, ?_, pureL_bys _⟩, ?_⟩; (focus (simp; done)); conv => whnf) | (refine ⟨⟨rfl, rfl, rfl, ?_, pureL_toks _⟩, ?_⟩; (focus (rw [toksC_length]; omega)); conv => whnf) | (refine ⟨⟨rfl, rfl, ?_, pureL_toks _⟩, ?_⟩; (focus (rw [toksC_length]; omega)); conv => whnf) | (refine ⟨⟨rfl, rfl, ?_⟩, ?_⟩; (focus (first | assumption | exact pureL_bys _ | exact pureL_toks _)); conv => whnf) | (refine ⟨⟨rfl, rfl, ?_⟩, ?_⟩; (focus (first | exact Nat.le_of_ble_eq_true rfl | (simp; done))); conv => whnf) | (refine And.intro (by first | omega | rfl | (dsimp only; omega)) ?_; conv => whnf) | (refine ⟨⟨rfl, ?_⟩, ?_⟩; (focus (first | (simp only [okB]; omega) | (simp [okB]; omega))); conv => whnf) | (refine ⟨⟨?_, ?_, ?_⟩, ?_⟩; (focus omega); (focus (first | omega | (simp; done) | (simp; omega))); (focus (first | (simp; done) | (simp; omega) | (rw [toksC_length]; simp; omega))); conv => whnf) | (refine ⟨roLoad_ok rfl ?_, ?_⟩; (focus (simp [toksC_length]; omega)); conv => whnf) | (refine ⟨⟨?_, ?_⟩, ?_⟩; (focus (simp; done)); (focus (first | (simp only [okB]; omega) | (simp [okB]; omega))); conv => whnf) | (refine And.intro ?_ ?_; (focus (first | (simp only [pureL, pureV, pureL_bys, Bool.and_true, Bool.and_self]; done) | (simp only [pureL, pureV, pureL_bys, pureL_toks, Bool.and_true, Bool.and_self]; done))); conv => whnf) | (refine ⟨⟨rfl, rfl, ?_, ?_⟩, ?_⟩; (focus (first | (simp [lenB, offB]; done) | (simp [lenB, offB]; omega))); (focus (first | (simp [limB, lenB, offB]; done) | (simp [limB, lenB, offB]; omega))); conv => whnf) | (refine ⟨⟨rfl, ?_, ?_, ?_⟩, ?_⟩; (focus (first | (simp; done) | (simp; omega))); (focus (first | exact Or.inl rfl | exact Or.inr (by omega))); (focus (first | (simp [limB, lenB, offB]; done) | (simp [limB, lenB, offB]; omega))); conv => whnf) | (refine And.intro ?_ ?_; (focus (first | (simp [limB, lenB, offB]; done) | (simp [limB, lenB, offB]; omega))); conv => whnf) | (refine ⟨ones_toks _, ?_⟩; conv => whnf) | (refine And.intro ?_ ?_; (focus (simp [pureL, pureV, pureL_bys, pureL_toks, pureL_app]; done)); conv => whnf) | (refine fit_i64 ⟨by first | (simp; done) | (simp; omega), by first | (simp; done) | (simp; omega)⟩ ?_; conv => whnf) | (refine ifB_neg (decide_eq_false (by first | (simp; done) | (simp; omega))) ?_; conv => whnf) | (refine ifB_pos (decide_eq_true (by first | (simp; done) | (simp; omega))) ?_; conv => whnf) | (refine Or.inl ⟨⟨rfl, ?_⟩, ?_⟩; (focus (first | (simp [toksC_length]; done) | (simp [toksC_length]; omega))); conv => whnf) | (refine ⟨⟨rfl, rfl, ?_, ?_⟩, ?_⟩; (focus (first | (simp [toksC_length]; done) | (simp [toksC_length]; omega))); (focus (first | (simp [limB, lenB, offB]; done) | (simp [limB, lenB, offB]; omega))); conv => whnf) | (refine ⟨⟨rfl, ?_, ?_, ?_⟩, ?_⟩; (focus (first | (simp [toksC_length]; done) | (simp [toksC_length]; omega))); (focus (first | exact Or.inl rfl | exact Or.inr (by omega))); (focus (first | (simp [limB, lenB, offB]; done) | (simp [limB, lenB, offB]; omega))); conv => whnf) | (refine And.intro ?_ ?_; (focus (first | (simp [toksC_length]; done) | (simp [toksC_length]; omega))); conv => whnf) | (refine ⟨pureL_take (pureL_drop (pureL_bys _) _) _, ?_⟩; conv => whnf) | (refine ⟨pureL_take (pureL_drop (pureL_toks _) _) _, ?_⟩; conv => whnf) | (refine ⟨pureL_ints _, ?_⟩; conv => whnf) | (refine ⟨ones_ints _, ?_⟩; conv => whnf) | (refine ⟨ones_part (ones_ints _) _ _, ?_⟩; conv => whnf) | (refine ⟨ones_part (ones_toks _) _ _, ?_⟩; conv => whnf) | (refine ⟨ones_part (ones_bys _) _ _, ?_⟩; conv => whnf))
    refine ⟨_, _, whead_ok len L hL ⟨at', out, false || decide (0 < (t.b.length : Int))⟩ hb major t.n h3, by first | rfl | simp [noRoIf, noRoL, noRoV, noRoL_bys], ?_⟩
    conv => whnf
    repeat (first | (refine ifB_t ?_; conv => whnf) | (refine ifB_f ?_; conv => whnf) | (refine ifB_neg (decide_eq_false (by first | omega | rfl | (dsimp only; omega))) ?_; conv => whnf) | (refine ifB_pos (decide_eq_true (by first | omega | rfl | (dsimp only; omega))) ?_; conv => whnf) | (refine fit_i64 ⟨by first | omega | rfl | (dsimp only; omega), by first | omega | rfl | (dsimp only; omega)⟩ ?_; conv => whnf) | (refine fit_u64 ⟨by first | omega | rfl | (dsimp only; omega), by first | omega | rfl | (dsimp only; omega)⟩ ?_; conv => whnf) | (refine fit_u8 ⟨by first | omega | rfl | (dsimp only; omega), by first | omega | rfl | (dsimp only; omega)⟩ ?_; conv => whnf) | (refine ⟨pureL_bys _, ?_⟩; conv => whnf) | (refine ⟨ones_bys _, ?_⟩; conv => whnf) | (refine ⟨pureL_cutB _ _ _ _, ?_⟩; conv => whnf) | (refine Or.inl ⟨⟨rfl, ?_⟩, ?_⟩; (focus (first | rfl | (simp; done) | (rw [toksC_length]; omega))); conv => whnf) | (refine ⟨rfl, ?_⟩; conv => whnf) | (refine ⟨_, rfl, ?_⟩; conv => whnf) | (refine ⟨⟨rfl, rfl⟩, ?_⟩; conv => whnf) | (refine ⟨⟨rfl, rfl, rfl, ?_, pureL_bys _⟩, ?_⟩; (focus (simp; done)); conv => whnf) | (refine ⟨⟨rfl, rfl, ?_, pureL_bys _⟩, ?_⟩; (focus (simp; done)); conv => whnf) | (refine ⟨⟨rfl, rfl, rfl, ?_, pureL_toks _⟩, ?_⟩; (focus (rw [toksC_length]; omega)); conv => whnf) | (refine ⟨⟨rfl, rfl, ?_, pureL_toks _⟩, ?_⟩; (focus (rw [toksC_length]; omega)); conv => whnf) | (refine ⟨⟨rfl, rfl, ?_⟩, ?_⟩; (focus (first | assumption | exact pureL_bys _ | exact pureL_toks _)); conv => whnf) | (refine ⟨⟨rfl, rfl, ?_⟩, ?_⟩; (focus (first | exact Nat.le_of_ble_eq_true rfl | (simp; done))); conv => whnf) | (refine And.intro (by first | omega | rfl | (dsimp only; omega)) ?_; conv => whnf) | (refine ⟨⟨rfl, ?_⟩, ?_⟩; (focus (first | (simp only [okB]; omega) | (simp [okB]; omega))); conv => whnf) | (refine ⟨⟨?_, ?_, ?_⟩, ?_⟩; (focus omega); (focus (first | omega | (simp; done) | (simp; omega))); (focus (first | (simp; done) | (simp; omega) | (rw [toksC_length]; simp; omega))); conv => whnf) | (refine ⟨roLoad_ok rfl ?_, ?_⟩; (focus (simp [toksC_length]; omega)); conv => whnf) | (refine ⟨⟨?_, ?_⟩, ?_⟩; (focus (simp; done)); (focus (first | (simp only [okB]; omega) | (simp [okB]; omega))); conv => whnf) | (refine And.intro ?_ ?_; (focus (first | (simp only [pureL, pureV, pureL_bys, Bool.and_true, Bool.and_self]; done) | (simp only [pureL, pureV, pureL_bys, pureL_toks, Bool.and_true, Bool.and_self]; done))); conv => whnf) | (refine ⟨⟨rfl, rfl, ?_, ?_⟩, ?_⟩; (focus (first | (simp [lenB, offB]; done) | (simp [lenB, offB]; omega))); (focus (first | (simp [limB, lenB, offB]; done) | (simp [limB, lenB, offB]; omega))); conv => whnf) | (refine ⟨⟨rfl, ?_, ?_, ?_⟩, ?_⟩; (focus (first | (simp; done) | (simp; omega))); (focus (first | exact Or.inl rfl | exact Or.inr (by omega))); (focus (first | (simp [limB, lenB, offB]; done) | (simp [limB, lenB, offB]; omega))); conv => whnf) | (refine And.intro ?_ ?_; (focus (first | (simp [limB, lenB, offB]; done) | (simp [limB, lenB, offB]; omega))); conv => whnf) | (refine ⟨ones_toks _, ?_⟩; conv => whnf) | (refine And.intro ?_ ?_; (focus (simp [pureL, pureV, pureL_bys, pureL_toks, pureL_app]; done)); conv => whnf) | (refine fit_i64 ⟨by first | (simp; done) | (simp; omega), by first | (simp; done) | (simp; omega)⟩ ?_; conv => whnf) | (refine ifB_neg (decide_eq_false (by first | (simp; done) | (simp; omega))) ?_; conv => whnf) | (refine ifB_pos (decide_eq_true (by first | (simp; done) | (simp; omega))) ?_; conv => whnf) | (refine Or.inl ⟨⟨rfl, ?_⟩, ?_⟩; (focus (first | (simp [toksC_length]; done) | (simp [toksC_length]; omega))); conv => whnf) | (refine ⟨⟨rfl, rfl, ?_, ?_⟩, ?_⟩; (focus (first | (simp [toksC_length]; done) | (simp [toksC_length]; omega))); (focus (first | (simp [limB, lenB, offB]; done) | (simp [limB, lenB, offB]; omega))); conv => whnf) | (refine ⟨⟨rfl, ?_, ?_, ?_⟩, ?_⟩; (focus (first | (simp [toksC_length]; done) | (simp [toksC_length]; omega))); (focus (first | exact Or.inl rfl | exact Or.inr (by omega))); (focus (first | (simp [limB, lenB, offB]; done) | (simp [limB, lenB, offB]; omega))); conv => whnf) | (refine And.intro ?_ ?_; (focus (first | (simp [toksC_length]; done) | (simp [toksC_length]; omega))); conv => whnf) | (refine ⟨pureL_take (pureL_drop (pureL_bys _) _) _, ?_⟩; conv => whnf) | (refine ⟨pureL_take (pureL_drop (pureL_toks _) _) _, ?_⟩; conv => whnf) | (refine ⟨pureL_ints _, ?_⟩; conv => whnf) | (refine ⟨ones_ints _, ?_⟩; conv => whnf) | (refine ⟨ones_part (ones_ints _) _ _, ?_⟩; conv => whnf) | (refine ⟨ones_part (ones_toks _) _ _, ?_⟩; conv => whnf) | (refine ⟨ones_part (ones_bys _) _ _, ?_⟩; conv => whnf))
    rfl
  · conv => whnf
    repeat (first | (refine ifB_t ?_; conv => whnf) | (refine ifB_f ?_; conv => whnf) | (refine ifB_neg (decide_eq_false (by first | omega | rfl | (dsimp only; omega))) ?_; conv => whnf) | (refine ifB_pos (decide_eq_true (by first | omega | rfl | (dsimp only; omega))) ?_; conv => whnf) | (refine fit_i64 ⟨by first | omega | rfl | (dsimp only; omega), by first | omega | rfl | (dsimp only; omega)⟩ ?_; conv => whnf) | (refine fit_u64 ⟨by first | omega | rfl | (dsimp only; omega), by first | omega | rfl | (dsimp only; omega)⟩ ?_; conv => whnf) | (refine fit_u8 ⟨by first | omega | rfl | (dsimp only; omega), by first | omega | rfl | (dsimp only; omega)⟩ ?_; conv => whnf) | (refine ⟨pureL_bys _, ?_⟩; conv => whnf) | (refine ⟨ones_bys _, ?_⟩; conv => whnf) | (refine ⟨pureL_cutB _ _ _ _, ?_⟩; conv => whnf) | (refine Or.inl ⟨⟨rfl, ?_⟩, ?_⟩; (focus (first | rfl | (simp; done) | (rw [toksC_length]; omega))); conv => whnf) | (refine ⟨rfl, ?_⟩; conv => whnf) | (refine ⟨_, rfl, ?_⟩; conv => whnf) | (refine ⟨⟨rfl, rfl⟩, ?_⟩; conv => whnf) | (refine ⟨⟨rfl, rfl, rfl, ?_, pureL_bys _⟩, ?_⟩; (focus (simp; done)); conv => whnf) | (refine ⟨⟨rfl, rfl, ?_, pureL_bys _⟩, ?_⟩; (focus (simp; done)); conv => whnf) | (refine ⟨⟨rfl, rfl, rfl, ?_, pureL_toks _⟩, ?_⟩; (focus (rw [toksC_length]; omega)); conv => whnf) | (refine ⟨⟨rfl, rfl, ?_, pureL_toks _⟩, ?_⟩; (focus (rw [toksC_length]; omega)); conv => whnf) | (refine ⟨⟨rfl, rfl, ?_⟩, ?_⟩; (focus (first | assumption | exact pureL_bys _ | exact pureL_toks _)); conv => whnf) | (refine ⟨⟨rfl, rfl, ?_⟩, ?_⟩; (focus (first | exact Nat.le_of_ble_eq_true rfl | (simp; done))); conv => whnf) | (refine And.intro (by first | omega | rfl | (dsimp only; omega)) ?_; conv => whnf) | (refine ⟨⟨rfl, ?_⟩, ?_⟩; (focus (first | (simp only [okB]; omega) | (simp [okB]; omega))); conv => whnf) | (refine ⟨⟨?_, ?_, ?_⟩, ?_⟩; (focus omega); (focus (first | omega | (simp; done) | (simp; omega))); (focus (first | (simp; done) | (simp; omega) | (rw [toksC_length]; simp; omega))); conv => whnf) | (refine ⟨roLoad_ok rfl ?_, ?_⟩; (focus (simp [toksC_length]; omega)); conv => whnf) | (refine ⟨⟨?_, ?_⟩, ?_⟩; (focus (simp; done)); (focus (first | (simp only [okB]; omega) | (simp [okB]; omega))); conv => whnf) | (refine And.intro ?_ ?_; (focus (first | (simp only [pureL, pureV, pureL_bys, Bool.and_true, Bool.and_self]; done) | (simp only [pureL, pureV, pureL_bys, pureL_toks, Bool.and_true, Bool.and_self]; done))); conv => whnf) | (refine ⟨⟨rfl, rfl, ?_, ?_⟩, ?_⟩; (focus (first | (simp [lenB, offB]; done) | (simp [lenB, offB]; omega))); (focus (first | (simp [limB, lenB, offB]; done) | (simp [limB, lenB, offB]; omega))); conv => whnf) | (refine ⟨⟨rfl, ?_, ?_, ?_⟩, ?_⟩; (focus (first | (simp; done) | (simp; omega))); (focus (first | exact Or.inl rfl | exact Or.inr (by omega))); (focus (first | (simp [limB, lenB, offB]; done) | (simp [limB, lenB, offB]; omega))); conv => whnf) | (refine And.intro ?_ ?_; (focus (first | (simp [limB, lenB, offB]; done) | (simp [limB, lenB, offB]; omega))); conv => whnf) | (refine ⟨ones_toks _, ?_⟩; conv => whnf) | (refine And.intro ?_ ?_; (focus (simp [pureL, pureV, pureL_bys, pureL_toks, pureL_app]; done)); conv => whnf) | (refine fit_i64 ⟨by first | (simp; done) | (simp; omega), by first | (simp; done) | (simp; omega)⟩ ?_; conv => whnf) | (refine ifB_neg (decide_eq_false (by first | (simp; done) | (simp; omega))) ?_; conv => whnf) | (refine ifB_pos (decide_eq_true (by first | (simp; done) | (simp; omega))) ?_; conv => whnf) | (refine Or.inl ⟨⟨rfl, ?_⟩, ?_⟩; (focus (first | (simp [toksC_length]; done) | (simp [toksC_length]; omega))); conv => whnf) | (refine ⟨⟨rfl, rfl, ?_, ?_⟩, ?_⟩; (focus (first | (simp [toksC_length]; done) | (simp [toksC_length]; omega))); (focus (first | (simp [limB, lenB, offB]; done) | (simp [limB, lenB, offB]; omega))); conv => whnf) | (refine ⟨⟨rfl, ?_, ?_, ?_⟩, ?_⟩; (focus (first | (simp [toksC_length]; done) | (simp [toksC_length]; omega))); (focus (first | exact Or.inl rfl | exact Or.inr (by omega))); (focus (first | (simp [limB, lenB, offB]; done) | (simp [limB, lenB, offB]; omega))); conv => whnf) | (refine And.intro ?_ ?_; (focus (first | (simp [toksC_length]; done) | (simp [toksC_length]; omega))); conv => whnf) | (refine ⟨pureL_take (pureL_drop (pureL_bys _) _) _, ?_⟩; conv => whnf) | (refine ⟨pureL_take (pureL_drop (pureL_toks _) _) _, ?_⟩; conv => whnf) | (refine ⟨pureL_ints _, ?_⟩; conv => whnf) | (refine ⟨ones_ints _, ?_⟩; conv => whnf) | (refine ⟨ones_part (ones_ints _) _ _, ?_⟩; conv => whnf) | (refine ⟨ones_part (ones_toks _) _ _, ?_⟩; conv => whnf) | (refine ⟨ones_part (ones_bys _) _ _, ?_⟩; conv => whnf))
    refine ⟨_, _, whead_ok len L hL ⟨at', out, true⟩ hb major t.n h3, by first | rfl | simp [noRoIf, noRoL, noRoV, noRoL_bys], ?_⟩
    conv => whnf
    repeat (first | (refine ifB_t ?_; conv => whnf) | (refine ifB_f ?_; conv => whnf) | (refine ifB_neg (decide_eq_false (by first | omega | rfl | (dsimp only; omega))) ?_; conv => whnf) | (refine ifB_pos (decide_eq_true (by first | omega | rfl | (dsimp only; omega))) ?_; conv => whnf) | (refine fit_i64 ⟨by first | omega | rfl | (dsimp only; omega), by first | omega | rfl | (dsimp only; omega)⟩ ?_; conv => whnf) | (refine fit_u64 ⟨by first | omega | rfl | (dsimp only; omega), by first | omega | rfl | (dsimp only; omega)⟩ ?_; conv => whnf) | (refine fit_u8 ⟨by first | omega | rfl | (dsimp only; omega), by first | omega | rfl | (dsimp only; omega)⟩ ?_; conv => whnf) | (refine ⟨pureL_bys _, ?_⟩; conv => whnf) | (refine ⟨ones_bys _, ?_⟩; conv => whnf) | (refine ⟨pureL_cutB _ _ _ _, ?_⟩; conv => whnf) | (refine Or.inl ⟨⟨rfl, ?_⟩, ?_⟩; (focus (first | rfl | (simp; done) | (rw [toksC_length]; omega))); conv => whnf) | (refine ⟨rfl, ?_⟩; conv => whnf) | (refine ⟨_, rfl, ?_⟩; conv => whnf) | (refine ⟨⟨rfl, rfl⟩, ?_⟩; conv => whnf) | (refine ⟨⟨rfl, rfl, rfl, ?_, pureL_bys _⟩, ?_⟩; (focus (simp; done)); conv => whnf) | (refine ⟨⟨rfl, rfl, ?_, pureL_bys _⟩, ?_⟩; (focus (simp; done)); conv => whnf) | (refine ⟨⟨rfl, rfl, rfl, ?_, pureL_toks _⟩, ?_⟩; (focus (rw [toksC_length]; omega)); conv => whnf) | (refine ⟨⟨rfl, rfl, ?_, pureL_toks _⟩, ?_⟩; (focus (rw [toksC_length]; omega)); conv => whnf) | (refine ⟨⟨rfl, rfl, ?_⟩, ?_⟩; (focus (first | assumption | exact pureL_bys _ | exact pureL_toks _)); conv => whnf) | (refine ⟨⟨rfl, rfl, ?_⟩, ?_⟩; (focus (first | exact Nat.le_of_ble_eq_true rfl | (simp; done))); conv => whnf) | (refine And.intro (by first | omega | rfl | (dsimp only; omega)) ?_; conv => whnf) | (refine ⟨⟨rfl, ?_⟩, ?_⟩; (focus (first | (simp only [okB]; omega) | (simp [okB]; omega))); conv => whnf) | (refine ⟨⟨?_, ?_, ?_⟩, ?_⟩; (focus omega); (focus (first | omega | (simp; done) | (simp; omega))); (focus (first | (simp; done) | (simp; omega) | (rw [toksC_length]; simp; omega))); conv => whnf) | (refine ⟨roLoad_ok rfl ?_, ?_⟩; (focus (simp [toksC_length]; omega)); conv => whnf) | (refine ⟨⟨?_, ?_⟩, ?_⟩; (focus (simp; done)); (focus (first | (simp only [okB]; omega) | (simp [okB]; omega))); conv => whnf) | (refine And.intro ?_ ?_; (focus (first | (simp only [pureL, pureV, pureL_bys, Bool.and_true, Bool.and_self]; done) | (simp only [pureL, pureV, pureL_bys, pureL_toks, Bool.and_true, Bool.and_self]; done))); conv => whnf) | (refine ⟨⟨rfl, rfl, ?_, ?_⟩, ?_⟩; (focus (first | (simp [lenB, offB]; done) | (simp [lenB, offB]; omega))); (focus (first | (simp [limB, lenB, offB]; done) | (simp [limB, lenB, offB]; omega))); conv => whnf) | (refine ⟨⟨rfl, ?_, ?_, ?_⟩, ?_⟩; (focus (first | (simp; done) | (simp; omega))); (focus (first | exact Or.inl rfl | exact Or.inr (by omega))); (focus (first | (simp [limB, lenB, offB]; done) | (simp [limB, lenB, offB]; omega))); conv => whnf) | (refine And.intro ?_ ?_; (focus (first | (simp [limB, lenB, offB]; done) | (simp [limB, lenB, offB]; omega))); conv => whnf) | (refine ⟨ones_toks _, ?_⟩; conv => whnf) | (refine And.intro ?_ ?_; (focus (simp [pureL, pureV, pureL_bys, pureL_toks, pureL_app]; done)); conv => whnf) | (refine fit_i64 ⟨by first | (simp; done) | (simp; omega), by first | (simp; done) | (simp; omega)⟩ ?_; conv => whnf) | (refine ifB_neg (decide_eq_false (by first | (simp; done) | (simp; omega))) ?_; conv => whnf) | (refine ifB_pos (decide_eq_true (by first | (simp; done) | (simp; omega))) ?_; conv => whnf) | (refine Or.inl ⟨⟨rfl, ?_⟩, ?_⟩; (focus (first | (simp [toksC_length]; done) | (simp [toksC_length]; omega))); conv => whnf) | (refine ⟨⟨rfl, rfl, ?_, ?_⟩, ?_⟩; (focus (first | (simp [toksC_length]; done) | (simp [toksC_length]; omega))); (focus (first | (simp [limB, lenB, offB]; done) | (simp [limB, lenB, offB]; omega))); conv => whnf) | (refine ⟨⟨rfl, ?_, ?_, ?_⟩, ?_⟩; (focus (first | (simp [toksC_length]; done) | (simp [toksC_length]; omega))); (focus (first | exact Or.inl rfl | exact Or.inr (by omega))); (focus (first | (simp [limB, lenB, offB]; done) | (simp [limB, lenB, offB]; omega))); conv => whnf) | (refine And.intro ?_ ?_; (focus (first | (simp [toksC_length]; done) | (simp [toksC_length]; omega))); conv => whnf) | (refine ⟨pureL_take (pureL_drop (pureL_bys _) _) _, ?_⟩; conv => whnf) | (refine ⟨pureL_take (pureL_drop (pureL_toks _) _) _, ?_⟩; conv => whnf) | (refine ⟨pureL_ints _, ?_⟩; conv => whnf) | (refine ⟨ones_ints _, ?_⟩; conv => whnf) | (refine ⟨ones_part (ones_ints _) _ _, ?_⟩; conv => whnf) | (refine ⟨ones_part (ones_toks _) _ _, ?_⟩; conv => whnf) | (refine ⟨ones_part (ones_bys _) _ _, ?_⟩; conv => whnf))
    rfl
end Go.Proofs.YtelnlfhdaelfdaaDoor.Abs
end
section
set_option linter.unusedVariables false
set_option linter.unusedSimpArgs false
namespace Go.Proofs.YtelnlfhdaelfdaaDoor.Abs
open Go
attribute [local irreducible] ifB fitP Does Weaker
theorem or_u64 (a b : Nat) (ha : a < 18446744073709551616) (hb : b < 18446744073709551616) : bits .or .u64 (a : Int) (b : Int) = ((a ||| b : Nat) : Int) ∧ a ||| b < 18446744073709551616 := by
  refine ⟨(bits_nat .u64 64 (by decide) (fun n h0 h1 => ?_) a b ha hb).2, Nat.or_lt_two_pow (n := 64) ha hb⟩
  rw [wrap_u64]
  omega
theorem and_u64 (a b : Nat) (ha : a < 18446744073709551616) (hb : b < 18446744073709551616) : bits .and .u64 (a : Int) (b : Int) = ((a &&& b : Nat) : Int) := by
  refine (bits_nat .u64 64 (by decide) (fun n h0 h1 => ?_) a b ha hb).1
  rw [wrap_u64]
  omega
/-- Bit 7 of each byte of a number. -/
def hiBits (w : Nat) (s : Nat → Int) : Prop := ∀ i, i < 8 → w.testBit (8 * i + 7) = decide (128 ≤ s i)
theorem byte_bit (c : Nat) (hc : c < 256) (j i : Nat) : (c * 2 ^ (8 * j)).testBit (8 * i + 7) = (decide (i = j) && decide (128 ≤ c)) := by
  rw [Nat.mul_comm, Nat.testBit_two_pow_mul]
  by_cases h : i = j
  · subst h
    have h2 : 8 * i ≤ 8 * i + 7 := by omega
    have e : 8 * i + 7 - 8 * i = 7 := by omega
    simp only [h2, decide_true, Bool.true_and, e]
    rw [Nat.testBit_eq_decide_div_mod_eq]
    congr 1
    rw [eq_iff_iff]
    omega
  · by_cases h2 : 8 * j ≤ 8 * i + 7
    · have e : ∃ m, 8 * i + 7 - 8 * j = 8 + m := ⟨8 * i + 7 - 8 * j - 8, by omega⟩
      obtain ⟨m, hm⟩ := e
      rw [hm]
      have : c < 2 ^ (8 + m) := by
        rw [Nat.pow_add]
        have := Nat.two_pow_pos m
        have : 2 ^ 8 * 1 ≤ 2 ^ 8 * 2 ^ m := Nat.mul_le_mul_left _ this
        omega
      rw [Nat.testBit_lt_two_pow this]
      simp [h]
    · simp [h2, h]
def PLword : Nat → Bool × Plan := plans [(1, (true, takes (List.range 23))), (2, (true, takes (List.range 47)))]
theorem word_ok (s : List Int) (hs : 8 ≤ s.length) (hb : Byt s) : ∃ W : Nat, ACall Tryd.prog 132 [.ro s.length (bys s)] (.int .u64 (W : Int)) [] ∧ W < 18446744073709551616 ∧ hiBits W (fun i => s.getD i 0) := by
  match s, hs with
  | s0 :: s1 :: s2 :: s3 :: s4 :: s5 :: s6 :: s7 :: r, hs =>
    obtain ⟨c0, rfl⟩ : ∃ c : Nat, s0 = c := ⟨s0.toNat, by have := hb s0 (by simp); omega⟩
    obtain ⟨c1, rfl⟩ : ∃ c : Nat, s1 = c := ⟨s1.toNat, by have := hb s1 (by simp); omega⟩
    obtain ⟨c2, rfl⟩ : ∃ c : Nat, s2 = c := ⟨s2.toNat, by have := hb s2 (by simp); omega⟩
    obtain ⟨c3, rfl⟩ : ∃ c : Nat, s3 = c := ⟨s3.toNat, by have := hb s3 (by simp); omega⟩
    obtain ⟨c4, rfl⟩ : ∃ c : Nat, s4 = c := ⟨s4.toNat, by have := hb s4 (by simp); omega⟩
    obtain ⟨c5, rfl⟩ : ∃ c : Nat, s5 = c := ⟨s5.toNat, by have := hb s5 (by simp); omega⟩
    obtain ⟨c6, rfl⟩ : ∃ c : Nat, s6 = c := ⟨s6.toNat, by have := hb s6 (by simp); omega⟩
    obtain ⟨c7, rfl⟩ : ∃ c : Nat, s7 = c := ⟨s7.toNat, by have := hb s7 (by simp); omega⟩
    have h0 : c0 < 256 := by have := hb (c0 : Int) (by simp); omega
    have h1 : c1 < 256 := by have := hb (c1 : Int) (by simp); omega
    have h2 : c2 < 256 := by have := hb (c2 : Int) (by simp); omega
    have h3 : c3 < 256 := by have := hb (c3 : Int) (by simp); omega
    have h4 : c4 < 256 := by have := hb (c4 : Int) (by simp); omega
    have h5 : c5 < 256 := by have := hb (c5 : Int) (by simp); omega
    have h6 : c6 < 256 := by have := hb (c6 : Int) (by simp); omega
    have h7 : c7 < 256 := by have := hb (c7 : Int) (by simp); omega
    obtain ⟨a0, ha0⟩ : ∃ a, a = c0 := ⟨_, rfl⟩
    have b0 : a0 < 18446744073709551616 := by omega
    obtain ⟨a1, ha1⟩ : ∃ a, a = a0 ||| c1 * 2 ^ 8 := ⟨_, rfl⟩
    obtain ⟨o1, b1⟩ := or_u64 a0 (c1 * 2 ^ 8) b0 (by omega)
    rw [← ha1] at o1 b1
    obtain ⟨a2, ha2⟩ : ∃ a, a = a1 ||| c2 * 2 ^ 16 := ⟨_, rfl⟩
    obtain ⟨o2, b2⟩ := or_u64 a1 (c2 * 2 ^ 16) b1 (by omega)
    rw [← ha2] at o2 b2
    obtain ⟨a3, ha3⟩ : ∃ a, a = a2 ||| c3 * 2 ^ 24 := ⟨_, rfl⟩
    obtain ⟨o3, b3⟩ := or_u64 a2 (c3 * 2 ^ 24) b2 (by omega)
    rw [← ha3] at o3 b3
    obtain ⟨a4, ha4⟩ : ∃ a, a = a3 ||| c4 * 2 ^ 32 := ⟨_, rfl⟩
    obtain ⟨o4, b4⟩ := or_u64 a3 (c4 * 2 ^ 32) b3 (by omega)
    rw [← ha4] at o4 b4
    obtain ⟨a5, ha5⟩ : ∃ a, a = a4 ||| c5 * 2 ^ 40 := ⟨_, rfl⟩
    obtain ⟨o5, b5⟩ := or_u64 a4 (c5 * 2 ^ 40) b4 (by omega)
    rw [← ha5] at o5 b5
    obtain ⟨a6, ha6⟩ : ∃ a, a = a5 ||| c6 * 2 ^ 48 := ⟨_, rfl⟩
    obtain ⟨o6, b6⟩ := or_u64 a5 (c6 * 2 ^ 48) b5 (by omega)
    rw [← ha6] at o6 b6
    obtain ⟨a7, ha7⟩ : ∃ a, a = a6 ||| c7 * 2 ^ 56 := ⟨_, rfl⟩
    obtain ⟨o7, b7⟩ := or_u64 a6 (c7 * 2 ^ 56) b6 (by omega)
    rw [← ha7] at o7 b7
    refine ⟨a7, ?_, b7, ?_⟩
    · refine ACall.of_does TTok Tryd.func132 rfl Tryd.call132 rfl (wpc_sound (M := MC) (PL := PLword) (CU := noCut) TTok mixed _ _ _ ?_)
      conv => whnf
      repeat ((first | refine ifB_t ?_ | refine ifB_f ?_); conv => whnf)
      refine ⟨by kernel_rfl, ?_⟩
      conv => whnf
      repeat ((first | (refine fit_u64 ⟨by first | omega | rfl | (dsimp only; omega), by first | omega | rfl | (dsimp only; omega)⟩ ?_) | refine ⟨_, rfl, ?_⟩ | (refine And.intro (by first | omega | rfl | (dsimp only; omega)) ?_) | (refine ⟨⟨?_, ?_, ?_⟩, ?_⟩; (focus omega); (focus (first | omega | (simp; done) | (simp; omega))); (focus (first | (simp; done) | (simp; omega) | (rw [toksC_length]; simp; omega))))); conv => whnf)
      conv => whnf
      have e1 : (c1 : Int) * 2 ^ min (Int.toNat 8) IntKind.u64.bits = ((c1 * 2 ^ 8 : Nat) : Int) := by rw [show min (Int.toNat 8) IntKind.u64.bits = 8 from by decide]; rw [Int.natCast_mul]; rfl
      refine fit_u64 (by rw [e1]; omega) ?_
      conv => whnf
      repeat ((first | (refine fit_u64 ⟨by first | omega | rfl | (dsimp only; omega), by first | omega | rfl | (dsimp only; omega)⟩ ?_) | refine ⟨_, rfl, ?_⟩ | (refine And.intro (by first | omega | rfl | (dsimp only; omega)) ?_) | (refine ⟨⟨?_, ?_, ?_⟩, ?_⟩; (focus omega); (focus (first | omega | (simp; done) | (simp; omega))); (focus (first | (simp; done) | (simp; omega) | (rw [toksC_length]; simp; omega))))); conv => whnf)
      conv => whnf
      have e2 : (c2 : Int) * 2 ^ min (Int.toNat 16) IntKind.u64.bits = ((c2 * 2 ^ 16 : Nat) : Int) := by rw [show min (Int.toNat 16) IntKind.u64.bits = 16 from by decide]; rw [Int.natCast_mul]; rfl
      refine fit_u64 (by rw [e2]; omega) ?_
      conv => whnf
      repeat ((first | (refine fit_u64 ⟨by first | omega | rfl | (dsimp only; omega), by first | omega | rfl | (dsimp only; omega)⟩ ?_) | refine ⟨_, rfl, ?_⟩ | (refine And.intro (by first | omega | rfl | (dsimp only; omega)) ?_) | (refine ⟨⟨?_, ?_, ?_⟩, ?_⟩; (focus omega); (focus (first | omega | (simp; done) | (simp; omega))); (focus (first | (simp; done) | (simp; omega) | (rw [toksC_length]; simp; omega))))); conv => whnf)
      conv => whnf
      have e3 : (c3 : Int) * 2 ^ min (Int.toNat 24) IntKind.u64.bits = ((c3 * 2 ^ 24 : Nat) : Int) := by rw [show min (Int.toNat 24) IntKind.u64.bits = 24 from by decide]; rw [Int.natCast_mul]; rfl
      refine fit_u64 (by rw [e3]; omega) ?_
      conv => whnf
      repeat ((first | (refine fit_u64 ⟨by first | omega | rfl | (dsimp only; omega), by first | omega | rfl | (dsimp only; omega)⟩ ?_) | refine ⟨_, rfl, ?_⟩ | (refine And.intro (by first | omega | rfl | (dsimp only; omega)) ?_) | (refine ⟨⟨?_, ?_, ?_⟩, ?_⟩; (focus omega); (focus (first | omega | (simp; done) | (simp; omega))); (focus (first | (simp; done) | (simp; omega) | (rw [toksC_length]; simp; omega))))); conv => whnf)
      conv => whnf
      have e4 : (c4 : Int) * 2 ^ min (Int.toNat 32) IntKind.u64.bits = ((c4 * 2 ^ 32 : Nat) : Int) := by rw [show min (Int.toNat 32) IntKind.u64.bits = 32 from by decide]; rw [Int.natCast_mul]; rfl
      refine fit_u64 (by rw [e4]; omega) ?_
      conv => whnf
      repeat ((first | (refine fit_u64 ⟨by first | omega | rfl | (dsimp only; omega), by first | omega | rfl | (dsimp only; omega)⟩ ?_) | refine ⟨_, rfl, ?_⟩ | (refine And.intro (by first | omega | rfl | (dsimp only; omega)) ?_) | (refine ⟨⟨?_, ?_, ?_⟩, ?_⟩; (focus omega); (focus (first | omega | (simp; done) | (simp; omega))); (focus (first | (simp; done) | (simp; omega) | (rw [toksC_length]; simp; omega))))); conv => whnf)
      conv => whnf
      have e5 : (c5 : Int) * 2 ^ min (Int.toNat 40) IntKind.u64.bits = ((c5 * 2 ^ 40 : Nat) : Int) := by rw [show min (Int.toNat 40) IntKind.u64.bits = 40 from by decide]; rw [Int.natCast_mul]; rfl
      refine fit_u64 (by rw [e5]; omega) ?_
      conv => whnf
      repeat ((first | (refine fit_u64 ⟨by first | omega | rfl | (dsimp only; omega), by first | omega | rfl | (dsimp only; omega)⟩ ?_) | refine ⟨_, rfl, ?_⟩ | (refine And.intro (by first | omega | rfl | (dsimp only; omega)) ?_) | (refine ⟨⟨?_, ?_, ?_⟩, ?_⟩; (focus omega); (focus (first | omega | (simp; done) | (simp; omega))); (focus (first | (simp; done) | (simp; omega) | (rw [toksC_length]; simp; omega))))); conv => whnf)
      conv => whnf
      have e6 : (c6 : Int) * 2 ^ min (Int.toNat 48) IntKind.u64.bits = ((c6 * 2 ^ 48 : Nat) : Int) := by rw [show min (Int.toNat 48) IntKind.u64.bits = 48 from by decide]; rw [Int.natCast_mul]; rfl
      refine fit_u64 (by rw [e6]; omega) ?_
      conv => whnf
      repeat ((first | (refine fit_u64 ⟨by first | omega | rfl | (dsimp only; omega), by first | omega | rfl | (dsimp only; omega)⟩ ?_) | refine ⟨_, rfl, ?_⟩ | (refine And.intro (by first | omega | rfl | (dsimp only; omega)) ?_) | (refine ⟨⟨?_, ?_, ?_⟩, ?_⟩; (focus omega); (focus (first | omega | (simp; done) | (simp; omega))); (focus (first | (simp; done) | (simp; omega) | (rw [toksC_length]; simp; omega))))); conv => whnf)
      conv => whnf
      have e7 : (c7 : Int) * 2 ^ min (Int.toNat 56) IntKind.u64.bits = ((c7 * 2 ^ 56 : Nat) : Int) := by rw [show min (Int.toNat 56) IntKind.u64.bits = 56 from by decide]; rw [Int.natCast_mul]; rfl
      refine fit_u64 (by rw [e7]; omega) ?_
      conv => whnf
      rw [e1, e2, e3, e4, e5, e6, e7, show (c0 : Int) = (a0 : Int) by rw [ha0], o1, o2, o3, o4, o5, o6, o7]
      conv => whnf
      repeat ((refine ⟨⟨rfl, rfl⟩, ?_⟩); conv => whnf)
      rfl
    · intro i hi
      simp only [ha7, ha6, ha5, ha4, ha3, ha2, ha1, ha0, Nat.testBit_or]
      have t0 : (c0 * 2 ^ 0).testBit (8 * i + 7) = (decide (i = 0) && decide (128 ≤ c0)) := byte_bit c0 h0 0 i
      have t1 : (c1 * 2 ^ 8).testBit (8 * i + 7) = (decide (i = 1) && decide (128 ≤ c1)) := byte_bit c1 h1 1 i
      have t2 : (c2 * 2 ^ 16).testBit (8 * i + 7) = (decide (i = 2) && decide (128 ≤ c2)) := byte_bit c2 h2 2 i
      have t3 : (c3 * 2 ^ 24).testBit (8 * i + 7) = (decide (i = 3) && decide (128 ≤ c3)) := byte_bit c3 h3 3 i
      have t4 : (c4 * 2 ^ 32).testBit (8 * i + 7) = (decide (i = 4) && decide (128 ≤ c4)) := byte_bit c4 h4 4 i
      have t5 : (c5 * 2 ^ 40).testBit (8 * i + 7) = (decide (i = 5) && decide (128 ≤ c5)) := byte_bit c5 h5 5 i
      have t6 : (c6 * 2 ^ 48).testBit (8 * i + 7) = (decide (i = 6) && decide (128 ≤ c6)) := byte_bit c6 h6 6 i
      have t7 : (c7 * 2 ^ 56).testBit (8 * i + 7) = (decide (i = 7) && decide (128 ≤ c7)) := byte_bit c7 h7 7 i
      have t0' : c0.testBit (8 * i + 7) = (decide (i = 0) && decide (128 ≤ c0)) := by rw [← t0]; simp
      rw [t0', t1, t2, t3, t4, t5, t6, t7]
      have hc : i = 0 ∨ i = 1 ∨ i = 2 ∨ i = 3 ∨ i = 4 ∨ i = 5 ∨ i = 6 ∨ i = 7 := by omega
      rcases hc with rfl | rfl | rfl | rfl | rfl | rfl | rfl | rfl <;> simp <;> omega
end Go.Proofs.YtelnlfhdaelfdaaDoor.Abs
end
section
set_option linter.unusedVariables false
set_option linter.unusedSimpArgs false
namespace Go.Proofs.YtelnlfhdaelfdaaDoor.Abs
open Go
/-- How many bytes follow a first one, the first one's bits, the least number that may stand so. -/
def uLead (c : Int) : Nat × Int × Int :=
  if 192 ≤ c ∧ c < 224 then (1, c % 32, 128) else if 224 ≤ c ∧ c < 240 then (2, c % 16, 2048) else if 240 ≤ c ∧ c < 248 then (3, c % 8, 65536) else (0, 0, 0)
def uCont (c : Int) : Bool := decide (128 ≤ c ∧ c < 192)
def uVal (v : Int) (l : List Int) : Int := l.foldl (fun x c => x * 64 + c % 64) v
def uRight (low v : Int) : Bool := decide (low ≤ v ∧ v ≤ 1114111 ∧ ¬ (55296 ≤ v ∧ v ≤ 57343))
def validF : Nat → List Int → Bool
  | 0, _ => true
  | _ + 1, [] => true
  | n + 1, c :: r =>
    if c < 128 then validF n r
    else if (uLead c).1 = 0 ∨ r.length < (uLead c).1 then false
    else (r.take (uLead c).1).all uCont && uRight (uLead c).2.2 (uVal (uLead c).2.1 (r.take (uLead c).1)) && validF n (r.drop (uLead c).1)
def validR (l : List Int) : Bool := validF l.length l
theorem validF_le : ∀ (n m : Nat) (l : List Int), l.length ≤ n → l.length ≤ m → validF n l = validF m l
  | 0, 0, l, _, _ => rfl
  | 0, m + 1, l, h, _ => by
    obtain rfl : l = [] := List.length_eq_zero_iff.1 (by omega)
    rfl
  | n + 1, 0, l, _, h => by
    obtain rfl : l = [] := List.length_eq_zero_iff.1 (by omega)
    rfl
  | n + 1, m + 1, [], _, _ => rfl
  | n + 1, m + 1, c :: r, h1, h2 => by
    simp only [List.length_cons] at h1 h2
    unfold validF
    rw [validF_le n m r (by omega) (by omega), validF_le n m (r.drop (uLead c).1) (by simp; omega) (by simp; omega)]
theorem validR_nil : validR [] = true := rfl
theorem validR_asc {c : Int} (h : c < 128) (r : List Int) : validR (c :: r) = validR r := by
  show validF (r.length + 1) (c :: r) = _
  unfold validF
  rw [if_pos h]
  rfl
theorem validR_big {c : Int} (h : ¬ c < 128) (r : List Int) : validR (c :: r) = if (uLead c).1 = 0 ∨ r.length < (uLead c).1 then false
    else (r.take (uLead c).1).all uCont && uRight (uLead c).2.2 (uVal (uLead c).2.1 (r.take (uLead c).1)) && validR (r.drop (uLead c).1) := by
  show validF (r.length + 1) (c :: r) = _
  unfold validF
  rw [if_neg h]
  congr 2
  exact validF_le _ _ _ (by simp) (by simp)
theorem validR_skip : ∀ (k : Nat) (s : List Int), k ≤ s.length → (∀ i, i < k → s.getD i 0 < 128) → validR (s.drop k) = validR s
  | 0, s, _, _ => rfl
  | k + 1, [], h, _ => by simp at h
  | k + 1, c :: r, h, ha => by
    have h0 : c < 128 := by simpa using ha 0 (by omega)
    rw [validR_asc h0, List.drop_succ_cons]
    exact validR_skip k r (by simpa using h) (fun i hi => by simpa using ha (i + 1) (by omega))
def inR (lo hi x : Int) : Bool := decide (lo ≤ x) && decide (x ≤ hi)
theorem first_cases : ∀ c : Fin 256, 128 ≤ c.val →
    (utf8First.getD c.val 0 = 241 ∧ (c.val < 194 ∨ 245 ≤ c.val)) ∨ (utf8First.getD c.val 0 = 2 ∧ 194 ≤ c.val ∧ c.val < 224) ∨ (utf8First.getD c.val 0 = 19 ∧ c.val = 224) ∨
    (utf8First.getD c.val 0 = 3 ∧ 225 ≤ c.val ∧ c.val < 240 ∧ c.val ≠ 237) ∨ (utf8First.getD c.val 0 = 35 ∧ c.val = 237) ∨ (utf8First.getD c.val 0 = 52 ∧ c.val = 240) ∨
    (utf8First.getD c.val 0 = 4 ∧ 241 ≤ c.val ∧ c.val < 244) ∨ (utf8First.getD c.val 0 = 68 ∧ c.val = 244) := by decide +kernel
theorem utf8First_length : utf8First.length = 256 := by decide +kernel
/-- What the tables say of a first byte. -/
def Tab (c z lo hi : Int) : Prop :=
  bits .and .u8 (utf8First.getD c.toNat 0) 7 = z ∧ (0 ≤ utf8First.getD c.toNat 0 / 2 ^ min (Int.toNat 4) IntKind.u8.bits ∧ utf8First.getD c.toNat 0 / 2 ^ min (Int.toNat 4) IntKind.u8.bits < 16) ∧
    takeN 2 ((utf8Ranges.map (AV.int .u8)).drop ((utf8First.getD c.toNat 0 / 2 ^ min (Int.toNat 4) IntKind.u8.bits).toNat * 2)) = some [.int .u8 lo, .int .u8 hi]
theorem tab_of (c : Int) (h0 : 128 ≤ c) (h1 : c < 256) :
    (Tab c 1 128 191 ∧ (c < 194 ∨ 245 ≤ c)) ∨ (Tab c 1 0 0 ∧ (c < 194 ∨ 245 ≤ c)) ∨ (Tab c 2 128 191 ∧ 194 ≤ c ∧ c < 224) ∨ (Tab c 3 160 191 ∧ c = 224) ∨ (Tab c 3 128 191 ∧ 225 ≤ c ∧ c < 240 ∧ c ≠ 237) ∨
    (Tab c 3 128 159 ∧ c = 237) ∨ (Tab c 4 144 191 ∧ c = 240) ∨ (Tab c 4 128 191 ∧ 241 ≤ c ∧ c < 244) ∨ (Tab c 4 128 143 ∧ c = 244) := by
  have h := first_cases ⟨c.toNat, by omega⟩ (by simp; omega)
  simp only at h
  unfold Tab
  rcases h with ⟨e, h⟩ | ⟨e, h⟩ | ⟨e, h⟩ | ⟨e, h⟩ | ⟨e, h⟩ | ⟨e, h⟩ | ⟨e, h⟩ | ⟨e, h⟩ <;> rw [e]
  · exact .inr (.inl ⟨⟨by decide, by decide, rfl⟩, by omega⟩)
  · exact .inr (.inr (.inl ⟨⟨by decide, by decide, rfl⟩, by omega⟩))
  · exact .inr (.inr (.inr (.inl ⟨⟨by decide, by decide, rfl⟩, by omega⟩)))
  · exact .inr (.inr (.inr (.inr (.inl ⟨⟨by decide, by decide, rfl⟩, by omega⟩))))
  · exact .inr (.inr (.inr (.inr (.inr (.inl ⟨⟨by decide, by decide, rfl⟩, by omega⟩)))))
  · exact .inr (.inr (.inr (.inr (.inr (.inr (.inl ⟨⟨by decide, by decide, rfl⟩, by omega⟩))))))
  · exact .inr (.inr (.inr (.inr (.inr (.inr (.inr (.inl ⟨⟨by decide, by decide, rfl⟩, by omega⟩)))))))
  · exact .inr (.inr (.inr (.inr (.inr (.inr (.inr (.inr ⟨⟨by decide, by decide, rfl⟩, by omega⟩)))))))
theorem bool_ext {a b : Bool} (h : a = true ↔ b = true) : a = b := by
  cases a <;> cases b <;> simp_all
/-- What is right behind a first byte, as the tables tell it. -/
theorem go_step (c : Int) (r : List Int) (hr : Byt r) (h0 : 128 ≤ c) (h1 : c < 256) : ∃ z lo hi : Int, Tab c z lo hi ∧ (0 ≤ lo ∧ lo < 256 ∧ 0 ≤ hi ∧ hi < 256) ∧
    ((z = 1 ∧ validR (c :: r) = false) ∨
     (z = 2 ∧ validR (c :: r) = (decide (1 ≤ r.length) && inR lo hi (r.getD 0 0) && validR (r.drop 1))) ∨
     (z = 3 ∧ validR (c :: r) = (decide (2 ≤ r.length) && inR lo hi (r.getD 0 0) && inR 128 191 (r.getD 1 0) && validR (r.drop 2))) ∨
     (z = 4 ∧ validR (c :: r) = (decide (3 ≤ r.length) && inR lo hi (r.getD 0 0) && inR 128 191 (r.getD 1 0) && inR 128 191 (r.getD 2 0) && validR (r.drop 3)))) := by
  have hbig := validR_big (c := c) (by omega) r
  have two : ∀ lo hi, Tab c 3 lo hi → (∀ x y : Int, (0 ≤ x ∧ x < 256) → (0 ≤ y ∧ y < 256) → ((uCont x && uCont y) = true ∧ uRight 2048 (((c % 16) * 64 + x % 64) * 64 + y % 64) = true ↔ (lo ≤ x ∧ x ≤ hi) ∧ (128 ≤ y ∧ y ≤ 191))) → 224 ≤ c → c < 240 →
      validR (c :: r) = (decide (2 ≤ r.length) && inR lo hi (r.getD 0 0) && inR 128 191 (r.getD 1 0) && validR (r.drop 2)) := by
    intro lo hi _ hk a1 a2
    have hu : uLead c = (2, c % 16, 2048) := by unfold uLead; rw [if_neg (by omega), if_pos ⟨a1, a2⟩]
    rw [hbig, hu]
    match r, hr with
    | [], _ => simp
    | [x], _ => simp
    | x :: y :: r, hr =>
      have hx := hr x (by simp)
      have hy := hr y (by simp)
      have := hk x y hx hy
      rw [if_neg (by simp)]
      apply bool_ext
      simp only [List.take_succ_cons, List.take_zero, List.all_cons, List.all_nil, Bool.and_true, uVal, List.foldl_cons, List.foldl_nil, Bool.and_eq_true, inR, decide_eq_true_eq] at this ⊢
      simp only [List.length_cons, List.getD_cons_zero, List.getD_cons_succ, List.drop_succ_cons, List.drop_zero]
      constructor
      · rintro ⟨⟨a, b⟩, d⟩
        obtain ⟨e, f⟩ := this.1 ⟨a, b⟩
        exact ⟨⟨⟨by omega, e⟩, f⟩, d⟩
      · rintro ⟨⟨⟨_, e⟩, f⟩, d⟩
        exact ⟨this.2 ⟨e, f⟩, d⟩
  have three : ∀ lo hi, Tab c 4 lo hi → (∀ x y z : Int, (0 ≤ x ∧ x < 256) → (0 ≤ y ∧ y < 256) → (0 ≤ z ∧ z < 256) → ((uCont x && (uCont y && uCont z)) = true ∧ uRight 65536 ((((c % 8) * 64 + x % 64) * 64 + y % 64) * 64 + z % 64) = true ↔ (lo ≤ x ∧ x ≤ hi) ∧ (128 ≤ y ∧ y ≤ 191) ∧ (128 ≤ z ∧ z ≤ 191))) → 240 ≤ c → c < 248 →
      validR (c :: r) = (decide (3 ≤ r.length) && inR lo hi (r.getD 0 0) && inR 128 191 (r.getD 1 0) && inR 128 191 (r.getD 2 0) && validR (r.drop 3)) := by
    intro lo hi _ hk a1 a2
    have hu : uLead c = (3, c % 8, 65536) := by unfold uLead; rw [if_neg (by omega), if_neg (by omega), if_pos ⟨a1, a2⟩]
    rw [hbig, hu]
    match r, hr with
    | [], _ => simp
    | [x], _ => simp
    | [x, y], _ => simp
    | x :: y :: z :: r, hr =>
      have hx := hr x (by simp)
      have hy := hr y (by simp)
      have hz := hr z (by simp)
      have := hk x y z hx hy hz
      rw [if_neg (by simp)]
      apply bool_ext
      simp only [List.take_succ_cons, List.take_zero, List.all_cons, List.all_nil, Bool.and_true, uVal, List.foldl_cons, List.foldl_nil, Bool.and_eq_true, inR, decide_eq_true_eq] at this ⊢
      simp only [List.length_cons, List.getD_cons_zero, List.getD_cons_succ, List.drop_succ_cons, List.drop_zero]
      constructor
      · rintro ⟨⟨a, b⟩, d⟩
        obtain ⟨e, f, g⟩ := this.1 ⟨a, b⟩
        exact ⟨⟨⟨⟨by omega, e⟩, f⟩, g⟩, d⟩
      · rintro ⟨⟨⟨⟨_, e⟩, f⟩, g⟩, d⟩
        exact ⟨this.2 ⟨e, f, g⟩, d⟩
  have bad : (c < 194 ∨ 245 ≤ c) → validR (c :: r) = false := by
    intro h
    rw [hbig]
    split
    · rfl
    rename_i hh
    simp only [not_or] at hh
    obtain ⟨g1, g2⟩ := hh
    unfold uLead at g1 g2 ⊢
    split at g1
    · rename_i k
      rw [if_pos k] at g2 ⊢
      match r, hr with
      | [], _ => simp at g2
      | x :: r, hr =>
        have hx := hr x (by simp)
        have hf : uRight 128 (c % 32 * 64 + x % 64) = false := decide_eq_false (by omega)
        simp only [List.take_succ_cons, List.take_zero, uVal, List.foldl_cons, List.foldl_nil]
        rw [hf]; simp
    split at g1
    · omega
    split at g1
    · rename_i k1 k2 k
      rw [if_neg k1, if_neg k2, if_pos k] at g2 ⊢
      match r, hr with
      | [], _ => simp at g2
      | [x], _ => simp at g2
      | [x, y], _ => simp at g2
      | x :: y :: z :: r, hr =>
        have hf : uRight 65536 (((c % 8 * 64 + x % 64) * 64 + y % 64) * 64 + z % 64) = false := decide_eq_false (by omega)
        simp only [List.take_succ_cons, List.take_zero, uVal, List.foldl_cons, List.foldl_nil]
        rw [hf]; simp
    · exact absurd rfl g1
  rcases tab_of c h0 h1 with ⟨t, h⟩ | ⟨t, h⟩ | ⟨t, h⟩ | ⟨t, h⟩ | ⟨t, h⟩ | ⟨t, h⟩ | ⟨t, h⟩ | ⟨t, h⟩ | ⟨t, h⟩
  · exact ⟨_, _, _, t, by omega, .inl ⟨rfl, bad h⟩⟩
  · exact ⟨_, _, _, t, by omega, .inl ⟨rfl, bad h⟩⟩
  · refine ⟨_, _, _, t, by omega, .inr (.inl ⟨rfl, ?_⟩)⟩
    have hu : uLead c = (1, c % 32, 128) := by unfold uLead; rw [if_pos (by omega)]
    rw [hbig, hu]
    match r, hr with
    | [], _ => simp
    | x :: r, hr =>
      have hx := hr x (by simp)
      have key : (uCont x = true ∧ uRight 128 (c % 32 * 64 + x % 64) = true) ↔ (128 ≤ x ∧ x ≤ 191) := by
        simp only [uCont, uRight, decide_eq_true_eq]
        omega
      rw [if_neg (by simp)]
      apply bool_ext
      simp only [List.take_succ_cons, List.take_zero, List.all_cons, List.all_nil, Bool.and_true, uVal, List.foldl_cons, List.foldl_nil, Bool.and_eq_true, inR, decide_eq_true_eq]
      simp only [List.length_cons, List.getD_cons_zero, List.drop_succ_cons, List.drop_zero]
      constructor
      · rintro ⟨⟨a, b⟩, d⟩; exact ⟨⟨by omega, key.1 ⟨a, b⟩⟩, d⟩
      · rintro ⟨⟨_, e⟩, d⟩; exact ⟨key.2 e, d⟩
  · exact ⟨_, _, _, t, by omega, .inr (.inr (.inl ⟨rfl, two _ _ t (fun x y hx hy => by simp only [uCont, uRight, Bool.and_eq_true, decide_eq_true_eq]; omega) (by omega) (by omega)⟩))⟩
  · exact ⟨_, _, _, t, by omega, .inr (.inr (.inl ⟨rfl, two _ _ t (fun x y hx hy => by simp only [uCont, uRight, Bool.and_eq_true, decide_eq_true_eq]; omega) (by omega) (by omega)⟩))⟩
  · exact ⟨_, _, _, t, by omega, .inr (.inr (.inl ⟨rfl, two _ _ t (fun x y hx hy => by simp only [uCont, uRight, Bool.and_eq_true, decide_eq_true_eq]; omega) (by omega) (by omega)⟩))⟩
  · exact ⟨_, _, _, t, by omega, .inr (.inr (.inr ⟨rfl, three _ _ t (fun x y z hx hy hz => by simp only [uCont, uRight, Bool.and_eq_true, decide_eq_true_eq]; omega) (by omega) (by omega)⟩))⟩
  · exact ⟨_, _, _, t, by omega, .inr (.inr (.inr ⟨rfl, three _ _ t (fun x y z hx hy hz => by simp only [uCont, uRight, Bool.and_eq_true, decide_eq_true_eq]; omega) (by omega) (by omega)⟩))⟩
  · exact ⟨_, _, _, t, by omega, .inr (.inr (.inr ⟨rfl, three _ _ t (fun x y z hx hy hz => by simp only [uCont, uRight, Bool.and_eq_true, decide_eq_true_eq]; omega) (by omega) (by omega)⟩))⟩
end Go.Proofs.YtelnlfhdaelfdaaDoor.Abs
end
section
set_option linter.unusedVariables false
set_option linter.unusedSimpArgs false
namespace Go.Proofs.YtelnlfhdaelfdaaDoor.Abs
open Go
attribute [local irreducible] ifB fitP Does Weaker
def PLvalid : Nat → Bool × Plan := plans [(8, (false, takesTo [0, 1, 2, 3, 4, 6, 7] (.all [(5, .all [(8, takes [9, 10, 11, 12])])]))),
  (10, (false, takesTo [0, 1, 2, 3, 4, 6, 7, 10, 11, 13, 14] (.all [(5, .all [(8, takesTo [9] (.all [(12, .all [(15, takes [16, 17, 18, 19, 20])])]))])]))),
  (18, (true, takes (List.range 19))), (22, (true, takes (List.range 31))), (26, (true, takes (List.range 43)))]
/-- Eight bytes without a highest bit. -/
theorem asc_of_word {W : Nat} (hW : W < 18446744073709551616) {s : List Int} (hs : 8 ≤ s.length) (hb : hiBits W (fun i => s.getD i 0)) (h : bits .and .u64 (W : Int) 9259542123273814144 = 0) : ∀ i, i < 8 → s.getD i 0 < 128 := by
  intro i hi
  have e : bits .and .u64 (W : Int) ((9259542123273814144 : Nat) : Int) = ((W &&& 9259542123273814144 : Nat) : Int) := and_u64 W 9259542123273814144 hW (by decide)
  have h' : bits .and .u64 (W : Int) ((9259542123273814144 : Nat) : Int) = 0 := h
  rw [e] at h'
  have h0 : W &&& 9259542123273814144 = 0 := by omega
  have hbit := congrArg (fun n => n.testBit (8 * i + 7)) h0
  simp only [Nat.testBit_and, Nat.zero_testBit] at hbit
  have hm : (9259542123273814144 : Nat).testBit (8 * i + 7) = true := by
    have hc : i = 0 ∨ i = 1 ∨ i = 2 ∨ i = 3 ∨ i = 4 ∨ i = 5 ∨ i = 6 ∨ i = 7 := by omega
    rcases hc with rfl | rfl | rfl | rfl | rfl | rfl | rfl | rfl <;> decide
  rw [hm, Bool.and_true, hb i hi] at hbit
  simpa using hbit
theorem and0_or {a b : Nat} (ha : a < 18446744073709551616) (hb : b < 18446744073709551616) (h : bits .and .u64 (bits .or .u64 (a : Int) (b : Int)) 9259542123273814144 = 0) :
    bits .and .u64 (a : Int) 9259542123273814144 = 0 ∧ bits .and .u64 (b : Int) 9259542123273814144 = 0 := by
  obtain ⟨e1, e2⟩ := or_u64 a b ha hb
  rw [e1] at h
  have e3 : bits .and .u64 ((a ||| b : Nat) : Int) ((9259542123273814144 : Nat) : Int) = _ := and_u64 _ 9259542123273814144 e2 (by decide)
  have h' : bits .and .u64 ((a ||| b : Nat) : Int) ((9259542123273814144 : Nat) : Int) = 0 := h
  rw [e3, Nat.and_or_distrib_right] at h'
  have h0 : (a &&& 9259542123273814144) ||| (b &&& 9259542123273814144) = 0 := by omega
  obtain ⟨h1, h2⟩ := Nat.or_eq_zero_iff.1 h0
  have f1 : bits .and .u64 (a : Int) ((9259542123273814144 : Nat) : Int) = _ := and_u64 a 9259542123273814144 ha (by decide)
  have f2 : bits .and .u64 (b : Int) ((9259542123273814144 : Nat) : Int) = _ := and_u64 b 9259542123273814144 hb (by decide)
  rw [h1] at f1
  rw [h2] at f2
  exact ⟨f1, f2⟩
theorem and0_or4 {a b c d : Nat} (ha : a < 18446744073709551616) (hb : b < 18446744073709551616) (hc : c < 18446744073709551616) (hd : d < 18446744073709551616)
    (h : bits .and .u64 (bits .or .u64 (bits .or .u64 (a : Int) (b : Int)) (bits .or .u64 (c : Int) (d : Int))) 9259542123273814144 = 0) :
    (bits .and .u64 (a : Int) 9259542123273814144 = 0 ∧ bits .and .u64 (b : Int) 9259542123273814144 = 0) ∧ (bits .and .u64 (c : Int) 9259542123273814144 = 0 ∧ bits .and .u64 (d : Int) 9259542123273814144 = 0) := by
  obtain ⟨e1, l1⟩ := or_u64 a b ha hb
  obtain ⟨e2, l2⟩ := or_u64 c d hc hd
  rw [e1, e2] at h
  obtain ⟨h1, h2⟩ := and0_or l1 l2 h
  rw [← e1] at h1
  rw [← e2] at h2
  exact ⟨and0_or ha hb h1, and0_or hc hd h2⟩
theorem pureL_cut' {cs : List AV} (h : pureL cs = true) (lo hi : Option Int) (sz : Nat) : pureL (cutB cs lo hi sz) = true := by
  cases lo <;> cases hi <;> simp only [cutB] <;> first | exact h | exact pureL_take h _ | exact pureL_drop h _ | exact pureL_take (pureL_drop h _) _
theorem byt_drop {b : List Int} (hb : Byt b) (n : Nat) : Byt (b.drop n) := fun y hy => hb y (List.mem_of_mem_drop hy)
theorem valid_ok (b : List Int) (hb : Byt b) (hl : b.length ≤ 1099511627776) : ACall Tryd.prog 127 [.ro b.length (bys b)] (.bool (validR b)) [] := by
  refine ACall.of_does TTok Tryd.func127 rfl Tryd.call127 rfl (wpc_sound (M := MC) (PL := PLvalid) (CU := noCut) TTok mixed _ _ _ ?_)
  conv => whnf
  repeat ((refine And.intro (by first | omega | rfl | (dsimp only; omega)) ?_); conv => whnf)
  refine Does.loop (fun s : List Int => mkSt [(0, .ro s.length (bys s))] [] 0 188) (fun s => Byt s ∧ s.length ≤ 1099511627776 ∧ validR s = validR b) (fun s => s.length) ?_ b ⟨hb, hl, rfl⟩ ?_
  · rintro s ⟨hs, hsl, hv⟩
    refine wpc_sound (M := MC) (PL := PLvalid) (CU := cutAt [200014]) TTok mixed _ _ _ ?_
    conv => whnf
    refine ifB_dec (fun k1 => ?_) (fun k1 => ?_)
    · match s, hs, k1 with
      | c :: r, hs, k1 =>
      have hc := hs c (by simp)
      have hr : Byt r := fun x hx => hs x (by simp [hx])
      conv => whnf
      repeat ((first | refine ⟨_, rfl, ?_⟩ | (refine ⟨⟨?_, ?_, ?_⟩, ?_⟩; (focus omega); (focus (first | omega | (simp; done) | (simp; omega))); (focus (first | (simp; done) | (simp; omega) | (rw [toksC_length]; simp; omega))))); conv => whnf)
      refine ifB_dec (fun k2 => ?_) (fun k2 => ?_)
      · have hvr : validR r = validR b := by rw [← validR_asc k2 r]; exact hv
        conv => whnf
        repeat ((refine ⟨⟨?_, ?_⟩, ?_⟩; (focus (simp; done)); (focus (first | (simp only [okB]; omega) | (simp [okB]; omega)))); conv => whnf)
        refine ifB_dec (fun k3 => ?_) (fun k3 => ?_)
        · have k3' : 8 < r.length := by simp [lenB] at k3; omega
          obtain ⟨W1, hw1, hW1, hb1⟩ := word_ok r (by omega) hr
          conv => whnf
          repeat ((first | refine ifB_t ?_ | refine ⟨pureL_bys _, ?_⟩ | refine ⟨rfl, ?_⟩); conv => whnf)
          refine ⟨_, _, ACall.arg1 hw1 rfl rfl, by first | rfl | simp [noRoIf, noRoL, noRoV, noRoL_bys], ?_⟩
          conv => whnf
          repeat ((refine ifB_t ?_); conv => whnf)
          refine ifB_dec (fun k4 => ?_) (fun k4 => ?_)
          · have hv8 : validR (r.drop 8) = validR b := by
              rw [validR_skip 8 r (by omega) (asc_of_word hW1 (by omega) hb1 k4)]
              exact hvr
            conv => whnf
            repeat ((first | refine ifB_t ?_ | refine ifB_f ?_); conv => whnf)
            refine ⟨⟨by simp [lenB, cutB], by simp [okB, lenB]; omega⟩, ?_⟩
            conv => whnf
            repeat ((first | refine ifB_t ?_ | refine ifB_f ?_); conv => whnf)
            refine ⟨by kernel_rfl, ?_⟩
            conv => whnf
            refine ifB_dec (fun k5 => ?_) (fun k5 => ?_)
            · have k5' : 16 < (r.drop 8).length := by
                have : (16 : Int) < ((r.length - 8 : Nat) : Int) := k5
                rw [List.length_drop]
                omega
              have k5'' : 24 < r.length := by rw [List.length_drop] at k5'; omega
              obtain ⟨W2, hw2, hW2, hb2⟩ := word_ok (r.drop 8) (by omega) (byt_drop hr 8)
              obtain ⟨W3, hw3, hW3, hb3⟩ := word_ok ((r.drop 8).drop 8) (by rw [List.length_drop]; omega) (byt_drop (byt_drop hr 8) 8)
              conv => whnf
              repeat ((first | refine ifB_t ?_ | refine ifB_f ?_); conv => whnf)
              refine ⟨⟨by simp [lenB, cutB], by simp [okB, lenB]; omega⟩, ?_⟩
              conv => whnf
              repeat ((first | refine ifB_t ?_ | refine ifB_f ?_); conv => whnf)
              refine ⟨pureL_cut' (pureL_cut' (pureL_bys _) _ _ _) _ _ _, ?_⟩
              conv => whnf
              repeat ((first | refine ifB_t ?_ | refine ifB_f ?_); conv => whnf)
              refine ⟨rfl, ?_⟩
              conv => whnf
              repeat ((first | refine ifB_t ?_ | refine ifB_f ?_); conv => whnf)
              conv => whnf
              repeat ((first | refine ifB_t ?_ | refine ifB_f ?_); conv => whnf)
              refine ⟨_, _, ACall.arg1 hw2 List.length_drop.symm (bys_drop r 8), rfl, ?_⟩
              conv => whnf
              repeat ((first | refine ifB_t ?_ | refine ifB_f ?_); conv => whnf)
              refine ⟨pureL_cut' (pureL_cut' (pureL_cut' (pureL_bys _) _ _ _) _ _ _) _ _ _, ?_⟩
              conv => whnf
              repeat ((first | refine ifB_t ?_ | refine ifB_f ?_); conv => whnf)
              refine ⟨rfl, ?_⟩
              conv => whnf
              repeat ((first | refine ifB_t ?_ | refine ifB_f ?_); conv => whnf)
              refine ⟨_, _, ACall.arg1 hw3 (by simp [lenB]; omega) (by show ((bys r).drop 8).drop 8 = _; rw [bys_drop, bys_drop]), rfl, ?_⟩
              conv => whnf
              repeat ((first | refine ifB_t ?_ | refine ifB_f ?_); conv => whnf)
              refine ifB_dec (fun k6 => ?_) (fun k6 => ?_)
              · obtain ⟨a2, a3⟩ := and0_or hW2 hW3 k6
                have hv24 : validR (((r.drop 8).drop 8).drop 8) = validR b := by
                  rw [validR_skip 8 _ (by simp; omega) (asc_of_word hW3 (by simp; omega) hb3 a3), validR_skip 8 _ (by omega) (asc_of_word hW2 (by omega) hb2 a2)]
                  exact hv8
                conv => whnf
                repeat ((first | refine ifB_t ?_ | refine ifB_f ?_); conv => whnf)
                refine ⟨⟨by simp [lenB, cutB], by simp [okB, lenB]; omega⟩, ?_⟩
                conv => whnf
                repeat ((first | refine ifB_t ?_ | refine ifB_f ?_); conv => whnf)
                refine Does.loop (fun s : List Int => mkSt [(0, .ro s.length (bys s))] [] 0 188) (fun s => Byt s ∧ s.length ≤ r.length ∧ validR s = validR b) (fun s => s.length) ?_ (((r.drop 8).drop 8).drop 8) ⟨byt_drop (byt_drop (byt_drop hr 8) 8) 8, by simp, hv24⟩ ?_
                · rintro s ⟨is, isl, iv⟩
                  refine wpc_sound (M := MC) (PL := PLvalid) (CU := noCut) TTok mixed _ _ _ ?_
                  conv => whnf
                  repeat ((first | refine ifB_t ?_ | refine ifB_f ?_); conv => whnf)
                  refine ⟨by kernel_rfl, ?_⟩
                  conv => whnf
                  refine ifB_dec (fun k7 => ?_) (fun k7 => ?_)
                  · have k7' : 32 < s.length := by omega
                    obtain ⟨V1, v1, V1l, c1⟩ := word_ok s (by omega) is
                    obtain ⟨V2, v2, V2l, c2⟩ := word_ok (s.drop 8) (by simp; omega) (byt_drop is 8)
                    obtain ⟨V3, v3, V3l, c3⟩ := word_ok (s.drop 16) (by simp; omega) (byt_drop is 16)
                    obtain ⟨V4, v4, V4l, c4⟩ := word_ok (s.drop 24) (by simp; omega) (byt_drop is 24)
                    conv => whnf
                    repeat ((first | refine ifB_t ?_ | refine ⟨pureL_bys _, ?_⟩ | refine ⟨rfl, ?_⟩ | (refine ⟨⟨?_, ?_⟩, ?_⟩; (focus (simp; done)); (focus (first | (simp only [okB]; omega) | (simp [okB]; omega))))); conv => whnf)
                    refine ⟨_, _, v1, by first | rfl | simp [noRoIf, noRoL, noRoV, noRoL_bys], ?_⟩
                    conv => whnf
                    repeat ((first | refine ifB_t ?_ | refine ⟨pureL_cutB _ _ _ _, ?_⟩ | refine ⟨rfl, ?_⟩); conv => whnf)
                    refine ⟨_, _, ACall.arg1 v2 (by simp [lenB]) (by show (bys s).drop 8 = _; rw [bys_drop]), rfl, ?_⟩
                    conv => whnf
                    repeat ((first | refine ifB_t ?_ | refine ⟨pureL_cutB _ _ _ _, ?_⟩ | refine ⟨rfl, ?_⟩); conv => whnf)
                    refine ⟨_, _, ACall.arg1 v3 (by simp [lenB]) (by show (bys s).drop 16 = _; rw [bys_drop]), rfl, ?_⟩
                    conv => whnf
                    repeat ((first | refine ifB_t ?_ | refine ⟨pureL_cutB _ _ _ _, ?_⟩ | refine ⟨rfl, ?_⟩); conv => whnf)
                    refine ⟨_, _, ACall.arg1 v4 (by simp [lenB]) (by show (bys s).drop 24 = _; rw [bys_drop]), rfl, ?_⟩
                    conv => whnf
                    repeat ((first | refine ifB_t ?_ | refine ifB_f ?_); conv => whnf)
                    refine ifB_dec (fun k8 => ?_) (fun k8 => ?_)
                    · obtain ⟨⟨x1, x2⟩, ⟨x3, x4⟩⟩ := and0_or4 V1l V2l V3l V4l k8
                      have hv32 : validR (s.drop 32) = validR b := by
                        have y1 := validR_skip 8 s (by omega) (asc_of_word V1l (by omega) c1 x1)
                        have y2 := validR_skip 8 (s.drop 8) (by simp; omega) (asc_of_word V2l (by simp; omega) c2 x2)
                        have y3 := validR_skip 8 (s.drop 16) (by simp; omega) (asc_of_word V3l (by simp; omega) c3 x3)
                        have y4 := validR_skip 8 (s.drop 24) (by simp; omega) (asc_of_word V4l (by simp; omega) c4 x4)
                        rw [List.drop_drop] at y2 y3 y4
                        rw [y4, y3, y2, y1]
                        exact iv
                      conv => whnf
                      repeat ((first | refine ifB_t ?_ | refine ifB_f ?_); conv => whnf)
                      refine ⟨⟨by simp, by simp [okB]; omega⟩, ?_⟩
                      conv => whnf
                      repeat ((first | refine ifB_t ?_ | refine ifB_f ?_); conv => whnf)
                      refine ⟨s.drop 32, ⟨byt_drop is 32, by simp; omega, hv32⟩, by simp; omega, weaker_of [] rfl rfl ⟨⟨by simp [lenB], by show (bys s).drop 32 = _; rw [bys_drop], pureL_bys _⟩, trivial⟩ trivial⟩
                    · conv => whnf
                      repeat ((first | refine ifB_t ?_ | refine ifB_f ?_); conv => whnf)
                      refine ⟨s, ⟨is, by simp at hsl ⊢; omega, iv⟩, by simp; omega, weaker_of [] rfl rfl ⟨⟨rfl, rfl, pureL_bys _⟩, trivial⟩ trivial⟩
                  · conv => whnf
                    repeat ((first | refine ifB_t ?_ | refine ifB_f ?_); conv => whnf)
                    refine ⟨s, ⟨is, by simp at hsl ⊢; omega, iv⟩, by simp; omega, weaker_of [] rfl rfl ⟨⟨rfl, rfl, pureL_bys _⟩, trivial⟩ trivial⟩
                · exact weaker_of [] rfl rfl ⟨⟨by simp [lenB]; omega, by show ((bys r).drop 8).drop 16 = _; rw [bys_drop, bys_drop]; simp [List.drop_drop], pureL_bys _⟩, trivial⟩ trivial
              · conv => whnf
                repeat ((first | refine ifB_t ?_ | refine ifB_f ?_); conv => whnf)
                refine ⟨r.drop 8, ⟨byt_drop hr 8, by simp at hsl ⊢; omega, hv8⟩, by simp; omega, weaker_of [] rfl rfl ⟨⟨List.length_drop.symm, bys_drop r 8, pureL_bys _⟩, trivial⟩ trivial⟩
            · conv => whnf
              repeat ((first | refine ifB_t ?_ | refine ifB_f ?_); conv => whnf)
              refine ⟨r.drop 8, ⟨byt_drop hr 8, by simp at hsl ⊢; omega, hv8⟩, by simp; omega, weaker_of [] rfl rfl ⟨⟨List.length_drop.symm, bys_drop r 8, pureL_bys _⟩, trivial⟩ trivial⟩
          · conv => whnf
            repeat ((first | refine ifB_t ?_ | refine ifB_f ?_); conv => whnf)
            refine ⟨r, ⟨hr, by simp at hsl; omega, hvr⟩, by simp, weaker_of [] rfl rfl ⟨⟨rfl, rfl, pureL_bys _⟩, trivial⟩ trivial⟩
        · conv => whnf
          repeat ((first | refine ifB_t ?_ | refine ifB_f ?_); conv => whnf)
          refine ⟨r, ⟨hr, by simp at hsl; omega, hvr⟩, by simp, weaker_of [] rfl rfl ⟨⟨rfl, rfl, pureL_bys _⟩, trivial⟩ trivial⟩
      · obtain ⟨z, lo, hi, ⟨t1, t2, t3⟩, hlh, hz⟩ := go_step c r hr (by omega) hc.2
        rw [hv] at hz
        have hfl := utf8First_length
        conv => whnf
        repeat ((refine And.intro (by first | omega | rfl | (dsimp only; omega)) ?_); conv => whnf)
        refine ⟨_, get_intsM (c := c.toNat) (by rw [hfl]; omega) (by simp), ?_⟩
        conv => whnf
        repeat ((refine fit_i64 ⟨by first | omega | rfl | (dsimp only; omega), by first | omega | rfl | (dsimp only; omega)⟩ ?_); conv => whnf)
        refine Does.seqCut (α := Unit) (fun _ => mkSt [(0, .ro (c :: r).length (bys (c :: r))), (5, .int .i64 z), (6, .ptr 0 0)] [(0, [.int .u8 lo, .int .u8 hi])] 1 188) (fun _ => True) ?_ (fun _ _ => ?_)
        · refine wpc_sound (M := MC) (PL := PLvalid) (CU := noCut) TTok mixed _ _ _ ?_
          conv => whnf
          repeat ((first | refine ifB_t ?_ | refine ifB_f ?_); conv => whnf)
          refine ⟨by omega, ?_⟩
          conv => whnf
          repeat ((first | refine ifB_t ?_ | refine ifB_f ?_); conv => whnf)
          refine ⟨⟨t2.1, t2.2⟩, ?_⟩
          conv => whnf
          repeat ((first | refine ifB_t ?_ | refine ifB_f ?_); conv => whnf)
          refine ⟨_, t3, ?_⟩
          conv => whnf
          repeat ((first | refine ifB_t ?_ | refine ifB_f ?_); conv => whnf)
          conv => whnf
          repeat ((first | refine ⟨rfl, ?_⟩ | (refine ⟨⟨rfl, rfl, ?_⟩, ?_⟩; (focus (first | exact Nat.le_of_ble_eq_true rfl | (simp; done))))); conv => whnf)
          refine ⟨(), trivial, weaker_of [(0, 0)] rfl rfl ?_ ?_⟩
          · exact ⟨⟨rfl, rfl, pureL_bys _⟩, leP_int t1, ⟨rfl, rfl⟩, trivial⟩
          · exact ⟨⟨⟨rfl, rfl⟩, ⟨rfl, rfl⟩, trivial⟩, trivial⟩
        · refine wpc_sound (M := MC) (PL := PLvalid) (CU := noCut) TTok mixed _ _ _ ?_
          rcases hz with ⟨rfl, hz⟩ | ⟨rfl, hz⟩ | ⟨rfl, hz⟩ | ⟨rfl, hz⟩
          · rw [hz]
            conv => whnf
            repeat ((first | refine ifB_f ?_ | refine ⟨rfl, ?_⟩); conv => whnf)
            rfl
          · conv => whnf
            repeat ((first | refine ifB_t ?_ | refine ifB_f ?_); conv => whnf)
            refine ⟨by kernel_rfl, ?_⟩
            match r, hr, hz, hs, k1, hsl with
            | [], hr, hz, hs, k1, hsl =>
              have hf : validR b = false := by rw [hz]; simp
              rw [hf]
              conv => whnf
              repeat ((first | refine ifB_t ?_ | refine ⟨rfl, ?_⟩); conv => whnf)
              rfl
            | x :: r, hr, hz, hs, k1, hsl =>
              conv => whnf
              repeat ((first | refine ifB_f ?_ | refine ⟨_, rfl, ?_⟩ | (refine ⟨⟨?_, ?_, ?_⟩, ?_⟩; (focus omega); (focus (first | omega | (simp; done) | (simp; omega))); (focus (first | (simp; done) | (simp; omega) | (rw [toksC_length]; simp; omega))))); conv => whnf)
              refine ifB_dec (fun h1 => ?_) (fun h1 => ?_)
              · rw [show validR b = false from by rw [hz]; simp [inR]; omega]
                conv => whnf
                repeat ((first | refine ifB_t ?_ | refine ⟨rfl, ?_⟩); conv => whnf)
                rfl
              conv => whnf
              repeat ((first | refine ifB_f ?_ | refine ⟨_, rfl, ?_⟩ | (refine ⟨⟨?_, ?_, ?_⟩, ?_⟩; (focus omega); (focus (first | omega | (simp; done) | (simp; omega))); (focus (first | (simp; done) | (simp; omega) | (rw [toksC_length]; simp; omega))))); conv => whnf)
              refine ifB_dec (fun h2 => ?_) (fun h2 => ?_)
              · rw [show validR b = false from by rw [hz]; simp [inR]; omega]
                conv => whnf
                repeat ((refine ⟨rfl, ?_⟩); conv => whnf)
                rfl
              conv => whnf
              repeat ((refine ⟨⟨?_, ?_⟩, ?_⟩; (focus (simp; done)); (focus (first | (simp only [okB]; omega) | (simp [okB]; omega)))); conv => whnf)
              have hvv : validR r = validR b := by rw [hz]; simp [inR, show lo ≤ x by omega, show x ≤ hi by omega]
              first
              | exact ⟨⟨fun z hz' => hs z (by simp [hz']), by simp at hsl; omega, hvv⟩, by simp; omega, weaker_of [] rfl rfl ⟨⟨rfl, rfl, pureL_bys _⟩, trivial⟩ trivial⟩
              | exact ⟨r, ⟨fun z hz' => hs z (by simp [hz']), by simp at hsl; omega, hvv⟩, by simp; omega, weaker_of [] rfl rfl ⟨⟨rfl, rfl, pureL_bys _⟩, trivial⟩ trivial⟩
          · conv => whnf
            repeat ((first | refine ifB_t ?_ | refine ifB_f ?_); conv => whnf)
            refine ⟨by kernel_rfl, ?_⟩
            match r, hr, hz, hs, k1, hsl with
            | [], hr, hz, hs, k1, hsl =>
              have hf : validR b = false := by rw [hz]; simp
              rw [hf]
              conv => whnf
              repeat ((first | refine ifB_t ?_ | refine ⟨rfl, ?_⟩); conv => whnf)
              rfl
            | [x], hr, hz, hs, k1, hsl =>
              have hf : validR b = false := by rw [hz]; simp
              rw [hf]
              conv => whnf
              repeat ((first | refine ifB_t ?_ | refine ⟨rfl, ?_⟩); conv => whnf)
              rfl
            | x :: y :: r, hr, hz, hs, k1, hsl =>
              conv => whnf
              repeat ((first | refine ifB_f ?_ | refine ⟨_, rfl, ?_⟩ | (refine ⟨⟨?_, ?_, ?_⟩, ?_⟩; (focus omega); (focus (first | omega | (simp; done) | (simp; omega))); (focus (first | (simp; done) | (simp; omega) | (rw [toksC_length]; simp; omega))))); conv => whnf)
              refine ifB_dec (fun h1 => ?_) (fun h1 => ?_)
              · rw [show validR b = false from by rw [hz]; simp [inR]; omega]
                conv => whnf
                repeat ((first | refine ifB_t ?_ | refine ⟨rfl, ?_⟩); conv => whnf)
                rfl
              conv => whnf
              repeat ((first | refine ifB_f ?_ | refine ⟨_, rfl, ?_⟩ | (refine ⟨⟨?_, ?_, ?_⟩, ?_⟩; (focus omega); (focus (first | omega | (simp; done) | (simp; omega))); (focus (first | (simp; done) | (simp; omega) | (rw [toksC_length]; simp; omega))))); conv => whnf)
              refine ifB_dec (fun h2 => ?_) (fun h2 => ?_)
              · rw [show validR b = false from by rw [hz]; simp [inR]; omega]
                conv => whnf
                repeat ((first | refine ifB_t ?_ | refine ⟨rfl, ?_⟩); conv => whnf)
                rfl
              conv => whnf
              repeat ((first | refine ifB_f ?_ | refine ⟨_, rfl, ?_⟩ | (refine ⟨⟨?_, ?_, ?_⟩, ?_⟩; (focus omega); (focus (first | omega | (simp; done) | (simp; omega))); (focus (first | (simp; done) | (simp; omega) | (rw [toksC_length]; simp; omega))))); conv => whnf)
              refine ifB_dec (fun h3 => ?_) (fun h3 => ?_)
              · rw [show validR b = false from by rw [hz]; simp [inR]; omega]
                conv => whnf
                repeat ((first | refine ifB_t ?_ | refine ⟨rfl, ?_⟩); conv => whnf)
                rfl
              conv => whnf
              repeat ((first | refine ifB_f ?_ | refine ⟨_, rfl, ?_⟩ | (refine ⟨⟨?_, ?_, ?_⟩, ?_⟩; (focus omega); (focus (first | omega | (simp; done) | (simp; omega))); (focus (first | (simp; done) | (simp; omega) | (rw [toksC_length]; simp; omega))))); conv => whnf)
              refine ifB_dec (fun h4 => ?_) (fun h4 => ?_)
              · rw [show validR b = false from by rw [hz]; simp [inR]; omega]
                conv => whnf
                repeat ((refine ⟨rfl, ?_⟩); conv => whnf)
                rfl
              conv => whnf
              repeat ((refine ⟨⟨?_, ?_⟩, ?_⟩; (focus (simp; done)); (focus (first | (simp only [okB]; omega) | (simp [okB]; omega)))); conv => whnf)
              have hvv : validR r = validR b := by rw [hz]; simp [inR, show lo ≤ x by omega, show x ≤ hi by omega, show 128 ≤ y by omega, show y ≤ 191 by omega]
              first
              | exact ⟨⟨fun z hz' => hs z (by simp [hz']), by simp at hsl; omega, hvv⟩, by simp; omega, weaker_of [] rfl rfl ⟨⟨rfl, rfl, pureL_bys _⟩, trivial⟩ trivial⟩
              | exact ⟨r, ⟨fun z hz' => hs z (by simp [hz']), by simp at hsl; omega, hvv⟩, by simp; omega, weaker_of [] rfl rfl ⟨⟨rfl, rfl, pureL_bys _⟩, trivial⟩ trivial⟩
          · conv => whnf
            repeat ((first | refine ifB_t ?_ | refine ifB_f ?_); conv => whnf)
            refine ⟨by kernel_rfl, ?_⟩
            match r, hr, hz, hs, k1, hsl with
            | [], hr, hz, hs, k1, hsl =>
              have hf : validR b = false := by rw [hz]; simp
              rw [hf]
              conv => whnf
              repeat ((first | refine ifB_t ?_ | refine ⟨rfl, ?_⟩); conv => whnf)
              rfl
            | [x], hr, hz, hs, k1, hsl =>
              have hf : validR b = false := by rw [hz]; simp
              rw [hf]
              conv => whnf
              repeat ((first | refine ifB_t ?_ | refine ⟨rfl, ?_⟩); conv => whnf)
              rfl
            | [x, y], hr, hz, hs, k1, hsl =>
              have hf : validR b = false := by rw [hz]; simp
              rw [hf]
              conv => whnf
              repeat ((first | refine ifB_t ?_ | refine ⟨rfl, ?_⟩); conv => whnf)
              rfl
            | x :: y :: w :: r, hr, hz, hs, k1, hsl =>
              conv => whnf
              repeat ((first | refine ifB_f ?_ | refine ⟨_, rfl, ?_⟩ | (refine ⟨⟨?_, ?_, ?_⟩, ?_⟩; (focus omega); (focus (first | omega | (simp; done) | (simp; omega))); (focus (first | (simp; done) | (simp; omega) | (rw [toksC_length]; simp; omega))))); conv => whnf)
              refine ifB_dec (fun h1 => ?_) (fun h1 => ?_)
              · rw [show validR b = false from by rw [hz]; simp [inR]; omega]
                conv => whnf
                repeat ((first | refine ifB_t ?_ | refine ⟨rfl, ?_⟩); conv => whnf)
                rfl
              conv => whnf
              repeat ((first | refine ifB_f ?_ | refine ⟨_, rfl, ?_⟩ | (refine ⟨⟨?_, ?_, ?_⟩, ?_⟩; (focus omega); (focus (first | omega | (simp; done) | (simp; omega))); (focus (first | (simp; done) | (simp; omega) | (rw [toksC_length]; simp; omega))))); conv => whnf)
              refine ifB_dec (fun h2 => ?_) (fun h2 => ?_)
              · rw [show validR b = false from by rw [hz]; simp [inR]; omega]
                conv => whnf
                repeat ((first | refine ifB_t ?_ | refine ⟨rfl, ?_⟩); conv => whnf)
                rfl
              conv => whnf
              repeat ((first | refine ifB_f ?_ | refine ⟨_, rfl, ?_⟩ | (refine ⟨⟨?_, ?_, ?_⟩, ?_⟩; (focus omega); (focus (first | omega | (simp; done) | (simp; omega))); (focus (first | (simp; done) | (simp; omega) | (rw [toksC_length]; simp; omega))))); conv => whnf)
              refine ifB_dec (fun h3 => ?_) (fun h3 => ?_)
              · rw [show validR b = false from by rw [hz]; simp [inR]; omega]
                conv => whnf
                repeat ((first | refine ifB_t ?_ | refine ⟨rfl, ?_⟩); conv => whnf)
                rfl
              conv => whnf
              repeat ((first | refine ifB_f ?_ | refine ⟨_, rfl, ?_⟩ | (refine ⟨⟨?_, ?_, ?_⟩, ?_⟩; (focus omega); (focus (first | omega | (simp; done) | (simp; omega))); (focus (first | (simp; done) | (simp; omega) | (rw [toksC_length]; simp; omega))))); conv => whnf)
              refine ifB_dec (fun h4 => ?_) (fun h4 => ?_)
              · rw [show validR b = false from by rw [hz]; simp [inR]; omega]
                conv => whnf
                repeat ((first | refine ifB_t ?_ | refine ⟨rfl, ?_⟩); conv => whnf)
                rfl
              conv => whnf
              repeat ((first | refine ifB_f ?_ | refine ⟨_, rfl, ?_⟩ | (refine ⟨⟨?_, ?_, ?_⟩, ?_⟩; (focus omega); (focus (first | omega | (simp; done) | (simp; omega))); (focus (first | (simp; done) | (simp; omega) | (rw [toksC_length]; simp; omega))))); conv => whnf)
              refine ifB_dec (fun h5 => ?_) (fun h5 => ?_)
              · rw [show validR b = false from by rw [hz]; simp [inR]; omega]
                conv => whnf
                repeat ((first | refine ifB_t ?_ | refine ⟨rfl, ?_⟩); conv => whnf)
                rfl
              conv => whnf
              repeat ((first | refine ifB_f ?_ | refine ⟨_, rfl, ?_⟩ | (refine ⟨⟨?_, ?_, ?_⟩, ?_⟩; (focus omega); (focus (first | omega | (simp; done) | (simp; omega))); (focus (first | (simp; done) | (simp; omega) | (rw [toksC_length]; simp; omega))))); conv => whnf)
              refine ifB_dec (fun h6 => ?_) (fun h6 => ?_)
              · rw [show validR b = false from by rw [hz]; simp [inR]; omega]
                conv => whnf
                repeat ((refine ⟨rfl, ?_⟩); conv => whnf)
                rfl
              conv => whnf
              repeat ((refine ⟨⟨?_, ?_⟩, ?_⟩; (focus (simp; done)); (focus (first | (simp only [okB]; omega) | (simp [okB]; omega)))); conv => whnf)
              have hvv : validR r = validR b := by rw [hz]; simp [inR, show lo ≤ x by omega, show x ≤ hi by omega, show 128 ≤ y by omega, show y ≤ 191 by omega, show 128 ≤ w by omega, show w ≤ 191 by omega]
              first
              | exact ⟨⟨fun z hz' => hs z (by simp [hz']), by simp at hsl; omega, hvv⟩, by simp; omega, weaker_of [] rfl rfl ⟨⟨rfl, rfl, pureL_bys _⟩, trivial⟩ trivial⟩
              | exact ⟨r, ⟨fun z hz' => hs z (by simp [hz']), by simp at hsl; omega, hvv⟩, by simp; omega, weaker_of [] rfl rfl ⟨⟨rfl, rfl, pureL_bys _⟩, trivial⟩ trivial⟩
    · have h0 : s = [] := List.length_eq_zero_iff.1 (by omega)
      subst h0
      rw [← hv]
      conv => whnf
      repeat ((refine ⟨rfl, ?_⟩); conv => whnf)
      rfl
  · exact weaker_of [] rfl rfl ⟨⟨by simp, by simp; exact List.take_of_length_le (by simp), pureL_bys _⟩, trivial⟩ trivial
theorem utf8_ok (b : List Int) (hb : Byt b) (hl : b.length ≤ 1099511627776) : ACall Tryd.prog 116 [.ro b.length (bys b)] (.bool (validR b)) [] := by
  refine ACall.of_does TTok Tryd.func116 rfl Tryd.call116 rfl (wpc_sound (M := MC) (PL := PL0) (CU := noCut) TTok mixed _ _ _ ?_)
  conv => whnf
  repeat ((first | refine ⟨pureL_bys _, ?_⟩ | refine ⟨rfl, ?_⟩); conv => whnf)
  refine ⟨_, _, valid_ok b hb hl, by first | rfl | simp [noRoIf, noRoL, noRoV, noRoL_bys], ?_⟩
  conv => whnf
  repeat ((refine ⟨rfl, ?_⟩); conv => whnf)
  rfl
end Go.Proofs.YtelnlfhdaelfdaaDoor.Abs
end
section
set_option linter.unusedVariables false
set_option linter.unusedSimpArgs false
namespace Go.Proofs.YtelnlfhdaelfdaaDoor.Abs
open Go
attribute [local irreducible] ifB fitP Does Weaker
theorem and192 : ∀ c : Fin 256, decide (bits .and .u8 (c.val : Int) 192 ≠ 128) = !uCont c.val := by decide +kernel
theorem and192' {x : Int} (h : 0 ≤ x ∧ x < 256) : decide (bits .and .u8 x 192 ≠ 128) = !uCont x := by
  have := and192 ⟨x.toNat, by omega⟩
  simp only [Int.toNat_of_nonneg h.1] at this
  exact this
theorem i64_and (k : Nat) (hk : k ≤ 63) (x : Int) (h0 : 0 ≤ x) (h1 : x < 9223372036854775808) : bits .and .i64 x (2 ^ k - 1) = x % 2 ^ k := bits_mask .i64 63 (by decide) wrap_i64_63 k hk x h0 (by simpa using h1)
theorem uVal_snoc (v : Int) (l : List Int) (c : Int) : uVal v (l ++ [c]) = uVal v l * 64 + c % 64 := by simp [uVal]
theorem uVal_take {v : Int} {l : List Int} {c : Nat} (h : c < l.length) : uVal v (l.take (c + 1)) = uVal v (l.take c) * 64 + l[c] % 64 := by
  rw [List.take_succ_eq_append_getElem h, uVal_snoc]
theorem uVal_bound {v : Int} (h0 : 0 ≤ v ∧ v < 32) : ∀ {l : List Int}, l.length ≤ 3 → 0 ≤ uVal v l ∧ uVal v l < 32 * 64 ^ l.length := by
  intro l hl
  have key : ∀ (n : Nat) (l : List Int), l.length = n → 0 ≤ uVal v l ∧ uVal v l < 32 * 64 ^ n := by
    intro n
    induction n with
    | zero => intro l h; obtain rfl := List.length_eq_zero_iff.1 h; simp [uVal]; omega
    | succ n ih =>
      intro l h
      have e : l = l.take n ++ [l[n]'(by omega)] := by
        rw [← List.take_succ_eq_append_getElem (by omega), List.take_of_length_le (by omega)]
      rw [e, uVal_snoc, Int.pow_succ]
      obtain ⟨a, b⟩ := ih (l.take n) (by simp; omega)
      omega
  exact key _ l rfl
theorem uLead_le (c : Int) (h : 0 ≤ c) : (uLead c).1 ≤ 3 ∧ 0 ≤ (uLead c).2.1 ∧ (uLead c).2.1 < 32 ∧ 0 ≤ (uLead c).2.2 ∧ (uLead c).2.2 ≤ 65536 := by
  unfold uLead
  repeat' split
  all_goals (simp only; omega)
theorem drop_cons {l : List Int} {i : Nat} (h : i < l.length) : l.drop i = l[i] :: l.drop (i + 1) := List.drop_eq_getElem_cons h
set_option maxHeartbeats 4000000 in
theorem refUtf8_ok (b : List Int) (hb : Byt b) (hl : b.length ≤ 1099511627776) : ACall Tryd.prog 110 [.ro b.length (bys b)] (.bool (validR b)) [] := by
  refine ACall.of_does TTok Tryd.func110 rfl Tryd.call110 rfl (wpc_sound (M := MC) (PL := PL0) (CU := noCut) TTok mixed _ _ _ ?_)
  conv => whnf
  refine Does.loop (fun i : Nat => mkSt [(0, .ro b.length (bys b)), (3, .int .i64 i)] [] 0 95) (fun i => i ≤ b.length ∧ validR (b.drop i) = validR b) (fun i => b.length - i) ?_ 0 ⟨Nat.zero_le _, rfl⟩ ?_
  · rintro i ⟨hi, hv⟩
    refine wpc_sound (M := MC) (PL := PL0) (CU := cutAt [6]) TTok mixed _ _ _ ?_
    conv => whnf
    refine ifB_dec (fun k1 => ?_) (fun k1 => ?_)
    · have c1 : i < b.length := by omega
      have hc := hb b[i] (List.getElem_mem c1)
      have hd := drop_cons c1
      rw [hd] at hv
      conv => whnf
      repeat ((refine ⟨⟨?_, ?_, ?_⟩, ?_⟩; (focus omega); (focus (first | omega | (simp; done) | (simp; omega))); (focus (first | (simp; done) | (simp; omega) | (rw [toksC_length]; simp; omega)))); conv => whnf)
      refine ⟨_, get_bysM c1 (by simp), ?_⟩
      conv => whnf
      repeat ((refine fit_i64 ⟨by first | omega | rfl | (dsimp only; omega), by first | omega | rfl | (dsimp only; omega)⟩ ?_); conv => whnf)
      obtain ⟨s, v, low, hu⟩ : ∃ s v low, uLead b[i] = (s, v, low) := ⟨_, _, _, rfl⟩
      have hle := uLead_le b[i] hc.1
      rw [hu] at hle
      simp only at hle
      refine Does.seqCut (α := Unit) (fun _ => mkSt [(0, .ro b.length (bys b)), (3, .int .i64 i), (4, .int .i64 v), (5, .int .i64 s), (6, .int .i64 low)] [] 0 95) (fun _ => ¬ b[i] < 128 ∧ 0 < s) ?_ ?_
      · refine wpc_sound (M := MC) (PL := PL0) (CU := noCut) TTok mixed _ _ _ ?_
        conv => whnf
        refine ifB_dec (fun k2 => ?_) (fun k2 => ?_)
        · conv => whnf
          repeat ((first | refine ifB_t ?_ | refine ifB_f ?_); conv => whnf)
          refine fit_i64 ⟨by omega, by omega⟩ ?_
          conv => whnf
          repeat ((first | refine ifB_t ?_ | refine ifB_f ?_); conv => whnf)
          rw [validR_asc k2] at hv
          refine ⟨i + 1, ⟨by omega, hv⟩, by omega, weaker_of [] rfl rfl ⟨⟨rfl, rfl, pureL_bys _⟩, ⟨rfl, rfl⟩, trivial⟩ trivial⟩
        conv => whnf
        have h31 := i64_and 5 (by decide) b[i] hc.1 (by omega)
        have h15 := i64_and 4 (by decide) b[i] hc.1 (by omega)
        have h7 := i64_and 3 (by decide) b[i] hc.1 (by omega)
        simp only [show (2 : Int) ^ 5 = 32 from rfl, show (2 : Int) ^ 4 = 16 from rfl, show (2 : Int) ^ 3 = 8 from rfl, show (32 : Int) - 1 = 31 from rfl, show (16 : Int) - 1 = 15 from rfl, show (8 : Int) - 1 = 7 from rfl] at h31 h15 h7
        have cs : (192 ≤ b[i] ∧ b[i] < 224 ∧ s = 1 ∧ v = b[i] % 32 ∧ low = 128) ∨ (224 ≤ b[i] ∧ b[i] < 240 ∧ s = 2 ∧ v = b[i] % 16 ∧ low = 2048) ∨ (240 ≤ b[i] ∧ b[i] < 248 ∧ s = 3 ∧ v = b[i] % 8 ∧ low = 65536) ∨
            (¬ (192 ≤ b[i] ∧ b[i] < 248) ∧ s = 0) := by
          unfold uLead at hu
          by_cases q1 : 192 ≤ b[i] ∧ b[i] < 224
          · rw [if_pos q1] at hu; simp only [Prod.mk.injEq] at hu; omega
          rw [if_neg q1] at hu
          by_cases q2 : 224 ≤ b[i] ∧ b[i] < 240
          · rw [if_pos q2] at hu; simp only [Prod.mk.injEq] at hu; omega
          rw [if_neg q2] at hu
          by_cases q3 : 240 ≤ b[i] ∧ b[i] < 248
          · rw [if_pos q3] at hu; simp only [Prod.mk.injEq] at hu; omega
          rw [if_neg q3] at hu; simp only [Prod.mk.injEq] at hu; omega
        have hu0 := hu
        clear hle hu
        rcases cs with ⟨q1, q2, rfl, rfl, rfl⟩ | ⟨q1, q2, rfl, rfl, rfl⟩ | ⟨q1, q2, rfl, rfl, rfl⟩ | ⟨q1, rfl⟩
        · conv => whnf
          repeat ((first | refine ifB_t ?_ | (refine ifB_pos (decide_eq_true (by first | omega | rfl | (dsimp only; omega))) ?_)); conv => whnf)
          exact ⟨(), ⟨k2, by omega⟩, weaker_of [] rfl rfl ⟨⟨rfl, rfl, pureL_bys _⟩, ⟨rfl, rfl⟩, ⟨rfl, h31⟩, ⟨rfl, rfl⟩, ⟨rfl, rfl⟩, trivial⟩ trivial⟩
        · conv => whnf
          repeat ((first | refine ifB_t ?_ | (refine ifB_neg (decide_eq_false (by first | omega | rfl | (dsimp only; omega))) ?_) | (refine ifB_pos (decide_eq_true (by first | omega | rfl | (dsimp only; omega))) ?_)); conv => whnf)
          exact ⟨(), ⟨k2, by omega⟩, weaker_of [] rfl rfl ⟨⟨rfl, rfl, pureL_bys _⟩, ⟨rfl, rfl⟩, ⟨rfl, h15⟩, ⟨rfl, rfl⟩, ⟨rfl, rfl⟩, trivial⟩ trivial⟩
        · conv => whnf
          repeat ((first | refine ifB_t ?_ | (refine ifB_neg (decide_eq_false (by first | omega | rfl | (dsimp only; omega))) ?_) | (refine ifB_pos (decide_eq_true (by first | omega | rfl | (dsimp only; omega))) ?_)); conv => whnf)
          exact ⟨(), ⟨k2, by omega⟩, weaker_of [] rfl rfl ⟨⟨rfl, rfl, pureL_bys _⟩, ⟨rfl, rfl⟩, ⟨rfl, h7⟩, ⟨rfl, rfl⟩, ⟨rfl, rfl⟩, trivial⟩ trivial⟩
        · have e : validR b = false := by
            rw [← hv, validR_big k2, hu0, if_pos (Or.inl rfl)]
          rw [e]
          refine ifB_dec (fun k3 => ?_) (fun k3 => ?_)
          · conv => whnf
            repeat ((first | refine ifB_t ?_ | (refine ifB_neg (decide_eq_false (by first | omega | rfl | (dsimp only; omega))) ?_) | (refine ifB_pos (decide_eq_true (by first | omega | rfl | (dsimp only; omega))) ?_) | refine ⟨rfl, ?_⟩); conv => whnf)
            rfl
          · conv => whnf
            repeat ((first | refine ifB_f ?_ | (refine ifB_neg (decide_eq_false (by first | omega | rfl | (dsimp only; omega))) ?_) | refine ⟨rfl, ?_⟩); conv => whnf)
            rfl
      · rintro ⟨⟩ ⟨k2, hs⟩
        refine wpc_sound (M := MC) (PL := PL0) (CU := noCut) TTok mixed _ _ _ ?_
        conv => whnf
        repeat ((refine fit_i64 ⟨by first | omega | rfl | (dsimp only; omega), by first | omega | rfl | (dsimp only; omega)⟩ ?_); conv => whnf)
        rw [validR_big k2, hu] at hv
        simp only at hv
        refine ifB_dec (fun k3 => ?_) (fun k3 => ?_)
        · rw [if_pos (by simp; omega)] at hv
          rw [← hv]
          conv => whnf
          repeat ((refine ⟨rfl, ?_⟩); conv => whnf)
          rfl
        rw [if_neg (by simp; omega)] at hv
        conv => whnf
        obtain ⟨r, hr⟩ : ∃ r, r = b.drop (i + 1) := ⟨_, rfl⟩
        rw [← hr] at hv hd
        have hrl : r.length = b.length - (i + 1) := by rw [hr]; simp
        have hsr : s ≤ r.length := by omega
        have hrb : ∀ (k : Nat) (h : k < r.length), r[k] = b[i + 1 + k]'(by omega) := by intro k h; subst hr; simp
        refine Does.loop (fun k : Nat => mkSt [(0, .ro b.length (bys b)), (3, .int .i64 i), (4, .int .i64 (uVal v (r.take k))), (5, .int .i64 s), (6, .int .i64 low), (7, .int .i64 ((k : Int) + 1))] [] 0 95)
          (fun k => k ≤ s ∧ (r.take k).all uCont = true) (fun k => s - k) ?_ 0 ⟨Nat.zero_le _, rfl⟩ ?_
        · rintro k ⟨hk, hall⟩
          have hub := uVal_bound (v := v) ⟨by omega, by omega⟩ (l := r.take k) (by simp; omega)
          have hul : (r.take k).length = k := by simp; omega
          rw [hul] at hub
          have hpow : (64 : Int) ^ k ≤ 262144 := by
            have : k = 0 ∨ k = 1 ∨ k = 2 ∨ k = 3 := by omega
            rcases this with rfl | rfl | rfl | rfl <;> decide
          obtain ⟨u, hu'⟩ : ∃ u, u = uVal v (r.take k) := ⟨_, rfl⟩
          rw [← hu'] at hub ⊢
          refine wpc_sound (M := MC) (PL := PL0) (CU := noCut) TTok mixed _ _ _ ?_
          conv => whnf
          refine ifB_dec (fun k4 => ?_) (fun k4 => ?_)
          · have ck : k < s := by omega
            have cb : i + 1 + k < b.length := by omega
            have hx := hb b[i + 1 + k] (List.getElem_mem cb)
            conv => whnf
            repeat ((first | (refine fit_i64 ⟨by first | omega | rfl | (dsimp only; omega), by first | omega | rfl | (dsimp only; omega)⟩ ?_) | (refine ⟨⟨?_, ?_, ?_⟩, ?_⟩; (focus omega); (focus (first | omega | (simp; done) | (simp; omega))); (focus (first | (simp; done) | (simp; omega) | (rw [toksC_length]; simp; omega))))); conv => whnf)
            refine ⟨_, get_bysM cb (by simp; omega), ?_⟩
            conv => whnf
            rw [and192' hx]
            cases hcont : uCont b[i + 1 + k]
            · have e : validR b = false := by
                rw [← hv]
                have : (r.take s).all uCont = false := by
                  rw [List.all_eq_false]
                  exact ⟨r[k]'(by omega), by
                    have : r[k]'(by omega) = (r.take s)[k]'(by simp; omega) := by simp
                    rw [this]; exact List.getElem_mem _, by rw [hrb k (by omega), hcont]; simp⟩
                rw [this]
                rfl
              rw [e]
              conv => whnf
              repeat ((first | refine ifB_t ?_ | refine ⟨rfl, ?_⟩); conv => whnf)
              rfl
            · have h63 := u8_and63 _ hx.1 hx.2
              have e6 : u * 2 ^ min (Int.toNat 6) IntKind.i64.bits = u * 64 := by
                have : (2 : Int) ^ min (Int.toNat 6) IntKind.i64.bits = 64 := by decide
                rw [this]
              have hor := bits_join .i64 63 (by decide) wrap_i64_63 6 (u * 64) (b[i + 1 + k] % 64) (by omega) (by omega) (by omega) (by omega) (by omega) (by omega)
              conv => whnf
              repeat ((first | refine ifB_f ?_ | (refine fit_i64 ⟨by first | omega | rfl | (dsimp only; omega), by first | omega | rfl | (dsimp only; omega)⟩ ?_) | (refine And.intro (by first | omega | rfl | (dsimp only; omega)) ?_) | (refine ⟨⟨?_, ?_, ?_⟩, ?_⟩; (focus omega); (focus (first | omega | (simp; done) | (simp; omega))); (focus (first | (simp; done) | (simp; omega) | (rw [toksC_length]; simp; omega))))); conv => whnf)
              refine ⟨_, get_bysM cb (by simp; omega), ?_⟩
              conv => whnf
              repeat ((refine fit_i64 ⟨by first | omega | rfl | (dsimp only; omega), by first | omega | rfl | (dsimp only; omega)⟩ ?_); conv => whnf)
              refine ⟨k + 1, ⟨by omega, ?_⟩, by omega, weaker_of [] rfl rfl ⟨⟨rfl, rfl, pureL_bys _⟩, ⟨rfl, rfl⟩, ⟨rfl, ?_⟩, ⟨rfl, rfl⟩, ⟨rfl, rfl⟩, ⟨rfl, by omega⟩, trivial⟩ trivial⟩
              · rw [List.take_succ_eq_append_getElem (by omega), List.all_append, hall, hrb k (by omega)]
                simp [hcont]
              · rw [e6, h63, hor, uVal_take (by omega), ← hu', hrb k (by omega)]
          · obtain rfl : k = s := by omega
            rw [hall, ← hu', Bool.true_and] at hv
            have bad : ¬ (low ≤ u ∧ u ≤ 1114111 ∧ ¬ (55296 ≤ u ∧ u ≤ 57343)) → validR b = false := by
              intro h
              rw [← hv, uRight, decide_eq_false h]
              rfl
            conv => whnf
            refine ifB_dec (fun k5 => ?_) (fun k5 => ?_)
            · rw [bad (by omega)]
              conv => whnf
              repeat ((first | refine ifB_t ?_ | refine ⟨rfl, ?_⟩); conv => whnf)
              rfl
            conv => whnf
            repeat ((refine ifB_f ?_); conv => whnf)
            refine ifB_dec (fun k6 => ?_) (fun k6 => ?_)
            · rw [bad (by omega)]
              conv => whnf
              repeat ((first | refine ifB_t ?_ | refine ⟨rfl, ?_⟩); conv => whnf)
              rfl
            conv => whnf
            repeat ((first | refine ifB_f ?_ | refine ⟨rfl, ?_⟩); conv => whnf)
            have hin := in_ok u 55296 57343
            by_cases k7 : 55296 ≤ u ∧ u ≤ 57343
            · rw [decide_eq_true k7] at hin
              rw [bad (by omega)]
              refine ⟨_, _, hin, by first | rfl | simp [noRoIf, noRoL, noRoV, noRoL_bys], ?_⟩
              conv => whnf
              repeat ((first | refine ifB_t ?_ | refine ifB_f ?_ | refine ⟨rfl, ?_⟩); conv => whnf)
              rfl
            · rw [decide_eq_false k7] at hin
              have hg : uRight low u = true := by rw [uRight]; exact decide_eq_true ⟨by omega, by omega, k7⟩
              rw [hg, Bool.true_and, hr, List.drop_drop] at hv
              refine ⟨_, _, hin, by first | rfl | simp [noRoIf, noRoL, noRoV, noRoL_bys], ?_⟩
              conv => whnf
              repeat ((first | refine ifB_f ?_ | (refine fit_i64 ⟨by first | omega | rfl | (dsimp only; omega), by first | omega | rfl | (dsimp only; omega)⟩ ?_)); conv => whnf)
              refine ⟨i + 1 + k, ⟨by omega, hv⟩, by omega, weaker_of [] rfl rfl ⟨⟨rfl, rfl, pureL_bys _⟩, ⟨rfl, by omega⟩, trivial⟩ trivial⟩
        · exact weaker_of [] rfl rfl ⟨⟨rfl, rfl, pureL_bys _⟩, ⟨rfl, rfl⟩, ⟨rfl, rfl⟩, ⟨rfl, rfl⟩, ⟨rfl, rfl⟩, ⟨rfl, rfl⟩, trivial⟩ trivial
    · rw [List.drop_of_length_le (by omega), validR_nil] at hv
      rw [← hv]
      conv => whnf
      repeat ((refine ⟨rfl, ?_⟩); conv => whnf)
      rfl
  · exact weaker_of [] rfl rfl ⟨⟨rfl, rfl, pureL_bys _⟩, ⟨rfl, rfl⟩, trivial⟩ trivial
end Go.Proofs.YtelnlfhdaelfdaaDoor.Abs
end
section
set_option linter.unusedVariables false
set_option linter.unusedSimpArgs false
namespace Go.Proofs.YtelnlfhdaelfdaaDoor.Abs
open Go
attribute [local irreducible] ifB fitP Does Weaker
def PLwbX : Plan := .all [(7, takesTo [8, 9] (.all [(10, .done)]))]
def PLwb : Nat → Bool × Plan := plans [(10, (false, takesTo [0, 1, 2, 3, 5] (.all [(4, .all [(6, PLwbX)]), (6, .all [(4, PLwbX)])])))]
theorem wBytes_bad (u : List Int → Bool) (t : Tok) (at' : Nat) (out : List Int) : wBytes u t ⟨at', out, true⟩ = ⟨at', out, true⟩ := by simp [wBytes]
theorem wBytes_no (u : List Int → Bool) (t : Tok) (at' : Nat) (out : List Int) (h : (t.k = 4 ∧ u t.b = false) ∨ t.n ≠ 0 ∨ 32768 < (t.b.length : Int)) : wBytes u t ⟨at', out, false⟩ = ⟨at', out, true⟩ := by
  unfold wBytes
  rw [if_pos]
  rcases h with ⟨h1, h2⟩ | h | h <;> simp [*]
theorem wBytes_yes (u : List Int → Bool) (t : Tok) (at' : Nat) (out : List Int) (h1 : t.k = 4 → u t.b = true) (h2 : t.n = 0) (h3 : ¬ 32768 < (t.b.length : Int)) :
    wBytes u t ⟨at', out, false⟩ = ⟨at', (wHead (if t.k = 4 then 3 else 2) t.b.length ⟨at', out, false⟩).out ++ t.b, (wHead (if t.k = 4 then 3 else 2) t.b.length ⟨at', out, false⟩).bad⟩ := by
  unfold wBytes
  rw [if_neg]
  · rfl
  · simp only [h2, decide_eq_false h3]
    by_cases hk : t.k = 4
    · simp [hk, h1 hk]
    · simp [hk]
theorem wHead_out (major n : Int) (w : W) : (wHead major n w).out.length ≤ w.out.length + 9 := by
  unfold wHead putS
  split
  · simp
  · have := sizeR_le n (by omega)
    simp [putL]
    omega
theorem wbytes_ok (len : Nat) (L : List AV) (hL : pureL L = true) (w : W) (hb : w.out.length ≤ 1048576) (t : Tok) (ht : TokOk t) (hk : t.k = 3 ∨ t.k = 4) (hl : t.b.length ≤ 1099511627776) :
    ACall Tryd.prog 112 [.ref (wC len L w), .agg (tokC t)] (.tuple []) [.ref (wC len L (wBytes validR t w))] := by
  obtain ⟨at', out, bad⟩ := w
  obtain ⟨tk, tn, tb⟩ := t
  refine ACall.of_does TTok Tryd.func112 rfl Tryd.call112 rfl (wpc_sound (M := MC) (PL := PLwb) (CU := noCut) TTok mixed _ _ _ ?_)
  have hu := utf8_ok tb ht.2.2 hl
  obtain ⟨hk1, hn1, hb1⟩ := ht
  simp only at hk hn1 hb hl
  conv => whnf
  repeat ((first | refine ⟨rfl, ?_⟩ | refine ⟨_, rfl, ?_⟩); conv => whnf)
  rcases hk with rfl | rfl
  · cases bad
    · have hh := whead_ok len L hL ⟨at', out, false⟩ hb 2 tb.length (by omega)
      have ho := wHead_out 2 tb.length ⟨at', out, false⟩
      simp only at ho
      conv => whnf
      repeat ((first | refine ifB_t ?_ | refine ifB_f ?_ | refine ⟨_, rfl, ?_⟩); conv => whnf)
      refine ifB_dec (fun k1 => ?_) (fun k1 => ?_)
      · rw [wBytes_no _ _ _ _ (.inr (.inl k1))]
        conv => whnf
        repeat ((first | refine ifB_t ?_ | refine ⟨rfl, ?_⟩ | refine ⟨_, rfl, ?_⟩ | refine ⟨⟨rfl, rfl⟩, ?_⟩ | (refine ⟨⟨rfl, rfl, rfl, ?_, pureL_bys _⟩, ?_⟩; (focus (simp; done))) | (refine ⟨⟨rfl, rfl, ?_⟩, ?_⟩; (focus (first | assumption | exact pureL_bys _ | exact pureL_toks _))) | (refine ⟨⟨rfl, rfl, ?_⟩, ?_⟩; (focus (first | exact Nat.le_of_ble_eq_true rfl | (simp; done))))); conv => whnf)
        rfl
      · have k1' : tn = 0 := Classical.not_not.1 k1
        conv => whnf
        repeat ((first | refine ifB_f ?_ | refine ⟨_, rfl, ?_⟩ | (refine ⟨⟨rfl, rfl, ?_⟩, ?_⟩; (focus (first | exact Nat.le_of_ble_eq_true rfl | (simp; done))))); conv => whnf)
        refine ifB_dec (fun k2 => ?_) (fun k2 => ?_)
        · rw [wBytes_no _ _ _ _ (.inr (.inr k2)), decide_eq_true k2]
          conv => whnf
          repeat ((first | refine ⟨rfl, ?_⟩ | refine ⟨⟨rfl, rfl⟩, ?_⟩ | (refine ⟨⟨rfl, rfl, rfl, ?_, pureL_bys _⟩, ?_⟩; (focus (simp; done))) | (refine ⟨⟨rfl, rfl, ?_⟩, ?_⟩; (focus (first | assumption | exact pureL_bys _ | exact pureL_toks _)))); conv => whnf)
          rfl
        · rw [wBytes_yes _ _ _ _ (by simp) k1' k2, decide_eq_false k2]
          simp only at k2
          conv => whnf
          repeat ((first | refine ⟨rfl, ?_⟩ | refine ⟨_, rfl, ?_⟩ | (refine ⟨⟨rfl, rfl, ?_, pureL_bys _⟩, ?_⟩; (focus (simp; done))) | (refine And.intro (by first | omega | rfl | (dsimp only; omega)) ?_)); conv => whnf)
          refine ⟨_, _, hh, by first | rfl | simp [noRoIf, noRoL, noRoV, noRoL_bys], ?_⟩
          conv => whnf
          refine ⟨by kernel_rfl, ?_⟩
          conv => whnf
          refine ⟨?_, ?_⟩
          · conv => whnf
            repeat ((refine ⟨_, rfl, ?_⟩); conv => whnf)
            refine ⟨by simp, ?_⟩
            conv => whnf
            repeat ((refine ⟨ones_bys _, ?_⟩); conv => whnf)
            refine ⟨⟨rfl, rfl, by simp, by simp [limB]; omega⟩, ?_⟩
            conv => whnf
            repeat ((first | refine ⟨⟨rfl, rfl⟩, ?_⟩ | (refine ⟨⟨rfl, rfl, ?_⟩, ?_⟩; (focus (first | assumption | exact pureL_bys _ | exact pureL_toks _))) | (refine ⟨⟨rfl, rfl, ?_⟩, ?_⟩; (focus (first | exact Nat.le_of_ble_eq_true rfl | (simp; done))))); conv => whnf)
            refine ⟨⟨by simp, rfl, bys_append _ _, by simp, pureL_bys _⟩, ?_⟩
            conv => whnf
            repeat ((refine ⟨rfl, ?_⟩); conv => whnf)
            rfl
          · conv => whnf
            repeat ((refine ⟨_, rfl, ?_⟩); conv => whnf)
            refine ⟨by simp, ?_⟩
            conv => whnf
            repeat ((refine ⟨ones_bys _, ?_⟩); conv => whnf)
            refine ⟨⟨rfl, rfl, by simp, by simp [limB]; omega⟩, ?_⟩
            conv => whnf
            repeat ((first | refine ⟨⟨rfl, rfl⟩, ?_⟩ | (refine ⟨⟨rfl, rfl, ?_⟩, ?_⟩; (focus (first | assumption | exact pureL_bys _ | exact pureL_toks _))) | (refine ⟨⟨rfl, rfl, ?_⟩, ?_⟩; (focus (first | exact Nat.le_of_ble_eq_true rfl | (simp; done))))); conv => whnf)
            refine ⟨⟨by simp, rfl, bys_append _ _, by simp, pureL_bys _⟩, ?_⟩
            conv => whnf
            repeat ((refine ⟨rfl, ?_⟩); conv => whnf)
            rfl
    · rw [wBytes_bad]
      conv => whnf
      repeat ((first | refine ifB_t ?_ | refine ifB_f ?_ | refine ⟨rfl, ?_⟩ | refine ⟨_, rfl, ?_⟩ | refine ⟨⟨rfl, rfl⟩, ?_⟩ | (refine ⟨⟨rfl, rfl, rfl, ?_, pureL_bys _⟩, ?_⟩; (focus (simp; done))) | (refine ⟨⟨rfl, rfl, ?_⟩, ?_⟩; (focus (first | assumption | exact pureL_bys _ | exact pureL_toks _))) | (refine ⟨⟨rfl, rfl, ?_⟩, ?_⟩; (focus (first | exact Nat.le_of_ble_eq_true rfl | (simp; done))))); conv => whnf)
      rfl
  · cases bad
    · have hh := whead_ok len L hL ⟨at', out, false⟩ hb 3 tb.length (by omega)
      have ho := wHead_out 3 tb.length ⟨at', out, false⟩
      simp only at ho
      conv => whnf
      repeat ((first | refine ifB_t ?_ | refine ifB_f ?_ | refine ⟨pureL_bys _, ?_⟩ | refine ⟨rfl, ?_⟩ | refine ⟨_, rfl, ?_⟩); conv => whnf)
      cases hv : validR tb
      · rw [hv] at hu
        rw [wBytes_no _ _ _ _ (.inl ⟨rfl, hv⟩)]
        refine ⟨_, _, hu, by first | rfl | simp [noRoIf, noRoL, noRoV, noRoL_bys], ?_⟩
        conv => whnf
        repeat ((first | refine ifB_t ?_ | refine ifB_f ?_ | refine ⟨rfl, ?_⟩ | refine ⟨_, rfl, ?_⟩ | refine ⟨⟨rfl, rfl⟩, ?_⟩ | (refine ⟨⟨rfl, rfl, rfl, ?_, pureL_bys _⟩, ?_⟩; (focus (simp; done))) | (refine ⟨⟨rfl, rfl, ?_⟩, ?_⟩; (focus (first | assumption | exact pureL_bys _ | exact pureL_toks _))) | (refine ⟨⟨rfl, rfl, ?_⟩, ?_⟩; (focus (first | exact Nat.le_of_ble_eq_true rfl | (simp; done))))); conv => whnf)
        rfl
      · rw [hv] at hu
        refine ⟨_, _, hu, by first | rfl | simp [noRoIf, noRoL, noRoV, noRoL_bys], ?_⟩
        conv => whnf
        repeat ((first | refine ifB_f ?_ | refine ⟨_, rfl, ?_⟩ | (refine ⟨⟨rfl, rfl, ?_⟩, ?_⟩; (focus (first | exact Nat.le_of_ble_eq_true rfl | (simp; done))))); conv => whnf)
        refine ifB_dec (fun k1 => ?_) (fun k1 => ?_)
        · rw [wBytes_no _ _ _ _ (.inr (.inl k1))]
          conv => whnf
          repeat ((first | refine ifB_t ?_ | refine ⟨rfl, ?_⟩ | refine ⟨_, rfl, ?_⟩ | refine ⟨⟨rfl, rfl⟩, ?_⟩ | (refine ⟨⟨rfl, rfl, rfl, ?_, pureL_bys _⟩, ?_⟩; (focus (simp; done))) | (refine ⟨⟨rfl, rfl, ?_⟩, ?_⟩; (focus (first | assumption | exact pureL_bys _ | exact pureL_toks _))) | (refine ⟨⟨rfl, rfl, ?_⟩, ?_⟩; (focus (first | exact Nat.le_of_ble_eq_true rfl | (simp; done))))); conv => whnf)
          rfl
        · have k1' : tn = 0 := Classical.not_not.1 k1
          conv => whnf
          repeat ((first | refine ifB_f ?_ | refine ⟨_, rfl, ?_⟩ | (refine ⟨⟨rfl, rfl, ?_⟩, ?_⟩; (focus (first | exact Nat.le_of_ble_eq_true rfl | (simp; done))))); conv => whnf)
          refine ifB_dec (fun k2 => ?_) (fun k2 => ?_)
          · rw [wBytes_no _ _ _ _ (.inr (.inr k2)), decide_eq_true k2]
            conv => whnf
            repeat ((first | refine ⟨rfl, ?_⟩ | refine ⟨⟨rfl, rfl⟩, ?_⟩ | (refine ⟨⟨rfl, rfl, rfl, ?_, pureL_bys _⟩, ?_⟩; (focus (simp; done))) | (refine ⟨⟨rfl, rfl, ?_⟩, ?_⟩; (focus (first | assumption | exact pureL_bys _ | exact pureL_toks _)))); conv => whnf)
            rfl
          · rw [wBytes_yes _ _ _ _ (fun _ => hv) k1' k2, decide_eq_false k2]
            simp only at k2
            conv => whnf
            repeat ((first | refine ⟨rfl, ?_⟩ | refine ⟨_, rfl, ?_⟩ | (refine ⟨⟨rfl, rfl, ?_, pureL_bys _⟩, ?_⟩; (focus (simp; done))) | (refine And.intro (by first | omega | rfl | (dsimp only; omega)) ?_)); conv => whnf)
            refine ⟨_, _, hh, by first | rfl | simp [noRoIf, noRoL, noRoV, noRoL_bys], ?_⟩
            conv => whnf
            refine ⟨by kernel_rfl, ?_⟩
            conv => whnf
            refine ⟨?_, ?_⟩
            · conv => whnf
              repeat ((refine ⟨_, rfl, ?_⟩); conv => whnf)
              refine ⟨by simp, ?_⟩
              conv => whnf
              repeat ((refine ⟨ones_bys _, ?_⟩); conv => whnf)
              refine ⟨⟨rfl, rfl, by simp, by simp [limB]; omega⟩, ?_⟩
              conv => whnf
              repeat ((first | refine ⟨⟨rfl, rfl⟩, ?_⟩ | (refine ⟨⟨rfl, rfl, ?_⟩, ?_⟩; (focus (first | assumption | exact pureL_bys _ | exact pureL_toks _))) | (refine ⟨⟨rfl, rfl, ?_⟩, ?_⟩; (focus (first | exact Nat.le_of_ble_eq_true rfl | (simp; done))))); conv => whnf)
              refine ⟨⟨by simp, rfl, bys_append _ _, by simp, pureL_bys _⟩, ?_⟩
              conv => whnf
              repeat ((refine ⟨rfl, ?_⟩); conv => whnf)
              rfl
            · conv => whnf
              repeat ((refine ⟨_, rfl, ?_⟩); conv => whnf)
              refine ⟨by simp, ?_⟩
              conv => whnf
              repeat ((refine ⟨ones_bys _, ?_⟩); conv => whnf)
              refine ⟨⟨rfl, rfl, by simp, by simp [limB]; omega⟩, ?_⟩
              conv => whnf
              repeat ((first | refine ⟨⟨rfl, rfl⟩, ?_⟩ | (refine ⟨⟨rfl, rfl, ?_⟩, ?_⟩; (focus (first | assumption | exact pureL_bys _ | exact pureL_toks _))) | (refine ⟨⟨rfl, rfl, ?_⟩, ?_⟩; (focus (first | exact Nat.le_of_ble_eq_true rfl | (simp; done))))); conv => whnf)
              refine ⟨⟨by simp, rfl, bys_append _ _, by simp, pureL_bys _⟩, ?_⟩
              conv => whnf
              repeat ((refine ⟨rfl, ?_⟩); conv => whnf)
              rfl
    · rw [wBytes_bad]
      conv => whnf
      repeat ((first | refine ifB_t ?_ | refine ⟨rfl, ?_⟩ | refine ⟨_, rfl, ?_⟩ | refine ⟨⟨rfl, rfl⟩, ?_⟩ | (refine ⟨⟨rfl, rfl, rfl, ?_, pureL_bys _⟩, ?_⟩; (focus (simp; done))) | (refine ⟨⟨rfl, rfl, ?_⟩, ?_⟩; (focus (first | assumption | exact pureL_bys _ | exact pureL_toks _))) | (refine ⟨⟨rfl, rfl, ?_⟩, ?_⟩; (focus (first | exact Nat.le_of_ble_eq_true rfl | (simp; done))))); conv => whnf)
      rfl
end Go.Proofs.YtelnlfhdaelfdaaDoor.Abs
end
section
set_option linter.unusedVariables false
set_option linter.unusedSimpArgs false
namespace Go.Proofs.YtelnlfhdaelfdaaDoor.Abs
open Go
theorem wNumber_out (major : Int) (t : Tok) (w : W) : (wNumber major t w).out.length ≤ w.out.length + 9 := by
  unfold wNumber
  exact wHead_out _ _ _
theorem wBytes_out (u : List Int → Bool) (t : Tok) (w : W) : (wBytes u t w).out.length ≤ w.out.length + 32777 := by
  unfold wBytes
  split
  · simp
  · rename_i h
    simp only [Bool.or_eq_true, decide_eq_true_eq, not_or] at h
    have := wHead_out (if t.k = 4 then 3 else 2) t.b.length w
    simp only [List.length_append]
    omega
theorem wArr_le (g : W → W) (B : Nat) (hg : ∀ w, w.out.length ≤ B → (g w).out.length ≤ B) : ∀ (n : Nat) (w : W), w.out.length ≤ B → (wArr g n w).out.length ≤ B
  | 0, w, h => h
  | n + 1, w, h => by
    unfold wArr
    split
    · exact h
    · exact wArr_le g B hg n _ (hg w h)
theorem wMap_le (g : W → W) (B : Nat) (hg : ∀ w, w.out.length ≤ B → (g w).out.length ≤ B) : ∀ (n i a b : Nat) (w : W), w.out.length ≤ B → (wMap g n i a b w).out.length ≤ B
  | 0, _, _, _, w, h => h
  | n + 1, i, a, b, w, h => by
    unfold wMap
    split
    · exact h
    · split
      · exact hg w h
      · exact wMap_le g B hg n _ _ _ _ (hg _ (hg w h))
theorem wItem_le (u : List Int → Bool) (l : List Tok) : ∀ (f : Nat) (w : W), w.out.length ≤ 65600 → (wItem u l f w).out.length ≤ 65600
  | f, w, hw => by
    unfold wItem
    split
    · exact hw
    · rename_i h
      have hat : w.at' < l.length := by omega
      have ho : w.out.length ≤ 32768 := by omega
      have h1 := fun m t => wNumber_out m t { w with at' := w.at' + 1 }
      have h2 := fun t => wBytes_out u t { w with at' := w.at' + 1 }
      have h3 := fun m n => wHead_out m n { w with at' := w.at' + 1 }
      simp only at h1 h2 h3 ⊢
      split
      · have := h1 0 l[w.at']; omega
      split
      · have := h1 1 l[w.at']; omega
      split
      · have := h2 l[w.at']; omega
      split
      · cases f with
        | zero => exact hw
        | succ f =>
          simp only
          split
          · exact hw
          split
          · exact wArr_le _ 65600 (fun w hw => wItem_le u l f w hw) _ _ (by have := h3 4 l[w.at'].n; omega)
          · exact wMap_le _ 65600 (fun w hw => wItem_le u l f w hw) _ _ _ _ _ (by have := h3 5 l[w.at'].n; omega)
      · exact hw
/-- Where nothing is bad, nothing is lost. -/
def Mono (g : W → W) : Prop := ∀ w, (g w).bad = false → w.bad = false ∧ w.out <+: (g w).out
theorem wHead_mono (major n : Int) : Mono (wHead major n) := by
  intro w h
  simp only [wHead, Bool.or_eq_false_iff, decide_eq_false_iff_not] at h ⊢
  refine ⟨h.1, ?_⟩
  have h2 := h.2
  unfold putS at h2 ⊢
  split at h2
  · simp at h2
  · rename_i hh
    rw [if_neg hh]
    exact List.prefix_append _ _
theorem wNumber_mono (major : Int) (t : Tok) : Mono (wNumber major t) := by
  intro w h
  obtain ⟨h1, h2⟩ := wHead_mono _ _ _ h
  simp only [Bool.or_eq_false_iff] at h1
  exact ⟨h1.1, h2⟩
theorem wBytes_mono (u : List Int → Bool) (t : Tok) : Mono (wBytes u t) := by
  intro w h
  unfold wBytes at h ⊢
  split at h
  · simp at h
  · rename_i hh
    rw [if_neg hh]
    obtain ⟨h1, h2⟩ := wHead_mono _ _ _ h
    exact ⟨h1, h2.trans (List.prefix_append _ _)⟩
theorem wArr_mono (g : W → W) (hg : Mono g) : ∀ n, Mono (wArr g n)
  | 0 => fun w h => ⟨h, List.prefix_refl _⟩
  | n + 1 => fun w h => by
    unfold wArr at h ⊢
    split at h
    · rename_i hb; rw [hb] at h; cases h
    · rename_i hb
      rw [if_neg hb]
      obtain ⟨h1, h2⟩ := wArr_mono g hg n _ h
      obtain ⟨h3, h4⟩ := hg _ h1
      exact ⟨h3, h4.trans h2⟩
theorem wMap_mono (g : W → W) (hg : Mono g) : ∀ n i a b, Mono (wMap g n i a b)
  | 0, _, _, _ => fun w h => ⟨h, List.prefix_refl _⟩
  | n + 1, i, a, b => fun w h => by
    unfold wMap at h ⊢
    split at h
    · rename_i hb; rw [hb] at h; cases h
    · rename_i hb
      rw [if_neg hb]
      split at h
      · simp at h
      · rename_i hc
        rw [if_neg hc]
        obtain ⟨h1, h2⟩ := wMap_mono g hg n _ _ _ _ h
        obtain ⟨h3, h4⟩ := hg _ h1
        obtain ⟨h5, h6⟩ := hg _ h3
        exact ⟨h5, h6.trans (h4.trans h2)⟩
theorem wItem_mono (u : List Int → Bool) (l : List Tok) : ∀ f, Mono (wItem u l f)
  | 0 => fun w h => by
    unfold wItem at h ⊢
    split at h
    · simp at h
    · rename_i hh
      rw [dif_neg hh]
      simp only at h ⊢
      split at h
      · rename_i k; rw [if_pos k]; exact wNumber_mono _ _ _ h
      rename_i k1; rw [if_neg k1]
      split at h
      · rename_i k; rw [if_pos k]; exact wNumber_mono _ _ _ h
      rename_i k2; rw [if_neg k2]
      split at h
      · rename_i k; rw [if_pos k]; exact wBytes_mono _ _ _ h
      rename_i k3; rw [if_neg k3]
      split at h
      · rename_i k; rw [if_pos k]
        cases h
      · cases h
  | f + 1 => fun w h => by
    unfold wItem at h ⊢
    split at h
    · simp at h
    · rename_i hh
      rw [dif_neg hh]
      simp only at h ⊢
      split at h
      · rename_i k; rw [if_pos k]; exact wNumber_mono _ _ _ h
      rename_i k1; rw [if_neg k1]
      split at h
      · rename_i k; rw [if_pos k]; exact wNumber_mono _ _ _ h
      rename_i k2; rw [if_neg k2]
      split at h
      · rename_i k; rw [if_pos k]; exact wBytes_mono _ _ _ h
      rename_i k3; rw [if_neg k3]
      split at h
      · rename_i k; rw [if_pos k]
        split at h
        · cases h
        · rename_i k4; rw [if_neg k4]
          split at h
          · rename_i k5; rw [if_pos k5]
            obtain ⟨h1, h2⟩ := wArr_mono _ (wItem_mono u l f) _ _ h
            obtain ⟨h3, h4⟩ := wHead_mono _ _ _ h1
            exact ⟨h3, h4.trans h2⟩
          · rename_i k5; rw [if_neg k5]
            obtain ⟨h1, h2⟩ := wMap_mono _ (wItem_mono u l f) _ _ _ _ _ h
            obtain ⟨h3, h4⟩ := wHead_mono _ _ _ h1
            exact ⟨h3, h4.trans h2⟩
      · cases h
theorem byt_putL' (M n : Int) (h0 : 0 ≤ M) (h1 : M < 8) (hn : 0 ≤ n) : Byt (putL M n) := by
  intro x hx
  have sn := sizeR_le n hn
  simp only [putL, List.mem_cons] at hx
  rcases hx with rfl | hx
  · omega
  · exact byt_beAcc _ _ _ x hx
theorem byt_append {a b : List Int} (ha : Byt a) (hb : Byt b) : Byt (a ++ b) := fun x hx => by
  rcases List.mem_append.1 hx with h | h
  · exact ha x h
  · exact hb x h
theorem wHead_byt (major n : Int) (h0 : 0 ≤ major ∧ major < 8) (w : W) (hw : Byt w.out) : Byt (wHead major n w).out := by
  unfold wHead putS
  split
  · simp [Byt]
  · exact byt_append hw (byt_putL' _ _ h0.1 h0.2 (by omega))
theorem wNumber_byt (major : Int) (h0 : 0 ≤ major ∧ major < 8) (t : Tok) (w : W) (hw : Byt w.out) : Byt (wNumber major t w).out := wHead_byt _ _ h0 _ hw
theorem wBytes_byt (u : List Int → Bool) (t : Tok) (ht : Byt t.b) (w : W) (hw : Byt w.out) : Byt (wBytes u t w).out := by
  unfold wBytes
  split
  · exact hw
  · exact byt_append (wHead_byt _ _ (by split <;> omega) _ hw) ht
theorem wArr_byt (g : W → W) (hg : ∀ w, Byt w.out → Byt (g w).out) : ∀ (n : Nat) (w : W), Byt w.out → Byt (wArr g n w).out
  | 0, w, h => h
  | n + 1, w, h => by
    unfold wArr
    split
    · exact h
    · exact wArr_byt g hg n _ (hg w h)
theorem wMap_byt (g : W → W) (hg : ∀ w, Byt w.out → Byt (g w).out) : ∀ (n i a b : Nat) (w : W), Byt w.out → Byt (wMap g n i a b w).out
  | 0, _, _, _, w, h => h
  | n + 1, i, a, b, w, h => by
    unfold wMap
    split
    · exact h
    · split
      · exact hg w h
      · exact wMap_byt g hg n _ _ _ _ (hg _ (hg w h))
theorem wItem_byt (u : List Int → Bool) (l : List Tok) (hl : ToksOk l) : ∀ (f : Nat) (w : W), Byt w.out → Byt (wItem u l f w).out
  | f, w, hw => by
    unfold wItem
    split
    · exact hw
    · rename_i h
      have hat : w.at' < l.length := by omega
      simp only
      split
      · exact wNumber_byt _ (by omega) _ _ hw
      split
      · exact wNumber_byt _ (by omega) _ _ hw
      split
      · exact wBytes_byt _ _ (hl _ (List.getElem_mem hat)).2.2 _ hw
      split
      · cases f with
        | zero => exact hw
        | succ f =>
          simp only
          split
          · exact hw
          split
          · exact wArr_byt _ (fun w hw => wItem_byt u l hl f w hw) _ _ (wHead_byt _ _ (by omega) _ hw)
          · exact wMap_byt _ (fun w hw => wItem_byt u l hl f w hw) _ _ _ _ _ (wHead_byt _ _ (by omega) _ hw)
      · exact hw
end Go.Proofs.YtelnlfhdaelfdaaDoor.Abs
end
section
set_option linter.unusedVariables false
set_option linter.unusedSimpArgs false
namespace Go.Proofs.YtelnlfhdaelfdaaDoor.Abs
open Go
attribute [local irreducible] ifB fitP Does Weaker
def ItemOk (l : List Tok) (f : Nat) : Prop := ∀ w : W, w.out.length ≤ 65600 → Byt w.out →
  ACall Tryd.prog 92 [.ref (wC l.length (toksC l) w), .int .i64 (7 - (f : Int))] (.tuple []) [.ref (wC l.length (toksC l) (wItem validR l f w))]
/-- bytes.Compare. -/
theorem compare_ok (x y : List Int) (hx : Byt x) (hy : Byt y) : ACall Tryd.prog 94 [.ro x.length (bys x), .ro y.length (bys y)] (.int .i64 (cmpI x y)) [] := by
  refine ACall.of_does TTok Tryd.func94 rfl Tryd.call94 rfl (wpc_sound (M := MC) (PL := PL0) (CU := noCut) TTok mixed _ _ _ ?_)
  conv => whnf
  refine ⟨⟨_, Tryd.func115, by kernel_rfl, by kernel_rfl, by kernel_rfl, by kernel_rfl⟩, ?_⟩
  conv => whnf
  repeat ((first | refine ifB_t ?_ | refine ifB_f ?_); conv => whnf)
  refine ⟨x, ⟨rfl, rfl, hx⟩, ?_⟩
  conv => whnf
  repeat ((first | refine ifB_t ?_ | refine ifB_f ?_); conv => whnf)
  refine ⟨y, ⟨rfl, rfl, hy⟩, ?_⟩
  conv => whnf
  repeat ((refine ⟨⟨rfl, rfl⟩, ?_⟩); conv => whnf)
  rfl
theorem many_bad (len : Nat) (L : List AV) (hL : pureL L = true) (w : W) (t : Tok) (d : Int) (h : wManyBad t = true ∨ 6 < d) :
    ACall Tryd.prog 113 [.ref (wC len L w), .agg (tokC t), .int .i64 d] (.tuple []) [.ref (wC len L { w with bad := true })] := by
  obtain ⟨at', out, bad⟩ := w
  refine ACall.of_does TTok Tryd.func113 rfl Tryd.call113 rfl (wpc_sound (M := MC) (PL := PL0) (CU := noCut) TTok mixed _ _ _ ?_)
  obtain ⟨tk, tn, tb⟩ := t
  conv => whnf
  repeat ((first | refine ⟨rfl, ?_⟩ | refine ⟨_, rfl, ?_⟩); conv => whnf)
  refine ifB_dec (fun k1 => ?_) (fun k1 => ?_)
  · conv => whnf
    repeat ((first | refine ifB_t ?_ | refine ⟨rfl, ?_⟩ | refine ⟨⟨rfl, rfl⟩, ?_⟩ | (refine ⟨⟨rfl, rfl, rfl, ?_, pureL_bys _⟩, ?_⟩; (focus (simp; done))) | (refine ⟨⟨rfl, rfl, ?_⟩, ?_⟩; (focus (first | assumption | exact pureL_bys _ | exact pureL_toks _))) | (refine ⟨⟨rfl, rfl, ?_⟩, ?_⟩; (focus (first | exact Nat.le_of_ble_eq_true rfl | (simp; done))))); conv => whnf)
    rfl
  conv => whnf
  repeat ((first | refine ifB_f ?_ | refine ⟨_, rfl, ?_⟩); conv => whnf)
  refine ifB_dec (fun k2 => ?_) (fun k2 => ?_)
  · conv => whnf
    repeat ((first | refine ifB_t ?_ | refine ⟨rfl, ?_⟩ | refine ⟨⟨rfl, rfl⟩, ?_⟩ | (refine ⟨⟨rfl, rfl, rfl, ?_, pureL_bys _⟩, ?_⟩; (focus (simp; done))) | (refine ⟨⟨rfl, rfl, ?_⟩, ?_⟩; (focus (first | assumption | exact pureL_bys _ | exact pureL_toks _))) | (refine ⟨⟨rfl, rfl, ?_⟩, ?_⟩; (focus (first | exact Nat.le_of_ble_eq_true rfl | (simp; done))))); conv => whnf)
    rfl
  conv => whnf
  repeat ((first | refine ifB_f ?_ | refine ⟨_, rfl, ?_⟩); conv => whnf)
  refine ifB_dec (fun k3 => ?_) (fun k3 => ?_)
  · conv => whnf
    repeat ((first | refine ifB_t ?_ | refine ⟨rfl, ?_⟩ | refine ⟨⟨rfl, rfl⟩, ?_⟩ | (refine ⟨⟨rfl, rfl, rfl, ?_, pureL_bys _⟩, ?_⟩; (focus (simp; done))) | (refine ⟨⟨rfl, rfl, ?_⟩, ?_⟩; (focus (first | assumption | exact pureL_bys _ | exact pureL_toks _))) | (refine ⟨⟨rfl, rfl, ?_⟩, ?_⟩; (focus (first | exact Nat.le_of_ble_eq_true rfl | (simp; done))))); conv => whnf)
    rfl
  conv => whnf
  repeat ((refine ifB_f ?_); conv => whnf)
  refine ifB_dec (fun k4 => ?_) (fun k4 => ?_)
  · conv => whnf
    repeat ((first | refine ⟨rfl, ?_⟩ | refine ⟨⟨rfl, rfl⟩, ?_⟩ | (refine ⟨⟨rfl, rfl, rfl, ?_, pureL_bys _⟩, ?_⟩; (focus (simp; done))) | (refine ⟨⟨rfl, rfl, ?_⟩, ?_⟩; (focus (first | assumption | exact pureL_bys _ | exact pureL_toks _))) | (refine ⟨⟨rfl, rfl, ?_⟩, ?_⟩; (focus (first | exact Nat.le_of_ble_eq_true rfl | (simp; done))))); conv => whnf)
    rfl
  exfalso
  simp only at k1 k2 k3 k4
  rcases h with h | h
  · simp [wManyBad] at h
    omega
  · omega
theorem many_arr (l : List Tok) (f : Nat) (hl : ToksOk l) (hi : ItemOk l f) (hf : f ≤ 6) (w : W) (hw : w.out.length ≤ 32768) (t : Tok) (hwb : Byt w.out) (hk : t.k = 5) (hb : wManyBad t = false) :
    ACall Tryd.prog 113 [.ref (wC l.length (toksC l) w), .agg (tokC t), .int .i64 (6 - (f : Int))] (.tuple []) [.ref (wC l.length (toksC l) (wArr (wItem validR l f) t.n.toNat (wHead 4 t.n w)))] := by
  have hL := pureL_toks l
  obtain ⟨at', out, bad⟩ := w
  obtain ⟨tk, tn, tb⟩ := t
  simp only [wManyBad, Bool.or_eq_false_iff, decide_eq_false_iff_not] at hb hk hw hwb ⊢
  obtain ⟨⟨hb1, hb2⟩, hb3⟩ := hb
  subst hk
  obtain ⟨N, rfl⟩ : ∃ N : Nat, tn = N := ⟨tn.toNat, by omega⟩
  have hh := whead_ok l.length (toksC l) hL ⟨at', out, bad⟩ (show out.length ≤ 1048576 by omega) 4 (N : Int) (by omega)
  have ho := wHead_out 4 (N : Int) ⟨at', out, bad⟩
  simp only at ho
  obtain ⟨w0, hw0⟩ : ∃ w0, w0 = wHead 4 (N : Int) ⟨at', out, bad⟩ := ⟨_, rfl⟩
  rw [← hw0] at hh ho ⊢
  rw [Int.toNat_natCast]
  have hi' : ∀ w : W, w.out.length ≤ 65600 → Byt w.out → ACall Tryd.prog 92 [.ref (wC l.length (toksC l) w), .int .i64 (6 - (f : Int) + 1)] (.tuple []) [.ref (wC l.length (toksC l) (wItem validR l f w))] := by
    intro w hw hwb
    have := hi w hw hwb
    rwa [show 7 - (f : Int) = 6 - f + 1 by omega] at this
  have hw0b : Byt w0.out := by rw [hw0]; exact wHead_byt _ _ (by omega) _ hwb
  clear hw0 hwb
  refine ACall.of_does TTok Tryd.func113 rfl Tryd.call113 rfl (wpc_sound (M := MC) (PL := PL0) (CU := noCut) TTok mixed _ _ _ ?_)
  conv => whnf
  repeat ((first | refine ifB_t ?_ | refine ifB_f ?_ | (refine ifB_neg (decide_eq_false (by first | omega | rfl | (dsimp only; omega))) ?_) | refine ⟨rfl, ?_⟩ | refine ⟨_, rfl, ?_⟩ | (refine ⟨⟨rfl, rfl, ?_, pureL_bys _⟩, ?_⟩; (focus (simp; done))) | (refine And.intro (by first | omega | rfl | (dsimp only; omega)) ?_)); conv => whnf)
  refine ⟨_, _, hh, by first | rfl | simp [noRoIf, noRoL, noRoV, noRoL_bys], ?_⟩
  conv => whnf
  refine Does.loop (fun p : Nat × W => mkSt [(0, .ptr 1 0), (2, .int .i64 (6 - (f : Int))), (4, .ptr 2 0), (6, .int .i64 (p.1 : Int))]
      [(1, [.ro l.length (toksC l), .int .i64 (p.2.at' : Int), .sl 3 0 p.2.out.length 1 false, .bool p.2.bad]), (2, tokC ⟨5, N, tb⟩), (3, bys p.2.out)] 4 120)
    (fun p => p.1 ≤ N ∧ p.2.out.length ≤ 65600 ∧ Byt p.2.out ∧ wArr (wItem validR l f) (N - p.1) p.2 = wArr (wItem validR l f) N w0) (fun p => N - p.1) ?_ (0, w0) ⟨Nat.zero_le _, by simp only; omega, hw0b, rfl⟩ ?_
  · rintro ⟨c, ⟨a, o, b⟩⟩ ⟨p1, p2, pb, p3⟩
    simp only at p1 p2 pb p3
    refine wpc_sound (M := MC) (PL := PL0) (CU := noCut) TTok mixed _ _ _ ?_
    conv => whnf
    repeat ((refine ⟨_, rfl, ?_⟩); conv => whnf)
    refine ifB_dec (fun k1 => ?_) (fun k1 => ?_)
    · simp only at k1
      cases b
      · conv => whnf
        repeat ((first | refine ifB_t ?_ | (refine fit_i64 ⟨by first | omega | rfl | (dsimp only; omega), by first | omega | rfl | (dsimp only; omega)⟩ ?_) | refine ⟨rfl, ?_⟩ | refine ⟨_, rfl, ?_⟩ | (refine ⟨⟨rfl, rfl, ?_, pureL_bys _⟩, ?_⟩; (focus (simp; done))) | (refine And.intro (by first | omega | rfl | (dsimp only; omega)) ?_)); conv => whnf)
        refine ⟨_, _, hi' ⟨a, o, false⟩ p2 pb, by first | rfl | simp [noRoIf, noRoL, noRoV, noRoL_bys], ?_⟩
        conv => whnf
        repeat ((refine fit_i64 ⟨by first | omega | rfl | (dsimp only; omega), by first | omega | rfl | (dsimp only; omega)⟩ ?_); conv => whnf)
        refine ⟨(c + 1, wItem validR l f ⟨a, o, false⟩), ⟨by simp only; omega, wItem_le validR l f _ p2, wItem_byt validR l hl f _ pb, ?_⟩, by simp only; omega, weaker_of [(2, 2), (3, 4)] rfl rfl ?_ ?_⟩
        · rw [← p3]
          obtain ⟨m, hm⟩ : ∃ m, N - c = m + 1 := ⟨N - c - 1, by omega⟩
          simp only
          rw [hm, show N - (c + 1) = m by omega]
          simp [wArr]
        · exact ⟨⟨rfl, rfl⟩, ⟨rfl, rfl⟩, ⟨rfl, rfl⟩, ⟨rfl, rfl⟩, trivial⟩
        · refine ⟨⟨⟨rfl, rfl, hL⟩, ⟨rfl, rfl⟩, ⟨rfl, rfl, rfl, rfl, id⟩, rfl, trivial⟩, ⟨⟨rfl, rfl⟩, ⟨rfl, rfl⟩, ⟨rfl, rfl, pureL_bys _⟩, trivial⟩, lesP_bys rfl, trivial⟩
      · have hfin : wArr (wItem validR l f) N w0 = ⟨a, o, true⟩ := by
          rw [← p3]
          obtain ⟨m, hm⟩ : ∃ m, N - c = m + 1 := ⟨N - c - 1, by omega⟩
          rw [hm]
          simp [wArr]
        rw [hfin]
        conv => whnf
        repeat ((first | refine ifB_t ?_ | refine ifB_f ?_ | refine ⟨rfl, ?_⟩ | refine ⟨_, rfl, ?_⟩ | refine ⟨⟨rfl, rfl⟩, ?_⟩ | (refine ⟨⟨rfl, rfl, rfl, ?_, pureL_bys _⟩, ?_⟩; (focus (simp; done))) | (refine ⟨⟨rfl, rfl, ?_⟩, ?_⟩; (focus (first | assumption | exact pureL_bys _ | exact pureL_toks _)))); conv => whnf)
        rfl
    · simp only at k1
      have hfin : wArr (wItem validR l f) N w0 = ⟨a, o, b⟩ := by
        rw [← p3, show N - c = 0 by omega]
        rfl
      rw [hfin]
      conv => whnf
      repeat ((first | refine ifB_f ?_ | refine ⟨rfl, ?_⟩ | refine ⟨⟨rfl, rfl⟩, ?_⟩ | (refine ⟨⟨rfl, rfl, rfl, ?_, pureL_bys _⟩, ?_⟩; (focus (simp; done))) | (refine ⟨⟨rfl, rfl, ?_⟩, ?_⟩; (focus (first | assumption | exact pureL_bys _ | exact pureL_toks _)))); conv => whnf)
      rfl
  · refine weaker_of [(2, 2), (3, 3)] rfl rfl ?_ ?_
    · exact ⟨⟨rfl, rfl⟩, ⟨rfl, rfl⟩, ⟨rfl, rfl⟩, ⟨rfl, rfl⟩, trivial⟩
    · refine ⟨⟨⟨rfl, rfl, hL⟩, ⟨rfl, rfl⟩, ⟨rfl, rfl, rfl, rfl, id⟩, rfl, trivial⟩, ⟨⟨rfl, rfl⟩, ⟨rfl, rfl⟩, ⟨rfl, rfl, pureL_bys _⟩, trivial⟩, lesP_bys rfl, trivial⟩
end Go.Proofs.YtelnlfhdaelfdaaDoor.Abs
end
section
set_option linter.unusedVariables false
set_option linter.unusedSimpArgs false
namespace Go.Proofs.YtelnlfhdaelfdaaDoor.Abs
open Go
attribute [local irreducible] ifB fitP Does Weaker
def PLmapY : Plan := .all [(21, takes [22, 23, 24])]
def PLmap : Nat → Bool × Plan := plans [(16, (false, takesTo [0, 1, 2] (.all [(3, takesTo [4, 5, 6, 7, 8, 9, 10, 12, 13, 15, 16, 17, 19] (.all [(11, takesTo [14] (.all [(18, takesTo [20] PLmapY)])), (18, takesTo [20] (.all [(11, takesTo [14] PLmapY)]))]))]))),
  (18, (true, takes [0, 1, 2, 3, 4, 5, 6, 7]))]
theorem many_map (l : List Tok) (f : Nat) (hl : ToksOk l) (hi : ItemOk l f) (hf : f ≤ 6) (w : W) (hw : w.out.length ≤ 32768) (t : Tok) (hwb : Byt w.out) (hk : t.k = 6) (hb : wManyBad t = false) :
    ACall Tryd.prog 113 [.ref (wC l.length (toksC l) w), .agg (tokC t), .int .i64 (6 - (f : Int))] (.tuple []) [.ref (wC l.length (toksC l) (wMap (wItem validR l f) t.n.toNat 0 0 0 (wHead 5 t.n w)))] := by
  have hL := pureL_toks l
  obtain ⟨at', out, bad⟩ := w
  obtain ⟨tk, tn, tb⟩ := t
  simp only [wManyBad, Bool.or_eq_false_iff, decide_eq_false_iff_not] at hb hk hw hwb ⊢
  obtain ⟨⟨hb1, hb2⟩, hb3⟩ := hb
  subst hk
  obtain ⟨N, rfl⟩ : ∃ N : Nat, tn = N := ⟨tn.toNat, by omega⟩
  have hh := whead_ok l.length (toksC l) hL ⟨at', out, bad⟩ (show out.length ≤ 1048576 by omega) 5 (N : Int) (by omega)
  have ho := wHead_out 5 (N : Int) ⟨at', out, bad⟩
  simp only at ho
  obtain ⟨w0, hw0⟩ : ∃ w0, w0 = wHead 5 (N : Int) ⟨at', out, bad⟩ := ⟨_, rfl⟩
  rw [← hw0] at hh ho ⊢
  rw [Int.toNat_natCast]
  have hi' : ∀ w : W, w.out.length ≤ 65600 → Byt w.out → ACall Tryd.prog 92 [.ref (wC l.length (toksC l) w), .int .i64 (6 - (f : Int) + 1)] (.tuple []) [.ref (wC l.length (toksC l) (wItem validR l f w))] := by
    intro w hw hwb
    have := hi w hw hwb
    rwa [show 7 - (f : Int) = 6 - f + 1 by omega] at this
  have hw0b : Byt w0.out := by rw [hw0]; exact wHead_byt _ _ (by omega) _ hwb
  clear hw0 hwb
  refine ACall.of_does TTok Tryd.func113 rfl Tryd.call113 rfl (wpc_sound (M := MC) (PL := PLmap) (CU := cutAt [200016]) TTok mixed _ _ _ ?_)
  conv => whnf
  repeat ((first | refine ifB_f ?_ | (refine ifB_neg (decide_eq_false (by first | omega | rfl | (dsimp only; omega))) ?_) | refine ⟨rfl, ?_⟩ | refine ⟨_, rfl, ?_⟩ | (refine ⟨⟨rfl, rfl, ?_, pureL_bys _⟩, ?_⟩; (focus (simp; done))) | (refine And.intro (by first | omega | rfl | (dsimp only; omega)) ?_)); conv => whnf)
  refine ⟨_, _, hh, by first | rfl | simp [noRoIf, noRoL, noRoV, noRoL_bys], ?_⟩
  conv => whnf
  refine Does.loop (fun p : Nat × Nat × Nat × W => mkSt [(0, .ptr 1 0), (2, .int .i64 (6 - (f : Int))), (4, .ptr 2 0), (7, .int .i64 (p.2.1 : Int)), (8, .int .i64 (p.2.2.1 : Int)), (9, .int .i64 (p.1 : Int))]
      [(1, [.ro l.length (toksC l), .int .i64 (p.2.2.2.at' : Int), .sl 3 0 p.2.2.2.out.length 1 false, .bool p.2.2.2.bad]), (2, tokC ⟨6, N, tb⟩), (3, bys p.2.2.2.out)] 4 120)
    (fun p => p.1 ≤ N ∧ p.2.2.2.out.length ≤ 65600 ∧ Byt p.2.2.2.out ∧ (p.2.2.2.bad = false → p.2.1 ≤ p.2.2.1 ∧ p.2.2.1 ≤ p.2.2.2.out.length) ∧ wMap (wItem validR l f) (N - p.1) p.1 p.2.1 p.2.2.1 p.2.2.2 = wMap (wItem validR l f) N 0 0 0 w0)
    (fun p => N - p.1) ?_ (0, 0, 0, w0) ⟨Nat.zero_le _, by simp only; omega, hw0b, fun _ => ⟨by simp, by simp⟩, rfl⟩ ?_
  · rintro ⟨c, x, y, ⟨a, o, b⟩⟩ ⟨p1, p2, pb, pxy, p3⟩
    simp only at p1 p2 pb pxy p3
    refine wpc_sound (M := MC) (PL := PLmap) (CU := cutAt [200016]) TTok mixed _ _ _ ?_
    conv => whnf
    repeat ((refine ⟨_, rfl, ?_⟩); conv => whnf)
    refine ifB_dec (fun k1 => ?_) (fun k1 => ?_)
    · simp only at k1
      cases b
      · obtain ⟨pxy1, pxy2⟩ := pxy rfl
        conv => whnf
        repeat ((first | refine ifB_t ?_ | (refine fit_i64 ⟨by first | omega | rfl | (dsimp only; omega), by first | omega | rfl | (dsimp only; omega)⟩ ?_) | refine ⟨rfl, ?_⟩ | refine ⟨_, rfl, ?_⟩ | (refine ⟨⟨rfl, rfl, ?_, pureL_bys _⟩, ?_⟩; (focus (simp; done))) | (refine And.intro (by first | omega | rfl | (dsimp only; omega)) ?_)); conv => whnf)
        refine ⟨_, _, hi' ⟨a, o, false⟩ p2 pb, by first | rfl | simp [noRoIf, noRoL, noRoV, noRoL_bys], ?_⟩
        conv => whnf
        obtain ⟨v, hv⟩ : ∃ v, v = wItem validR l f ⟨a, o, false⟩ := ⟨_, rfl⟩
        have hvm : v.bad = false → o.length ≤ v.out.length := fun h => by
          rw [hv] at h ⊢
          exact (wItem_mono validR l f _ h).2.length_le
        have hvb : Byt v.out := by rw [hv]; exact wItem_byt validR l hl f _ pb
        have hvl : v.out.length ≤ 65600 := by rw [hv]; exact wItem_le validR l f _ p2
        rw [← hv]
        refine Does.seqCut (α := Unit) (fun _ => mkSt [(0, .ptr 1 0), (2, .int .i64 (6 - (f : Int))), (4, .ptr 2 0), (7, .int .i64 (x : Int)), (8, .int .i64 (y : Int)), (9, .int .i64 (c : Int)), (10, .int .i64 (o.length : Int)),
            (106, .bool (v.bad || (decide (0 < c) && decide (0 ≤ cmpI ((v.out.drop x).take (y - x)) (v.out.drop o.length)))))]
          [(1, [.ro l.length (toksC l), .int .i64 (v.at' : Int), .sl 3 0 v.out.length 1 false, .bool v.bad]), (2, tokC ⟨6, N, tb⟩), (3, bys v.out)] 4 120) (fun _ => True) ?_ (fun _ _ => ?_)
        · refine wpc_sound (M := MC) (PL := PLmap) (CU := noCut) TTok mixed _ _ _ ?_
          conv => whnf
          refine ⟨by kernel_rfl, ?_⟩
          conv => whnf
          repeat ((refine ⟨_, rfl, ?_⟩); conv => whnf)
          obtain ⟨va, vo, vb⟩ := v
          cases vb
          · have hvm := hvm rfl
            simp only at hvm hvb hvl
            conv => whnf
            repeat ((refine ifB_f ?_); conv => whnf)
            refine ifB_dec (fun k2 => ?_) (fun k2 => ?_)
            · have k2' : 0 < c := by simp only at k2; omega
              conv => whnf
              repeat ((refine ifB_t ?_); conv => whnf)
              refine ⟨?_, ?_⟩
              · conv => whnf
                repeat ((first | refine ifB_t ?_ | refine ifB_f ?_); conv => whnf)
                conv => whnf
                repeat ((first | refine ifB_t ?_ | refine ⟨pureL_bys _, ?_⟩ | refine ⟨_, rfl, ?_⟩ | (refine ⟨⟨rfl, ?_⟩, ?_⟩; (focus (first | (simp only [okB]; omega) | (simp [okB]; omega))))); conv => whnf)
                refine Or.inr ?_
                conv => whnf
                repeat ((refine ⟨pureL_bys _, ?_⟩); conv => whnf)
                refine Or.inr ?_
                conv => whnf
                repeat ((refine ⟨rfl, ?_⟩); conv => whnf)
                refine ⟨_, _, ACall.arg2 (compare_ok ((vo.drop x).take (y - x)) (vo.drop o.length) (fun z hz => hvb z (List.mem_of_mem_drop (List.mem_of_mem_take hz))) (fun z hz => hvb z (List.mem_of_mem_drop hz))) (by simp [lenB]; omega) (by rw [part_bys (a := x) (b := y)] <;> simp [offB, lenB] <;> omega) (by simp [lenB]) (by rw [part_bys (a := o.length) (b := vo.length)] <;> simp [offB, lenB]; rw [List.take_of_length_le (by simp)]), by first | rfl | simp [noRoIf, noRoL, noRoV, noRoL_bys], ?_⟩
                conv => whnf
                repeat ((first | refine ifB_t ?_ | refine ifB_f ?_); conv => whnf)
                refine ⟨(), trivial, weaker_of [(2, 2), (3, 4)] rfl rfl ?_ ?_⟩
                · exact ⟨⟨rfl, rfl⟩, ⟨rfl, rfl⟩, ⟨rfl, rfl⟩, ⟨rfl, rfl⟩, ⟨rfl, rfl⟩, ⟨rfl, rfl⟩, ⟨rfl, rfl⟩, leP_bool (by simp [k2']), trivial⟩
                · exact ⟨⟨⟨rfl, rfl, hL⟩, ⟨rfl, rfl⟩, ⟨rfl, rfl, rfl, rfl, id⟩, rfl, trivial⟩, ⟨⟨rfl, rfl⟩, ⟨rfl, rfl⟩, ⟨rfl, rfl, pureL_bys _⟩, trivial⟩, lesP_bys rfl, trivial⟩
              · conv => whnf
                repeat ((first | refine ifB_t ?_ | refine ifB_f ?_); conv => whnf)
                conv => whnf
                repeat ((first | refine ifB_t ?_ | refine ⟨pureL_bys _, ?_⟩ | refine ⟨_, rfl, ?_⟩ | (refine ⟨⟨rfl, ?_⟩, ?_⟩; (focus (first | (simp only [okB]; omega) | (simp [okB]; omega))))); conv => whnf)
                refine Or.inr ?_
                conv => whnf
                repeat ((refine ⟨pureL_bys _, ?_⟩); conv => whnf)
                refine Or.inr ?_
                conv => whnf
                repeat ((refine ⟨rfl, ?_⟩); conv => whnf)
                refine ⟨_, _, ACall.arg2 (compare_ok ((vo.drop x).take (y - x)) (vo.drop o.length) (fun z hz => hvb z (List.mem_of_mem_drop (List.mem_of_mem_take hz))) (fun z hz => hvb z (List.mem_of_mem_drop hz))) (by simp [lenB]; omega) (by rw [part_bys (a := x) (b := y)] <;> simp [offB, lenB] <;> omega) (by simp [lenB]) (by rw [part_bys (a := o.length) (b := vo.length)] <;> simp [offB, lenB]; rw [List.take_of_length_le (by simp)]), by first | rfl | simp [noRoIf, noRoL, noRoV, noRoL_bys], ?_⟩
                conv => whnf
                repeat ((first | refine ifB_t ?_ | refine ifB_f ?_); conv => whnf)
                refine ⟨(), trivial, weaker_of [(2, 2), (3, 4)] rfl rfl ?_ ?_⟩
                · exact ⟨⟨rfl, rfl⟩, ⟨rfl, rfl⟩, ⟨rfl, rfl⟩, ⟨rfl, rfl⟩, ⟨rfl, rfl⟩, ⟨rfl, rfl⟩, ⟨rfl, rfl⟩, leP_bool (by simp [k2']), trivial⟩
                · exact ⟨⟨⟨rfl, rfl, hL⟩, ⟨rfl, rfl⟩, ⟨rfl, rfl, rfl, rfl, id⟩, rfl, trivial⟩, ⟨⟨rfl, rfl⟩, ⟨rfl, rfl⟩, ⟨rfl, rfl, pureL_bys _⟩, trivial⟩, lesP_bys rfl, trivial⟩
            · have k2' : ¬ 0 < c := by simp only at k2; omega
              conv => whnf
              repeat ((refine ifB_f ?_); conv => whnf)
              refine ⟨?_, ?_⟩
              · conv => whnf
                repeat ((first | refine ifB_t ?_ | refine ifB_f ?_); conv => whnf)
                conv => whnf
                refine ⟨(), trivial, weaker_of [(2, 2), (3, 4)] rfl rfl ?_ ?_⟩
                · exact ⟨⟨rfl, rfl⟩, ⟨rfl, rfl⟩, ⟨rfl, rfl⟩, ⟨rfl, rfl⟩, ⟨rfl, rfl⟩, ⟨rfl, rfl⟩, ⟨rfl, rfl⟩, leP_bool (by simp [k2']), trivial⟩
                · exact ⟨⟨⟨rfl, rfl, hL⟩, ⟨rfl, rfl⟩, ⟨rfl, rfl, rfl, rfl, id⟩, rfl, trivial⟩, ⟨⟨rfl, rfl⟩, ⟨rfl, rfl⟩, ⟨rfl, rfl, pureL_bys _⟩, trivial⟩, lesP_bys rfl, trivial⟩
              · conv => whnf
                repeat ((first | refine ifB_t ?_ | refine ifB_f ?_); conv => whnf)
                conv => whnf
                refine ⟨(), trivial, weaker_of [(2, 2), (3, 4)] rfl rfl ?_ ?_⟩
                · exact ⟨⟨rfl, rfl⟩, ⟨rfl, rfl⟩, ⟨rfl, rfl⟩, ⟨rfl, rfl⟩, ⟨rfl, rfl⟩, ⟨rfl, rfl⟩, ⟨rfl, rfl⟩, leP_bool (by simp [k2']), trivial⟩
                · exact ⟨⟨⟨rfl, rfl, hL⟩, ⟨rfl, rfl⟩, ⟨rfl, rfl, rfl, rfl, id⟩, rfl, trivial⟩, ⟨⟨rfl, rfl⟩, ⟨rfl, rfl⟩, ⟨rfl, rfl, pureL_bys _⟩, trivial⟩, lesP_bys rfl, trivial⟩
          · conv => whnf
            repeat ((refine ifB_t ?_); conv => whnf)
            refine ⟨?_, ?_⟩
            · conv => whnf
              repeat ((first | refine ifB_t ?_ | refine ifB_f ?_); conv => whnf)
              conv => whnf
              refine ⟨(), trivial, weaker_of [(2, 2), (3, 4)] rfl rfl ?_ ?_⟩
              · exact ⟨⟨rfl, rfl⟩, ⟨rfl, rfl⟩, ⟨rfl, rfl⟩, ⟨rfl, rfl⟩, ⟨rfl, rfl⟩, ⟨rfl, rfl⟩, ⟨rfl, rfl⟩, leP_bool (by simp), trivial⟩
              · exact ⟨⟨⟨rfl, rfl, hL⟩, ⟨rfl, rfl⟩, ⟨rfl, rfl, rfl, rfl, id⟩, rfl, trivial⟩, ⟨⟨rfl, rfl⟩, ⟨rfl, rfl⟩, ⟨rfl, rfl, pureL_bys _⟩, trivial⟩, lesP_bys rfl, trivial⟩
            · conv => whnf
              repeat ((first | refine ifB_t ?_ | refine ifB_f ?_); conv => whnf)
              conv => whnf
              refine ⟨(), trivial, weaker_of [(2, 2), (3, 4)] rfl rfl ?_ ?_⟩
              · exact ⟨⟨rfl, rfl⟩, ⟨rfl, rfl⟩, ⟨rfl, rfl⟩, ⟨rfl, rfl⟩, ⟨rfl, rfl⟩, ⟨rfl, rfl⟩, ⟨rfl, rfl⟩, leP_bool (by simp), trivial⟩
              · exact ⟨⟨⟨rfl, rfl, hL⟩, ⟨rfl, rfl⟩, ⟨rfl, rfl, rfl, rfl, id⟩, rfl, trivial⟩, ⟨⟨rfl, rfl⟩, ⟨rfl, rfl⟩, ⟨rfl, rfl, pureL_bys _⟩, trivial⟩, lesP_bys rfl, trivial⟩
        · refine wpc_sound (M := MC) (PL := PLmap) (CU := noCut) TTok mixed _ _ _ ?_
          conv => whnf
          obtain ⟨m, hm⟩ : ∃ m, N - c = m + 1 := ⟨N - c - 1, by omega⟩
          rw [hm] at p3
          simp only [wMap, ← hv, Bool.false_eq_true, if_false] at p3
          refine ifB_bool (fun hC => ?_) (fun hC => ?_)
          · rw [if_pos hC] at p3
            rw [← p3]
            conv => whnf
            repeat ((first | refine ⟨rfl, ?_⟩ | refine ⟨⟨rfl, rfl⟩, ?_⟩ | (refine ⟨⟨rfl, rfl, rfl, ?_, pureL_bys _⟩, ?_⟩; (focus (simp; done))) | (refine ⟨⟨rfl, rfl, ?_⟩, ?_⟩; (focus (first | assumption | exact pureL_bys _ | exact pureL_toks _))) | (refine ⟨⟨rfl, rfl, ?_⟩, ?_⟩; (focus (first | exact Nat.le_of_ble_eq_true rfl | (simp; done))))); conv => whnf)
            rfl
          · rw [if_neg (by rw [hC]; simp)] at p3
            have hvf : v.bad = false := by
              cases hh : v.bad
              · rfl
              · rw [hh] at hC; simp at hC
            have hvm2 := hvm hvf
            clear hvm
            obtain ⟨va, vo, vb⟩ := v
            simp only at hvf hvm2 hvl hvb
            subst hvf
            conv => whnf
            refine ⟨by kernel_rfl, ?_⟩
            conv => whnf
            repeat ((first | (refine fit_i64 ⟨by first | omega | rfl | (dsimp only; omega), by first | omega | rfl | (dsimp only; omega)⟩ ?_) | refine ⟨rfl, ?_⟩ | refine ⟨_, rfl, ?_⟩ | (refine ⟨⟨rfl, rfl, ?_, pureL_bys _⟩, ?_⟩; (focus (simp; done))) | (refine And.intro (by first | omega | rfl | (dsimp only; omega)) ?_)); conv => whnf)
            refine ⟨_, _, hi' ⟨va, vo, false⟩ hvl hvb, by first | rfl | simp [noRoIf, noRoL, noRoV, noRoL_bys], ?_⟩
            conv => whnf
            repeat ((refine fit_i64 ⟨by first | omega | rfl | (dsimp only; omega), by first | omega | rfl | (dsimp only; omega)⟩ ?_); conv => whnf)
            refine ⟨(c + 1, o.length, vo.length, wItem validR l f ⟨va, vo, false⟩), ⟨by simp only; omega, wItem_le validR l f _ hvl, wItem_byt validR l hl f _ hvb, fun hh => ⟨hvm2, ?_⟩, ?_⟩, by simp only; omega, weaker_of [(2, 2), (3, 4)] rfl rfl ?_ ?_⟩
            · exact (wItem_mono validR l f _ hh).2.length_le
            · rw [← p3]
              simp only
              rw [show N - (c + 1) = m by omega]
            · exact ⟨⟨rfl, rfl⟩, ⟨rfl, rfl⟩, ⟨rfl, rfl⟩, ⟨rfl, rfl⟩, ⟨rfl, rfl⟩, ⟨rfl, rfl⟩, trivial⟩
            · exact ⟨⟨⟨rfl, rfl, hL⟩, ⟨rfl, rfl⟩, ⟨rfl, rfl, rfl, rfl, id⟩, rfl, trivial⟩, ⟨⟨rfl, rfl⟩, ⟨rfl, rfl⟩, ⟨rfl, rfl, pureL_bys _⟩, trivial⟩, lesP_bys rfl, trivial⟩
      · have hfin : wMap (wItem validR l f) N 0 0 0 w0 = ⟨a, o, true⟩ := by
          rw [← p3]
          obtain ⟨m, hm⟩ : ∃ m, N - c = m + 1 := ⟨N - c - 1, by omega⟩
          rw [hm]
          simp [wMap]
        rw [hfin]
        conv => whnf
        repeat ((first | refine ifB_t ?_ | refine ifB_f ?_ | refine ⟨rfl, ?_⟩ | refine ⟨_, rfl, ?_⟩ | refine ⟨⟨rfl, rfl⟩, ?_⟩ | (refine ⟨⟨rfl, rfl, rfl, ?_, pureL_bys _⟩, ?_⟩; (focus (simp; done))) | (refine ⟨⟨rfl, rfl, ?_⟩, ?_⟩; (focus (first | assumption | exact pureL_bys _ | exact pureL_toks _)))); conv => whnf)
        rfl
    · simp only at k1
      have hfin : wMap (wItem validR l f) N 0 0 0 w0 = ⟨a, o, b⟩ := by
        rw [← p3, show N - c = 0 by omega]
        rfl
      rw [hfin]
      conv => whnf
      repeat ((first | refine ifB_f ?_ | refine ⟨rfl, ?_⟩ | refine ⟨⟨rfl, rfl⟩, ?_⟩ | (refine ⟨⟨rfl, rfl, rfl, ?_, pureL_bys _⟩, ?_⟩; (focus (simp; done))) | (refine ⟨⟨rfl, rfl, ?_⟩, ?_⟩; (focus (first | assumption | exact pureL_bys _ | exact pureL_toks _)))); conv => whnf)
      rfl
  · refine weaker_of [(2, 2), (3, 3)] rfl rfl ?_ ?_
    · exact ⟨⟨rfl, rfl⟩, ⟨rfl, rfl⟩, ⟨rfl, rfl⟩, ⟨rfl, rfl⟩, ⟨rfl, rfl⟩, ⟨rfl, rfl⟩, trivial⟩
    · refine ⟨⟨⟨rfl, rfl, hL⟩, ⟨rfl, rfl⟩, ⟨rfl, rfl, rfl, rfl, id⟩, rfl, trivial⟩, ⟨⟨rfl, rfl⟩, ⟨rfl, rfl⟩, ⟨rfl, rfl, pureL_bys _⟩, trivial⟩, lesP_bys rfl, trivial⟩
end Go.Proofs.YtelnlfhdaelfdaaDoor.Abs
end
section
set_option linter.unusedVariables false
set_option linter.unusedSimpArgs false
namespace Go.Proofs.YtelnlfhdaelfdaaDoor.Abs
open Go
attribute [local irreducible] ifB fitP Does Weaker
def PLitA : Plan := .all [(11, .done)]
def PLitB : Plan := takesTo [8, 9] (.all [(10, PLitA)])
def PLitC : Plan := takesTo [8, 9] PLitA
def PLit : Nat → Bool × Plan := plans [(0, (true, takes [0, 1, 2, 3, 4, 5, 6, 7, 8, 9, 10, 11, 12, 13, 14, 15, 16, 17])),
  (2, (false, takesTo [0, 1, 2, 4, 5, 6] (.all [(3, .all [(7, PLitB), (10, .all [(7, PLitC)])]), (7, .all [(3, PLitB), (10, .all [(3, PLitC)])]), (10, .all [(3, .all [(7, PLitC)]), (7, .all [(3, PLitC)])])])))]
theorem item_bad (l : List Tok) (w : W) (hw : w.out.length ≤ 65600) (h : l.length ≤ w.at' ∨ 32768 < w.out.length) (d : Int) :
    ACall Tryd.prog 92 [.ref (wC l.length (toksC l) w), .int .i64 d] (.tuple []) [.ref (wC l.length (toksC l) { w with bad := true })] := by
  have hL := pureL_toks l
  obtain ⟨at', out, bad⟩ := w
  refine ACall.of_does TTok Tryd.func92 rfl Tryd.call92 rfl (wpc_sound (M := MC) (PL := PLit) (CU := noCut) TTok mixed _ _ _ ?_)
  conv => whnf
  refine ⟨by kernel_rfl, ?_⟩
  conv => whnf
  repeat ((refine ⟨_, rfl, ?_⟩); conv => whnf)
  simp only at h hw
  refine ifB_dec (fun k1 => ?_) (fun k1 => ?_)
  · simp only at k1
    conv => whnf
    repeat ((first | refine ifB_t ?_ | refine ⟨rfl, ?_⟩ | refine ⟨⟨rfl, rfl⟩, ?_⟩ | (refine ⟨⟨rfl, rfl, rfl, ?_, pureL_bys _⟩, ?_⟩; (focus (simp; done))) | (refine ⟨⟨rfl, rfl, ?_⟩, ?_⟩; (focus (first | assumption | exact pureL_bys _ | exact pureL_toks _))) | (refine ⟨⟨rfl, rfl, ?_⟩, ?_⟩; (focus (first | exact Nat.le_of_ble_eq_true rfl | (simp; done))))); conv => whnf)
    rfl
  · simp only at k1
    have k2 : (32768 : Int) < out.length := by omega
    conv => whnf
    repeat ((first | refine ifB_f ?_ | (refine ifB_pos (decide_eq_true (by first | omega | rfl | (dsimp only; omega))) ?_) | refine ⟨rfl, ?_⟩ | refine ⟨_, rfl, ?_⟩ | refine ⟨⟨rfl, rfl⟩, ?_⟩ | (refine ⟨⟨rfl, rfl, rfl, ?_, pureL_bys _⟩, ?_⟩; (focus (simp; done))) | (refine ⟨⟨rfl, rfl, ?_⟩, ?_⟩; (focus (first | assumption | exact pureL_bys _ | exact pureL_toks _))) | (refine ⟨⟨rfl, rfl, ?_⟩, ?_⟩; (focus (first | exact Nat.le_of_ble_eq_true rfl | (simp; done))))); conv => whnf)
    rfl
/-- An item that stands there. -/
theorem item_at (l : List Tok) (hl : ToksOk l) (hlb : ∀ t ∈ l, t.b.length ≤ 1099511627776) (hll : l.length ≤ 1000000) (w : W) (hw : w.out.length ≤ 32768) (ha : w.at' < l.length) (d : Int) (R : W → Tok → W)
    (hm : (l[w.at'].k = 5 ∨ l[w.at'].k = 6) → ACall Tryd.prog 113 [.ref (wC l.length (toksC l) { w with at' := w.at' + 1 }), .agg (tokC l[w.at']), .int .i64 d] (.tuple []) [.ref (wC l.length (toksC l) (R { w with at' := w.at' + 1 } l[w.at']))]) :
    ACall Tryd.prog 92 [.ref (wC l.length (toksC l) w), .int .i64 d] (.tuple [])
      [.ref (wC l.length (toksC l) (if l[w.at'].k = 1 then wNumber 0 l[w.at'] { w with at' := w.at' + 1 } else if l[w.at'].k = 2 then wNumber 1 l[w.at'] { w with at' := w.at' + 1 }
        else if l[w.at'].k = 3 ∨ l[w.at'].k = 4 then wBytes validR l[w.at'] { w with at' := w.at' + 1 } else if l[w.at'].k = 5 ∨ l[w.at'].k = 6 then R { w with at' := w.at' + 1 } l[w.at'] else { w with at' := w.at' + 1, bad := true }))] := by
  have hL := pureL_toks l
  obtain ⟨at', out, bad⟩ := w
  simp only at ha hw hm ⊢
  obtain ⟨t, ht⟩ : ∃ t, t = l[at'] := ⟨_, rfl⟩
  have hto : TokOk t := by rw [ht]; exact hl _ (List.getElem_mem ha)
  have htb : t.b.length ≤ 1099511627776 := by rw [ht]; exact hlb _ (List.getElem_mem ha)
  have hld : ∀ m s : Nat, m = 3 * at' → s = 3 → takeN s ((toksC l).drop m) = some (tokC t) := by
    intro m s hm hs
    rw [takeN_tok ha hm hs, ht]
  rw [← ht] at hm ⊢
  refine ACall.of_does TTok Tryd.func92 rfl Tryd.call92 rfl (wpc_sound (M := MC) (PL := PLit) (CU := cutAt [200002]) TTok mixed _ _ _ ?_)
  conv => whnf
  refine ⟨by kernel_rfl, ?_⟩
  conv => whnf
  repeat ((first | refine ifB_f ?_ | (refine ifB_neg (decide_eq_false (by first | omega | rfl | (dsimp only; omega))) ?_) | refine ⟨_, rfl, ?_⟩); conv => whnf)
  refine Does.seqCut (α := Unit) (fun _ => mkSt [(0, .ptr 1 0), (1, .int .i64 d), (4, .ptr 2 0)]
    [(0, bys out), (1, [.ro l.length (toksC l), .int .i64 (at' : Int), .sl 0 0 out.length 1 false, .bool bad]), (2, tokC t)] 3 71) (fun _ => True) ?_ (fun _ _ => ?_)
  · refine wpc_sound (M := MC) (PL := PLit) (CU := noCut) TTok mixed _ _ _ ?_
    conv => whnf
    refine ⟨by kernel_rfl, ?_⟩
    conv => whnf
    refine ⟨?_, ?_, ?_⟩
    · conv => whnf
      repeat ((refine ⟨_, rfl, ?_⟩); conv => whnf)
      refine ⟨?_, ?_⟩
      · conv => whnf
        repeat ((first | refine ⟨_, rfl, ?_⟩ | (refine ⟨⟨?_, ?_, ?_⟩, ?_⟩; (focus omega); (focus (first | omega | (simp; done) | (simp; omega))); (focus (first | (simp; done) | (simp; omega) | (rw [toksC_length]; simp; omega)))) | (refine ⟨roLoad_ok rfl ?_, ?_⟩; (focus (simp [toksC_length]; omega)))); conv => whnf)
        refine ⟨_, hld _ _ (by simp; omega) rfl, ?_⟩
        conv => whnf
        repeat ((first | refine ⟨rfl, ?_⟩ | (refine ⟨⟨rfl, rfl, ?_⟩, ?_⟩; (focus (first | exact Nat.le_of_ble_eq_true rfl | (simp; done))))); conv => whnf)
        refine ⟨(), trivial, weaker_of [(2, 2)] rfl rfl ?_ ?_⟩
        · exact ⟨⟨rfl, rfl⟩, ⟨rfl, rfl⟩, ⟨rfl, rfl⟩, trivial⟩
        · exact ⟨lesP_bys rfl, ⟨⟨rfl, rfl, hL⟩, ⟨rfl, rfl⟩, ⟨rfl, rfl, rfl, rfl, id⟩, rfl, trivial⟩, ⟨⟨rfl, rfl⟩, ⟨rfl, rfl⟩, ⟨rfl, rfl, pureL_bys _⟩, trivial⟩, trivial⟩
      · conv => whnf
        repeat ((first | refine ⟨rfl, ?_⟩ | refine ⟨_, rfl, ?_⟩ | (refine ⟨⟨?_, ?_, ?_⟩, ?_⟩; (focus omega); (focus (first | omega | (simp; done) | (simp; omega))); (focus (first | (simp; done) | (simp; omega) | (rw [toksC_length]; simp; omega)))) | (refine ⟨roLoad_ok rfl ?_, ?_⟩; (focus (simp [toksC_length]; omega)))); conv => whnf)
        refine ⟨_, hld _ _ (by simp; omega) rfl, ?_⟩
        conv => whnf
        repeat ((refine ⟨⟨rfl, rfl, ?_⟩, ?_⟩; (focus (first | exact Nat.le_of_ble_eq_true rfl | (simp; done)))); conv => whnf)
        refine ⟨(), trivial, weaker_of [(2, 2)] rfl rfl ?_ ?_⟩
        · exact ⟨⟨rfl, rfl⟩, ⟨rfl, rfl⟩, ⟨rfl, rfl⟩, trivial⟩
        · exact ⟨lesP_bys rfl, ⟨⟨rfl, rfl, hL⟩, ⟨rfl, rfl⟩, ⟨rfl, rfl, rfl, rfl, id⟩, rfl, trivial⟩, ⟨⟨rfl, rfl⟩, ⟨rfl, rfl⟩, ⟨rfl, rfl, pureL_bys _⟩, trivial⟩, trivial⟩
    · conv => whnf
      repeat ((refine ⟨_, rfl, ?_⟩); conv => whnf)
      refine ⟨?_, ?_⟩
      · conv => whnf
        repeat ((first | refine ⟨_, rfl, ?_⟩ | (refine ⟨⟨?_, ?_, ?_⟩, ?_⟩; (focus omega); (focus (first | omega | (simp; done) | (simp; omega))); (focus (first | (simp; done) | (simp; omega) | (rw [toksC_length]; simp; omega)))) | (refine ⟨roLoad_ok rfl ?_, ?_⟩; (focus (simp [toksC_length]; omega)))); conv => whnf)
        refine ⟨_, hld _ _ (by simp; omega) rfl, ?_⟩
        conv => whnf
        repeat ((first | refine ⟨rfl, ?_⟩ | (refine ⟨⟨rfl, rfl, ?_⟩, ?_⟩; (focus (first | exact Nat.le_of_ble_eq_true rfl | (simp; done))))); conv => whnf)
        refine ⟨(), trivial, weaker_of [(2, 2)] rfl rfl ?_ ?_⟩
        · exact ⟨⟨rfl, rfl⟩, ⟨rfl, rfl⟩, ⟨rfl, rfl⟩, trivial⟩
        · exact ⟨lesP_bys rfl, ⟨⟨rfl, rfl, hL⟩, ⟨rfl, rfl⟩, ⟨rfl, rfl, rfl, rfl, id⟩, rfl, trivial⟩, ⟨⟨rfl, rfl⟩, ⟨rfl, rfl⟩, ⟨rfl, rfl, pureL_bys _⟩, trivial⟩, trivial⟩
      · conv => whnf
        repeat ((first | refine ⟨rfl, ?_⟩ | refine ⟨_, rfl, ?_⟩ | (refine ⟨⟨?_, ?_, ?_⟩, ?_⟩; (focus omega); (focus (first | omega | (simp; done) | (simp; omega))); (focus (first | (simp; done) | (simp; omega) | (rw [toksC_length]; simp; omega)))) | (refine ⟨roLoad_ok rfl ?_, ?_⟩; (focus (simp [toksC_length]; omega)))); conv => whnf)
        refine ⟨_, hld _ _ (by simp; omega) rfl, ?_⟩
        conv => whnf
        repeat ((refine ⟨⟨rfl, rfl, ?_⟩, ?_⟩; (focus (first | exact Nat.le_of_ble_eq_true rfl | (simp; done)))); conv => whnf)
        refine ⟨(), trivial, weaker_of [(2, 2)] rfl rfl ?_ ?_⟩
        · exact ⟨⟨rfl, rfl⟩, ⟨rfl, rfl⟩, ⟨rfl, rfl⟩, trivial⟩
        · exact ⟨lesP_bys rfl, ⟨⟨rfl, rfl, hL⟩, ⟨rfl, rfl⟩, ⟨rfl, rfl, rfl, rfl, id⟩, rfl, trivial⟩, ⟨⟨rfl, rfl⟩, ⟨rfl, rfl⟩, ⟨rfl, rfl, pureL_bys _⟩, trivial⟩, trivial⟩
    · conv => whnf
      repeat ((refine ⟨rfl, ?_⟩); conv => whnf)
      refine ⟨?_, ?_⟩
      · conv => whnf
        repeat ((first | refine ⟨_, rfl, ?_⟩ | (refine ⟨⟨?_, ?_, ?_⟩, ?_⟩; (focus omega); (focus (first | omega | (simp; done) | (simp; omega))); (focus (first | (simp; done) | (simp; omega) | (rw [toksC_length]; simp; omega)))) | (refine ⟨roLoad_ok rfl ?_, ?_⟩; (focus (simp [toksC_length]; omega)))); conv => whnf)
        refine ⟨_, hld _ _ (by simp; omega) rfl, ?_⟩
        conv => whnf
        repeat ((refine ⟨⟨rfl, rfl, ?_⟩, ?_⟩; (focus (first | exact Nat.le_of_ble_eq_true rfl | (simp; done)))); conv => whnf)
        refine ⟨(), trivial, weaker_of [(2, 2)] rfl rfl ?_ ?_⟩
        · exact ⟨⟨rfl, rfl⟩, ⟨rfl, rfl⟩, ⟨rfl, rfl⟩, trivial⟩
        · exact ⟨lesP_bys rfl, ⟨⟨rfl, rfl, hL⟩, ⟨rfl, rfl⟩, ⟨rfl, rfl, rfl, rfl, id⟩, rfl, trivial⟩, ⟨⟨rfl, rfl⟩, ⟨rfl, rfl⟩, ⟨rfl, rfl, pureL_bys _⟩, trivial⟩, trivial⟩
      · conv => whnf
        repeat ((first | refine ⟨_, rfl, ?_⟩ | (refine ⟨⟨?_, ?_, ?_⟩, ?_⟩; (focus omega); (focus (first | omega | (simp; done) | (simp; omega))); (focus (first | (simp; done) | (simp; omega) | (rw [toksC_length]; simp; omega)))) | (refine ⟨roLoad_ok rfl ?_, ?_⟩; (focus (simp [toksC_length]; omega)))); conv => whnf)
        refine ⟨_, hld _ _ (by simp; omega) rfl, ?_⟩
        conv => whnf
        repeat ((refine ⟨⟨rfl, rfl, ?_⟩, ?_⟩; (focus (first | exact Nat.le_of_ble_eq_true rfl | (simp; done)))); conv => whnf)
        refine ⟨(), trivial, weaker_of [(2, 2)] rfl rfl ?_ ?_⟩
        · exact ⟨⟨rfl, rfl⟩, ⟨rfl, rfl⟩, ⟨rfl, rfl⟩, trivial⟩
        · exact ⟨lesP_bys rfl, ⟨⟨rfl, rfl, hL⟩, ⟨rfl, rfl⟩, ⟨rfl, rfl, rfl, rfl, id⟩, rfl, trivial⟩, ⟨⟨rfl, rfl⟩, ⟨rfl, rfl⟩, ⟨rfl, rfl, pureL_bys _⟩, trivial⟩, trivial⟩
  · refine wpc_sound (M := MC) (PL := PLit) (CU := noCut) TTok mixed _ _ _ ?_
    conv => whnf
    repeat ((first | (refine fit_i64 ⟨by first | omega | rfl | (dsimp only; omega), by first | omega | rfl | (dsimp only; omega)⟩ ?_) | refine ⟨_, rfl, ?_⟩ | (refine ⟨⟨rfl, rfl, ?_⟩, ?_⟩; (focus (first | exact Nat.le_of_ble_eq_true rfl | (simp; done))))); conv => whnf)
    have hcast : ((at' + 1 : Nat) : Int) = (at' : Int) + 1 := by omega
    have hn1 := wnumber_ok l.length (toksC l) hL ⟨at' + 1, out, bad⟩ (show out.length ≤ 1048576 by omega)
    have hnb := wbytes_ok l.length (toksC l) hL ⟨at' + 1, out, bad⟩ (show out.length ≤ 1048576 by omega) t hto
    refine ifB_dec (fun k1 => ?_) (fun k1 => ?_)
    · rw [if_pos k1]
      conv => whnf
      repeat ((first | refine ⟨rfl, ?_⟩ | refine ⟨_, rfl, ?_⟩ | (refine ⟨⟨rfl, rfl, ?_, pureL_bys _⟩, ?_⟩; (focus (simp; done))) | (refine And.intro (by first | omega | rfl | (dsimp only; omega)) ?_) | (refine And.intro ?_ ?_; (focus (first | (simp only [pureL, pureV, pureL_bys, Bool.and_true, Bool.and_self]; done) | (simp only [pureL, pureV, pureL_bys, pureL_toks, Bool.and_true, Bool.and_self]; done))))); conv => whnf)
      refine ⟨_, _, hn1 0 t hto.2.1.2, by first | rfl | simp [noRoIf, noRoL, noRoV, noRoL_bys], ?_⟩
      conv => whnf
      repeat ((first | refine ⟨rfl, ?_⟩ | refine ⟨⟨rfl, rfl⟩, ?_⟩ | (refine ⟨⟨rfl, rfl, rfl, ?_, pureL_bys _⟩, ?_⟩; (focus (simp; done))) | (refine ⟨⟨rfl, rfl, ?_⟩, ?_⟩; (focus (first | assumption | exact pureL_bys _ | exact pureL_toks _)))); conv => whnf)
      rfl
    rw [if_neg k1]
    conv => whnf
    refine ifB_dec (fun k2 => ?_) (fun k2 => ?_)
    · rw [if_pos k2]
      conv => whnf
      repeat ((first | refine ⟨rfl, ?_⟩ | refine ⟨_, rfl, ?_⟩ | (refine ⟨⟨rfl, rfl, ?_, pureL_bys _⟩, ?_⟩; (focus (simp; done))) | (refine And.intro (by first | omega | rfl | (dsimp only; omega)) ?_) | (refine And.intro ?_ ?_; (focus (first | (simp only [pureL, pureV, pureL_bys, Bool.and_true, Bool.and_self]; done) | (simp only [pureL, pureV, pureL_bys, pureL_toks, Bool.and_true, Bool.and_self]; done))))); conv => whnf)
      refine ⟨_, _, hn1 1 t hto.2.1.2, by first | rfl | simp [noRoIf, noRoL, noRoV, noRoL_bys], ?_⟩
      conv => whnf
      repeat ((first | refine ⟨rfl, ?_⟩ | refine ⟨⟨rfl, rfl⟩, ?_⟩ | (refine ⟨⟨rfl, rfl, rfl, ?_, pureL_bys _⟩, ?_⟩; (focus (simp; done))) | (refine ⟨⟨rfl, rfl, ?_⟩, ?_⟩; (focus (first | assumption | exact pureL_bys _ | exact pureL_toks _)))); conv => whnf)
      rfl
    rw [if_neg k2]
    conv => whnf
    refine ifB_dec (fun k3 => ?_) (fun k3 => ?_)
    · rw [if_pos (Or.inl k3)]
      conv => whnf
      repeat ((first | refine ifB_t ?_ | refine ⟨rfl, ?_⟩ | refine ⟨_, rfl, ?_⟩ | (refine ⟨⟨rfl, rfl, ?_, pureL_bys _⟩, ?_⟩; (focus (simp; done))) | (refine And.intro (by first | omega | rfl | (dsimp only; omega)) ?_) | (refine And.intro ?_ ?_; (focus (first | (simp only [pureL, pureV, pureL_bys, Bool.and_true, Bool.and_self]; done) | (simp only [pureL, pureV, pureL_bys, pureL_toks, Bool.and_true, Bool.and_self]; done))))); conv => whnf)
      refine ⟨_, _, hnb (Or.inl k3) htb, by first | rfl | simp [noRoIf, noRoL, noRoV, noRoL_bys], ?_⟩
      conv => whnf
      repeat ((first | refine ⟨rfl, ?_⟩ | refine ⟨⟨rfl, rfl⟩, ?_⟩ | (refine ⟨⟨rfl, rfl, rfl, ?_, pureL_bys _⟩, ?_⟩; (focus (simp; done))) | (refine ⟨⟨rfl, rfl, ?_⟩, ?_⟩; (focus (first | assumption | exact pureL_bys _ | exact pureL_toks _)))); conv => whnf)
      rfl
    conv => whnf
    refine ifB_dec (fun k4 => ?_) (fun k4 => ?_)
    · rw [if_pos (Or.inr k4)]
      conv => whnf
      repeat ((first | refine ⟨rfl, ?_⟩ | refine ⟨_, rfl, ?_⟩ | (refine ⟨⟨rfl, rfl, ?_, pureL_bys _⟩, ?_⟩; (focus (simp; done))) | (refine And.intro (by first | omega | rfl | (dsimp only; omega)) ?_) | (refine And.intro ?_ ?_; (focus (first | (simp only [pureL, pureV, pureL_bys, Bool.and_true, Bool.and_self]; done) | (simp only [pureL, pureV, pureL_bys, pureL_toks, Bool.and_true, Bool.and_self]; done))))); conv => whnf)
      refine ⟨_, _, hnb (Or.inr k4) htb, by first | rfl | simp [noRoIf, noRoL, noRoV, noRoL_bys], ?_⟩
      conv => whnf
      repeat ((first | refine ⟨rfl, ?_⟩ | refine ⟨⟨rfl, rfl⟩, ?_⟩ | (refine ⟨⟨rfl, rfl, rfl, ?_, pureL_bys _⟩, ?_⟩; (focus (simp; done))) | (refine ⟨⟨rfl, rfl, ?_⟩, ?_⟩; (focus (first | assumption | exact pureL_bys _ | exact pureL_toks _)))); conv => whnf)
      rfl
    rw [if_neg (by omega)]
    conv => whnf
    refine ifB_dec (fun k5 => ?_) (fun k5 => ?_)
    · rw [if_pos (Or.inl k5)]
      conv => whnf
      repeat ((first | refine ifB_t ?_ | refine ⟨rfl, ?_⟩ | refine ⟨_, rfl, ?_⟩ | (refine ⟨⟨rfl, rfl, ?_, pureL_bys _⟩, ?_⟩; (focus (simp; done))) | (refine And.intro (by first | omega | rfl | (dsimp only; omega)) ?_) | (refine And.intro ?_ ?_; (focus (first | (simp only [pureL, pureV, pureL_bys, Bool.and_true, Bool.and_self]; done) | (simp only [pureL, pureV, pureL_bys, pureL_toks, Bool.and_true, Bool.and_self]; done))))); conv => whnf)
      refine ⟨_, _, hm (Or.inl k5), by first | rfl | simp [noRoIf, noRoL, noRoV, noRoL_bys], ?_⟩
      conv => whnf
      repeat ((first | refine ⟨rfl, ?_⟩ | refine ⟨⟨rfl, rfl⟩, ?_⟩ | (refine ⟨⟨rfl, rfl, rfl, ?_, pureL_bys _⟩, ?_⟩; (focus (simp; done))) | (refine ⟨⟨rfl, rfl, ?_⟩, ?_⟩; (focus (first | assumption | exact pureL_bys _ | exact pureL_toks _)))); conv => whnf)
      rfl
    conv => whnf
    refine ifB_dec (fun k6 => ?_) (fun k6 => ?_)
    · rw [if_pos (Or.inr k6)]
      conv => whnf
      repeat ((first | refine ⟨rfl, ?_⟩ | refine ⟨_, rfl, ?_⟩ | (refine ⟨⟨rfl, rfl, ?_, pureL_bys _⟩, ?_⟩; (focus (simp; done))) | (refine And.intro (by first | omega | rfl | (dsimp only; omega)) ?_) | (refine And.intro ?_ ?_; (focus (first | (simp only [pureL, pureV, pureL_bys, Bool.and_true, Bool.and_self]; done) | (simp only [pureL, pureV, pureL_bys, pureL_toks, Bool.and_true, Bool.and_self]; done))))); conv => whnf)
      refine ⟨_, _, hm (Or.inr k6), by first | rfl | simp [noRoIf, noRoL, noRoV, noRoL_bys], ?_⟩
      conv => whnf
      repeat ((first | refine ⟨rfl, ?_⟩ | refine ⟨⟨rfl, rfl⟩, ?_⟩ | (refine ⟨⟨rfl, rfl, rfl, ?_, pureL_bys _⟩, ?_⟩; (focus (simp; done))) | (refine ⟨⟨rfl, rfl, ?_⟩, ?_⟩; (focus (first | assumption | exact pureL_bys _ | exact pureL_toks _)))); conv => whnf)
      rfl
    rw [if_neg (by omega)]
    conv => whnf
    repeat ((first | refine ⟨rfl, ?_⟩ | refine ⟨⟨rfl, rfl⟩, ?_⟩ | (refine ⟨⟨rfl, rfl, rfl, ?_, pureL_bys _⟩, ?_⟩; (focus (simp; done))) | (refine ⟨⟨rfl, rfl, ?_⟩, ?_⟩; (focus (first | assumption | exact pureL_bys _ | exact pureL_toks _))) | (refine ⟨⟨rfl, rfl, ?_⟩, ?_⟩; (focus (first | exact Nat.le_of_ble_eq_true rfl | (simp; done))))); conv => whnf)
    rfl
theorem item_ok (l : List Tok) (hl : ToksOk l) (hlb : ∀ t ∈ l, t.b.length ≤ 1099511627776) (hll : l.length ≤ 1000000) : ∀ f : Nat, f ≤ 6 → ItemOk l f
  | 0, _ => by
    intro w hw hwb
    unfold wItem
    by_cases h : l.length ≤ w.at' ∨ 32768 < w.out.length
    · rw [dif_pos h]
      exact item_bad l w hw h _
    · rw [dif_neg h]
      exact item_at l hl hlb hll w (by omega) (by omega) _ (fun w t => { w with bad := true }) (fun hk => many_bad _ _ (pureL_toks l) _ _ _ (.inr (by simp)))
  | f + 1, hf => by
    have ih := item_ok l hl hlb hll f (by omega)
    intro w hw hwb
    unfold wItem
    by_cases h : l.length ≤ w.at' ∨ 32768 < w.out.length
    · rw [dif_pos h]
      exact item_bad l w hw h _
    · rw [dif_neg h]
      have e : 7 - ((f + 1 : Nat) : Int) = 6 - f := by omega
      rw [e]
      refine item_at l hl hlb hll w (by omega) (by omega) _ (fun w t => if wManyBad t then { w with bad := true } else if t.k = 5 then wArr (wItem validR l f) t.n.toNat (wHead 4 t.n w) else wMap (wItem validR l f) t.n.toNat 0 0 0 (wHead 5 t.n w)) (fun hk => ?_)
      simp only
      by_cases hb : wManyBad l[w.at'] = true
      · rw [if_pos hb]
        exact many_bad _ _ (pureL_toks l) _ _ _ (.inl hb)
      · rw [if_neg hb]
        have hb : wManyBad l[w.at'] = false := by simpa using hb
        by_cases h5 : l[w.at'].k = 5
        · rw [if_pos h5]
          exact many_arr l f hl ih (by omega) { w with at' := w.at' + 1 } (show w.out.length ≤ 32768 by omega) _ hwb h5 hb
        · rw [if_neg h5]
          exact many_map l f hl ih (by omega) { w with at' := w.at' + 1 } (show w.out.length ≤ 32768 by omega) _ hwb (by omega) hb
theorem encode_ok (l : List Tok) (hl : ToksOk l) (hlb : ∀ t ∈ l, t.b.length ≤ 1099511627776) : ACall Tryd.prog 58 [.ro l.length (toksC l)]
    (.tuple [.own (encR validR l).1.length 1 (bys (encR validR l).1), .int .i64 (encR validR l).2]) [] := by
  have hL := pureL_toks l
  refine ACall.of_does TTok Tryd.func58 rfl Tryd.call58 rfl (wpc_sound (M := MC) (PL := PL0) (CU := noCut) TTok mixed _ _ _ ?_)
  conv => whnf
  unfold encR
  refine ifB_dec (fun k1 => ?_) (fun k1 => ?_)
  · rw [if_pos (by omega)]
    conv => whnf
    repeat ((refine ⟨⟨rfl, rfl⟩, ?_⟩); conv => whnf)
    rfl
  rw [if_neg (by omega)]
  have hi := item_ok l hl hlb (by omega) 6 (by omega) ⟨0, [], false⟩ (by simp) (by simp [Byt])
  have hle := wItem_le validR l 6 ⟨0, [], false⟩ (by simp)
  obtain ⟨w, hw⟩ : ∃ w, w = wItem validR l 6 ⟨0, [], false⟩ := ⟨_, rfl⟩
  rw [← hw] at hi hle ⊢
  rw [show (7 : Int) - ((6 : Nat) : Int) = 1 from rfl] at hi
  obtain ⟨wa, wo, wb⟩ := w
  conv => whnf
  repeat ((first | refine ⟨rfl, ?_⟩ | (refine And.intro (by first | omega | rfl | (dsimp only; omega)) ?_)); conv => whnf)
  refine ⟨_, _, hi, by first | rfl | simp [noRoIf, noRoL, noRoV, noRoL_bys], ?_⟩
  conv => whnf
  repeat ((refine ⟨_, rfl, ?_⟩); conv => whnf)
  cases wb
  · conv => whnf
    repeat ((first | refine ifB_f ?_ | refine ⟨_, rfl, ?_⟩); conv => whnf)
    refine ifB_dec (fun k2 => ?_) (fun k2 => ?_)
    · simp only at k2
      rw [if_pos (by simp; omega)]
      conv => whnf
      repeat ((first | refine ifB_t ?_ | refine ⟨⟨rfl, rfl⟩, ?_⟩); conv => whnf)
      rfl
    · simp only at k2
      conv => whnf
      repeat ((first | refine ifB_f ?_ | refine ⟨_, rfl, ?_⟩); conv => whnf)
      refine ifB_dec (fun k3 => ?_) (fun k3 => ?_)
      · simp only at k3
        rw [if_pos (by simp; omega)]
        conv => whnf
        repeat ((refine ⟨⟨rfl, rfl⟩, ?_⟩); conv => whnf)
        rfl
      · simp only at k3
        rw [if_neg (by simp; omega)]
        conv => whnf
        repeat ((first | refine ⟨_, rfl, ?_⟩ | refine ⟨⟨rfl, rfl⟩, ?_⟩ | (refine ⟨⟨rfl, rfl, rfl, ?_, pureL_bys _⟩, ?_⟩; (focus (simp; done)))); conv => whnf)
        rfl
  · rw [if_pos (by simp)]
    conv => whnf
    repeat ((first | refine ifB_t ?_ | refine ⟨⟨rfl, rfl⟩, ?_⟩); conv => whnf)
    rfl
end Go.Proofs.YtelnlfhdaelfdaaDoor.Abs
end
section
set_option linter.unusedVariables false
set_option linter.unusedSimpArgs false
namespace Go.Proofs.YtelnlfhdaelfdaaDoor.Abs
open Go
attribute [local irreducible] ifB fitP Does Weaker
theorem bclone_ok (l : List Int) (hl : l.length ≤ 17592186044416) : ACall Tryd.prog 121 [.ro l.length (bys l)] (.own l.length 1 (bys l)) [] := by
  refine ACall.of_does TTok Tryd.func121 rfl Tryd.call121 rfl (wpc_sound (M := MC) (PL := PL0) (CU := noCut) TTok mixed _ _ _ ?_)
  conv => whnf
  repeat ((first | refine ifB_t ?_ | refine ifB_f ?_); conv => whnf)
  refine ⟨fun h => ?_, ?_⟩
  · conv => whnf
    repeat ((first | refine ifB_t ?_ | refine ifB_f ?_); conv => whnf)
    have h0 : l = [] := bys_nil h
    subst h0
    exact ⟨⟨rfl, rfl⟩, rfl⟩
  · conv => whnf
    repeat ((first | refine ifB_t ?_ | refine ifB_f ?_); conv => whnf)
    refine ⟨by simp, ?_⟩
    conv => whnf
    repeat ((first | refine ifB_t ?_ | refine ifB_f ?_); conv => whnf)
    refine ⟨ones_bys l, ?_⟩
    conv => whnf
    repeat ((first | refine ifB_t ?_ | refine ifB_f ?_); conv => whnf)
    refine ⟨⟨rfl, by simp, Or.inl rfl, by simp [limB]; omega⟩, ?_⟩
    conv => whnf
    repeat ((first | refine ifB_t ?_ | refine ifB_f ?_); conv => whnf)
    exact ⟨⟨by simp, rfl, rfl, by simp, pureL_bys _⟩, rfl⟩
def PLpart : Nat → Bool × Plan := plans [(1, (true, takes [0, 1, 2, 3, 4, 5, 6, 7, 8, 9, 10, 11])), (4, (false, (takesTo [0, 1, 2, 4, 5, 6, 8, 9, 10, 12] (.all [(3, (.all [(7, (.all [(11, (takesTo [13, 14] (.all [(15, (takes [16]))])))])), (11, (takesTo [13] (.all [(7, (takesTo [14] (.all [(15, (takes [16]))])))])))])), (7, (.all [(3, (.all [(11, (takesTo [13, 14] (.all [(15, (takes [16]))])))])), (11, (takesTo [13] (.all [(3, (takesTo [14] (.all [(15, (takes [16]))])))])))])), (11, (takesTo [13] (.all [(3, (.all [(7, (takesTo [14] (.all [(15, (takes [16]))])))])), (7, (.all [(3, (takesTo [14] (.all [(15, (takes [16]))])))]))])))]))))]
theorem part_no (b : List Int) (at' n : Nat) (bad : Bool) (hat : at' ≤ b.length) (hl : b.length ≤ 1099511627776) (h : b.length < at' + n) :
    ACall Tryd.prog 129 [.ref [.ro b.length (bys b), .int .i64 (at' : Int), .hid 0, .bool bad], .int .i64 (n : Int)] (.ro 0 []) [.ref [.ro b.length (bys b), .int .i64 (at' : Int), .hid 0, .bool true]] := by
  refine ACall.of_does TTok Tryd.func129 rfl Tryd.call129 rfl (wpc_sound (M := MC) (PL := PLpart) (CU := noCut) TTok mixed _ _ _ ?_)
  conv => whnf
  repeat ((first | refine ifB_t ?_ | refine ifB_f ?_); conv => whnf)
  refine ⟨by kernel_rfl, ?_⟩
  conv => whnf
  repeat ((first | (refine ifB_pos (decide_eq_true (by first | omega | rfl | (dsimp only; omega))) ?_) | (refine fit_i64 ⟨by first | omega | rfl | (dsimp only; omega), by first | omega | rfl | (dsimp only; omega)⟩ ?_) | refine ⟨rfl, ?_⟩ | refine ⟨_, rfl, ?_⟩ | refine ⟨⟨rfl, rfl⟩, ?_⟩ | (refine ⟨⟨rfl, rfl, ?_⟩, ?_⟩; (focus (first | assumption | exact pureL_bys _ | exact pureL_toks _))) | (refine ⟨⟨rfl, rfl, ?_⟩, ?_⟩; (focus (first | exact Nat.le_of_ble_eq_true rfl | (simp; done))))); conv => whnf)
  rfl
theorem part_yes (b : List Int) (at' n : Nat) (bad : Bool) (hl : b.length ≤ 1099511627776) (h : at' + n ≤ b.length) :
    ACall Tryd.prog 129 [.ref [.ro b.length (bys b), .int .i64 (at' : Int), .hid 0, .bool bad], .int .i64 (n : Int)] (.ro n (bys ((b.drop at').take n))) [.ref [.ro b.length (bys b), .int .i64 ((at' : Int) + n), .hid 0, .bool bad]] := by
  refine ACall.of_does TTok Tryd.func129 rfl Tryd.call129 rfl (wpc_sound (M := MC) (PL := PLpart) (CU := cutAt [200004]) TTok mixed _ _ _ ?_)
  conv => whnf
  repeat ((first | refine ifB_t ?_ | refine ifB_f ?_); conv => whnf)
  refine ⟨by kernel_rfl, ?_⟩
  conv => whnf
  repeat ((first | (refine ifB_neg (decide_eq_false (by first | omega | rfl | (dsimp only; omega))) ?_) | (refine fit_i64 ⟨by first | omega | rfl | (dsimp only; omega), by first | omega | rfl | (dsimp only; omega)⟩ ?_) | refine ⟨_, rfl, ?_⟩); conv => whnf)
  refine Does.seqCut (α := Unit) (fun _ => mkSt [(0, .ptr 0 0), (1, .int .i64 (n : Int)), (5, .sl 1 0 ((b.drop at').take n).length 1 false)]
    [(0, [.ro b.length (bys b), .int .i64 (at' : Int), .hid 0, .bool bad]), (1, bys ((b.drop at').take n))] 2 46) (fun _ => True) ?_ (fun _ _ => ?_)
  · refine wpc_sound (M := MC) (PL := PLpart) (CU := noCut) TTok mixed _ _ _ ?_
    conv => whnf
    refine ⟨by kernel_rfl, ?_⟩
    conv => whnf
    refine ⟨?_, ?_, ?_⟩
    · conv => whnf
      repeat ((refine ⟨_, rfl, ?_⟩); conv => whnf)
      refine ⟨?_, ?_⟩
      · conv => whnf
        repeat ((first | (refine fit_i64 ⟨by first | omega | rfl | (dsimp only; omega), by first | omega | rfl | (dsimp only; omega)⟩ ?_) | refine ⟨pureL_cutB _ _ _ _, ?_⟩ | refine ⟨rfl, ?_⟩ | refine ⟨_, rfl, ?_⟩ | (refine ⟨⟨?_, ?_⟩, ?_⟩; (focus (simp; done)); (focus (first | (simp only [okB]; omega) | (simp [okB]; omega))))); conv => whnf)
        refine ⟨_, _, ACall.arg1 (bclone_ok ((b.drop at').take n) (by simp; omega)) (by simp [lenB]; omega) (by simp [cutB, bys_drop, bys_take]; rw [show ((at' : Int) + n).toNat - at' = n by omega]), by first | rfl | simp [noRoIf, noRoL, noRoV, noRoL_bys], ?_⟩
        conv => whnf
        refine ⟨(), trivial, weaker_of [(1, 1)] rfl rfl ?_ ?_⟩
        · exact ⟨⟨rfl, rfl⟩, ⟨rfl, rfl⟩, ⟨rfl, rfl, rfl, rfl, id⟩, trivial⟩
        · exact ⟨⟨⟨rfl, rfl, pureL_bys _⟩, ⟨rfl, rfl⟩, rfl, rfl, trivial⟩, lesP_bys rfl, trivial⟩
      · conv => whnf
        repeat ((first | (refine fit_i64 ⟨by first | omega | rfl | (dsimp only; omega), by first | omega | rfl | (dsimp only; omega)⟩ ?_) | refine ⟨pureL_cutB _ _ _ _, ?_⟩ | refine ⟨rfl, ?_⟩ | refine ⟨_, rfl, ?_⟩ | (refine ⟨⟨?_, ?_⟩, ?_⟩; (focus (simp; done)); (focus (first | (simp only [okB]; omega) | (simp [okB]; omega))))); conv => whnf)
        refine ⟨_, _, ACall.arg1 (bclone_ok ((b.drop at').take n) (by simp; omega)) (by simp [lenB]; omega) (by simp [cutB, bys_drop, bys_take]; rw [show ((at' : Int) + n).toNat - at' = n by omega]), by first | rfl | simp [noRoIf, noRoL, noRoV, noRoL_bys], ?_⟩
        conv => whnf
        refine ⟨(), trivial, weaker_of [(1, 1)] rfl rfl ?_ ?_⟩
        · exact ⟨⟨rfl, rfl⟩, ⟨rfl, rfl⟩, ⟨rfl, rfl, rfl, rfl, id⟩, trivial⟩
        · exact ⟨⟨⟨rfl, rfl, pureL_bys _⟩, ⟨rfl, rfl⟩, rfl, rfl, trivial⟩, lesP_bys rfl, trivial⟩
    · conv => whnf
      repeat ((refine ⟨_, rfl, ?_⟩); conv => whnf)
      refine ⟨?_, ?_⟩
      · conv => whnf
        repeat ((first | (refine fit_i64 ⟨by first | omega | rfl | (dsimp only; omega), by first | omega | rfl | (dsimp only; omega)⟩ ?_) | refine ⟨pureL_cutB _ _ _ _, ?_⟩ | refine ⟨rfl, ?_⟩ | refine ⟨_, rfl, ?_⟩ | (refine ⟨⟨?_, ?_⟩, ?_⟩; (focus (simp; done)); (focus (first | (simp only [okB]; omega) | (simp [okB]; omega))))); conv => whnf)
        refine ⟨_, _, ACall.arg1 (bclone_ok ((b.drop at').take n) (by simp; omega)) (by simp [lenB]; omega) (by simp [cutB, bys_drop, bys_take]; rw [show ((at' : Int) + n).toNat - at' = n by omega]), by first | rfl | simp [noRoIf, noRoL, noRoV, noRoL_bys], ?_⟩
        conv => whnf
        refine ⟨(), trivial, weaker_of [(1, 1)] rfl rfl ?_ ?_⟩
        · exact ⟨⟨rfl, rfl⟩, ⟨rfl, rfl⟩, ⟨rfl, rfl, rfl, rfl, id⟩, trivial⟩
        · exact ⟨⟨⟨rfl, rfl, pureL_bys _⟩, ⟨rfl, rfl⟩, rfl, rfl, trivial⟩, lesP_bys rfl, trivial⟩
      · conv => whnf
        repeat ((first | (refine fit_i64 ⟨by first | omega | rfl | (dsimp only; omega), by first | omega | rfl | (dsimp only; omega)⟩ ?_) | refine ⟨pureL_cutB _ _ _ _, ?_⟩ | refine ⟨rfl, ?_⟩ | refine ⟨_, rfl, ?_⟩ | (refine ⟨⟨?_, ?_⟩, ?_⟩; (focus (simp; done)); (focus (first | (simp only [okB]; omega) | (simp [okB]; omega))))); conv => whnf)
        refine ⟨_, _, ACall.arg1 (bclone_ok ((b.drop at').take n) (by simp; omega)) (by simp [lenB]; omega) (by simp [cutB, bys_drop, bys_take]; rw [show ((at' : Int) + n).toNat - at' = n by omega]), by first | rfl | simp [noRoIf, noRoL, noRoV, noRoL_bys], ?_⟩
        conv => whnf
        refine ⟨(), trivial, weaker_of [(1, 1)] rfl rfl ?_ ?_⟩
        · exact ⟨⟨rfl, rfl⟩, ⟨rfl, rfl⟩, ⟨rfl, rfl, rfl, rfl, id⟩, trivial⟩
        · exact ⟨⟨⟨rfl, rfl, pureL_bys _⟩, ⟨rfl, rfl⟩, rfl, rfl, trivial⟩, lesP_bys rfl, trivial⟩
    · conv => whnf
      repeat ((first | (refine fit_i64 ⟨by first | omega | rfl | (dsimp only; omega), by first | omega | rfl | (dsimp only; omega)⟩ ?_) | refine ⟨_, rfl, ?_⟩); conv => whnf)
      refine ⟨?_, ?_⟩
      · conv => whnf
        repeat ((first | refine ⟨pureL_cutB _ _ _ _, ?_⟩ | refine ⟨rfl, ?_⟩ | refine ⟨_, rfl, ?_⟩ | (refine ⟨⟨?_, ?_⟩, ?_⟩; (focus (simp; done)); (focus (first | (simp only [okB]; omega) | (simp [okB]; omega))))); conv => whnf)
        refine ⟨_, _, ACall.arg1 (bclone_ok ((b.drop at').take n) (by simp; omega)) (by simp [lenB]; omega) (by simp [cutB, bys_drop, bys_take]; rw [show ((at' : Int) + n).toNat - at' = n by omega]), by first | rfl | simp [noRoIf, noRoL, noRoV, noRoL_bys], ?_⟩
        conv => whnf
        refine ⟨(), trivial, weaker_of [(1, 1)] rfl rfl ?_ ?_⟩
        · exact ⟨⟨rfl, rfl⟩, ⟨rfl, rfl⟩, ⟨rfl, rfl, rfl, rfl, id⟩, trivial⟩
        · exact ⟨⟨⟨rfl, rfl, pureL_bys _⟩, ⟨rfl, rfl⟩, rfl, rfl, trivial⟩, lesP_bys rfl, trivial⟩
      · conv => whnf
        repeat ((first | refine ⟨pureL_cutB _ _ _ _, ?_⟩ | refine ⟨rfl, ?_⟩ | refine ⟨_, rfl, ?_⟩ | (refine ⟨⟨?_, ?_⟩, ?_⟩; (focus (simp; done)); (focus (first | (simp only [okB]; omega) | (simp [okB]; omega))))); conv => whnf)
        refine ⟨_, _, ACall.arg1 (bclone_ok ((b.drop at').take n) (by simp; omega)) (by simp [lenB]; omega) (by simp [cutB, bys_drop, bys_take]; rw [show ((at' : Int) + n).toNat - at' = n by omega]), by first | rfl | simp [noRoIf, noRoL, noRoV, noRoL_bys], ?_⟩
        conv => whnf
        refine ⟨(), trivial, weaker_of [(1, 1)] rfl rfl ?_ ?_⟩
        · exact ⟨⟨rfl, rfl⟩, ⟨rfl, rfl⟩, ⟨rfl, rfl, rfl, rfl, id⟩, trivial⟩
        · exact ⟨⟨⟨rfl, rfl, pureL_bys _⟩, ⟨rfl, rfl⟩, rfl, rfl, trivial⟩, lesP_bys rfl, trivial⟩
  · refine wpc_sound (M := MC) (PL := PLpart) (CU := cutAt [99999]) TTok mixed _ _ _ ?_
    conv => whnf
    repeat ((first | (refine fit_i64 ⟨by first | omega | rfl | (dsimp only; omega), by first | omega | rfl | (dsimp only; omega)⟩ ?_) | refine ⟨_, rfl, ?_⟩ | (refine ⟨⟨rfl, rfl, ?_⟩, ?_⟩; (focus (first | exact Nat.le_of_ble_eq_true rfl | (simp; done))))); conv => whnf)
    refine Does.freeze 1 rfl (Does.ret ?_)
    conv => whnf
    repeat ((first | refine ⟨rfl, ?_⟩ | refine ⟨⟨rfl, rfl⟩, ?_⟩ | (refine ⟨⟨rfl, rfl, ?_⟩, ?_⟩; (focus (first | assumption | exact pureL_bys _ | exact pureL_toks _)))); conv => whnf)
    refine ⟨⟨by simp; omega, by rw [List.drop_zero, List.take_of_length_le (by simp)], pureL_bys _⟩, ?_⟩
    conv => whnf
    rfl
end Go.Proofs.YtelnlfhdaelfdaaDoor.Abs
end
section
set_option linter.unusedVariables false
set_option linter.unusedSimpArgs false
namespace Go.Proofs.YtelnlfhdaelfdaaDoor.Abs
open Go
attribute [local irreducible] ifB fitP Does Weaker
theorem lesP_toks {o : Nat → Option Nat} {xs : List AV} : ∀ {l : List Tok}, xs = toksC l → lesP o (toksC l) xs
  | [], h => by subst h; trivial
  | t :: l, h => by
    subst h
    exact ⟨⟨rfl, rfl⟩, ⟨rfl, rfl⟩, ⟨rfl, rfl, pureL_bys _⟩, lesP_toks rfl⟩
theorem lesP_toks_nil {o : Nat → Option Nat} {k n : Int} : ∀ {l : List Tok}, lesP o (toksC (l ++ [⟨k, n, []⟩])) (toksC l ++ [.int .i64 k, .int .i64 n, .nil])
  | [] => ⟨⟨rfl, rfl⟩, ⟨rfl, rfl⟩, ⟨rfl, rfl⟩, trivial⟩
  | t :: l => ⟨⟨rfl, rfl⟩, ⟨rfl, rfl⟩, ⟨rfl, rfl, pureL_bys _⟩, lesP_toks_nil⟩
structure Pa where
  at' : Nat
  l : List Tok
  bad : Bool
def pC (b : List Int) (p : Pa) : List AV := [.ro b.length (bys b), .int .i64 (p.at' : Int), .own p.l.length 3 (toksC p.l), .bool p.bad]
/-- So many items. -/
def pMany (g : Pa → Pa) : Nat → Pa → Pa
  | 0, p => p
  | n + 1, p => if p.bad then p else pMany g n (g p)
def pPart (b : List Int) (k n : Int) (next : Nat) (l : List Tok) : Pa :=
  if (b.length : Int) < next + n then ⟨next, l ++ [⟨k, 0, []⟩], true⟩ else ⟨next + n.toNat, l ++ [⟨k, 0, (b.drop next).take n.toNat⟩], false⟩
/-- What an item is, behind its head; g: an item one deeper. -/
def pGo (b : List Int) (g : Pa → Pa) (m n : Int) (next : Nat) (l : List Tok) : Pa :=
  if m = 0 then ⟨next, l ++ [⟨1, n, []⟩], false⟩
  else if m = 1 then ⟨next, l ++ [⟨2, n, []⟩], false⟩
  else if m = 2 then pPart b 3 n next l
  else if m = 3 then pPart b 4 n next l
  else if m = 4 then pMany g n.toNat ⟨next, l ++ [⟨5, n, []⟩], false⟩
  else if m = 5 then pMany g (2 * min n 65).toNat ⟨next, l ++ [⟨6, n, []⟩], false⟩
  else ⟨next, l, true⟩
def pBad (b : List Int) (p : Pa) : Prop := p.bad = true ∨ (getR b p.at').2.2.2 ≠ 0 ∨ 600 ≤ p.l.length
instance (b : List Int) (p : Pa) : Decidable (pBad b p) := by unfold pBad; infer_instance
def pItem (b : List Int) : Nat → Pa → Pa
  | 0, p => { p with bad := true }
  | f + 1, p => if pBad b p then { p with bad := true } else pGo b (pItem b f) (getR b p.at').1 (getR b p.at').2.1 (getR b p.at').2.2.1.toNat p.l
def PItemOk (b : List Int) (f : Nat) : Prop := ∀ p : Pa, p.at' ≤ b.length → p.l.length ≤ 600 →
  ACall Tryd.prog 117 [.ref (pC b p), .int .i64 (8 - (f : Int))] (.tuple []) [.ref (pC b (pItem b f p))]
/-- What is kept. -/
def PInv (b : List Int) (p : Pa) : Prop := p.at' ≤ b.length ∧ p.l.length ≤ 600
theorem pMany_inv (b : List Int) (g : Pa → Pa) (hg : ∀ p, PInv b p → PInv b (g p)) : ∀ (n : Nat) (p : Pa), PInv b p → PInv b (pMany g n p)
  | 0, p, h => h
  | n + 1, p, h => by
    unfold pMany
    split
    · exact h
    · exact pMany_inv b g hg n _ (hg p h)
theorem pPart_inv (b : List Int) (k n : Int) (hn : 0 ≤ n) (next : Nat) (hx : next ≤ b.length) (l : List Tok) (hl : l.length < 600) : PInv b (pPart b k n next l) := by
  unfold pPart
  split
  · exact ⟨hx, by simp; omega⟩
  · exact ⟨by simp only; omega, by simp; omega⟩
theorem pGo_inv (b : List Int) (g : Pa → Pa) (hg : ∀ p, PInv b p → PInv b (g p)) (m n : Int) (hn : 0 ≤ n) (next : Nat) (hx : next ≤ b.length) (l : List Tok) (hl : l.length < 600) : PInv b (pGo b g m n next l) := by
  unfold pGo
  split
  · exact ⟨hx, by simp; omega⟩
  split
  · exact ⟨hx, by simp; omega⟩
  split
  · exact pPart_inv b _ n hn next hx l hl
  split
  · exact pPart_inv b _ n hn next hx l hl
  split
  · exact pMany_inv b g hg _ _ ⟨hx, by simp; omega⟩
  split
  · exact pMany_inv b g hg _ _ ⟨hx, by simp; omega⟩
  · exact ⟨hx, by simp only; omega⟩
/-- A head that is right. -/
theorem getR_right (b : List Int) (hb : Byt b) (at' : Nat) (h : (getR b at').2.2.2 = 0) : ∃ (M n : Int) (X : Nat), getR b at' = (M, n, (X : Int), 0) ∧ (0 ≤ M ∧ M < 8) ∧ (0 ≤ n ∧ n ≤ 9223372036854775807) ∧ X ≤ b.length ∧ at' < X := by
  rcases getR_says b hb at' with ⟨e, _⟩ | ⟨e, _⟩ | ⟨k, m, hk, n, hkk, hkm, hn0, hn1, e, _⟩
  · rw [e] at h; simp at h
  · rw [e] at h; simp at h
  · have hbk := hb b[k] (by simp)
    refine ⟨b[k] / 32, n, k + 1 + m, by rw [e]; simp, by omega, ⟨hn0, hn1⟩, hkm, by omega⟩
theorem pItem_inv (b : List Int) (hb : Byt b) : ∀ (f : Nat) (p : Pa), PInv b p → PInv b (pItem b f p)
  | 0, p, h => h
  | f + 1, p, h => by
    unfold pItem
    split
    · exact h
    · rename_i hh
      simp only [pBad, not_or] at hh
      obtain ⟨M, n, X, e, _, hn, hX, _⟩ := getR_right b hb p.at' (by omega)
      rw [e]
      exact pGo_inv b _ (fun p hp => pItem_inv b hb f p hp) _ _ hn.1 _ (by simpa using hX) _ (by omega)
def PLpi : Nat → Bool × Plan := plans [(0, (false, (takesTo [0, 1, 2, 4, 5, 6] (.all [(3, (.all [(7, (.all [(8, (takes [9, 10, 11, 12, 13, 14, 15, 16, 17]))]))])), (7, (.all [(3, (.all [(8, (takes [9, 10, 11, 12, 13, 14, 15, 16, 17]))]))]))])))),
  (12, (false, (takesTo [0, 1, 2, 3, 5, 6] (.all [(4, (.all [(7, (takesTo [8] (.all [(9, (.all [(10, (takesTo [11, 12] (.all [(13, .done)])))]))])))])), (7, (takesTo [8] (.all [(4, (.all [(9, (.all [(10, (takesTo [11, 12] (.all [(13, .done)])))]))])), (9, (.all [(4, (.all [(10, (takesTo [11, 12] (.all [(13, .done)])))]))]))])))])))),
  (14, (false, (takesTo [0, 1, 2, 3, 5, 6] (.all [(4, (.all [(7, (takesTo [8] (.all [(9, (.all [(10, (takesTo [11, 12] (.all [(13, .done)])))]))])))])), (7, (takesTo [8] (.all [(4, (.all [(9, (.all [(10, (takesTo [11, 12] (.all [(13, .done)])))]))])), (9, (.all [(4, (.all [(10, (takesTo [11, 12] (.all [(13, .done)])))]))]))])))]))))]
theorem pItem_bad (b : List Int) (hb : Byt b) (hbl : b.length ≤ 32768) (p : Pa) (hat : p.at' ≤ b.length) (hl : p.l.length ≤ 600) (d : Int) (h : pBad b p ∨ 7 < d) :
    ACall Tryd.prog 117 [.ref (pC b p), .int .i64 d] (.tuple []) [.ref (pC b { p with bad := true })] := by
  obtain ⟨at', l, bad⟩ := p
  simp only [pBad] at hat hl h
  have hL := pureL_toks l
  have hg := get_ok b hb (by omega) (at' : Int)
  obtain ⟨r, hr⟩ : ∃ r, r = getR b at' := ⟨_, rfl⟩
  rw [← hr] at hg h
  refine ACall.of_does TTok Tryd.func117 rfl Tryd.call117 rfl (wpc_sound (M := MC) (PL := PLpi) (CU := cutAt [200000]) TTok mixed _ _ _ ?_)
  conv => whnf
  refine Does.seqCut (α := Unit) (fun _ => mkSt [(0, .ptr 1 0), (1, .int .i64 d), (4, .int .i64 r.1), (5, .int .i64 r.2.1), (6, .int .i64 r.2.2.1), (7, .int .i64 r.2.2.2)]
    [(0, toksC l), (1, [.ro b.length (bys b), .int .i64 (at' : Int), .sl 0 0 l.length 3 false, .bool bad])] 2 157) (fun _ => True) ?_ (fun _ _ => ?_)
  · refine wpc_sound (M := MC) (PL := PLpi) (CU := noCut) TTok mixed _ _ _ ?_
    conv => whnf
    refine ⟨by kernel_rfl, ?_⟩
    conv => whnf
    refine ⟨?_, ?_⟩
    · conv => whnf
      repeat ((first | refine ⟨pureL_bys _, ?_⟩ | refine ⟨rfl, ?_⟩ | refine ⟨_, rfl, ?_⟩); conv => whnf)
      refine ⟨_, _, hg, by first | rfl | simp [noRoIf, noRoL, noRoV, noRoL_bys], ?_⟩
      conv => whnf
      refine ⟨(), trivial, weaker_of [] rfl rfl ?_ ?_⟩
      · exact ⟨⟨rfl, rfl⟩, ⟨rfl, rfl⟩, ⟨rfl, rfl⟩, ⟨rfl, rfl⟩, ⟨rfl, rfl⟩, ⟨rfl, rfl⟩, trivial⟩
      · exact ⟨lesP_toks rfl, ⟨⟨rfl, rfl, pureL_bys _⟩, ⟨rfl, rfl⟩, ⟨rfl, rfl, rfl, rfl, id⟩, rfl, trivial⟩, trivial⟩
    · conv => whnf
      repeat ((first | refine ⟨pureL_bys _, ?_⟩ | refine ⟨rfl, ?_⟩ | refine ⟨_, rfl, ?_⟩); conv => whnf)
      refine ⟨_, _, hg, by first | rfl | simp [noRoIf, noRoL, noRoV, noRoL_bys], ?_⟩
      conv => whnf
      refine ⟨(), trivial, weaker_of [] rfl rfl ?_ ?_⟩
      · exact ⟨⟨rfl, rfl⟩, ⟨rfl, rfl⟩, ⟨rfl, rfl⟩, ⟨rfl, rfl⟩, ⟨rfl, rfl⟩, ⟨rfl, rfl⟩, trivial⟩
      · exact ⟨lesP_toks rfl, ⟨⟨rfl, rfl, pureL_bys _⟩, ⟨rfl, rfl⟩, ⟨rfl, rfl, rfl, rfl, id⟩, rfl, trivial⟩, trivial⟩
  · refine wpc_sound (M := MC) (PL := PLpi) (CU := noCut) TTok mixed _ _ _ ?_
    conv => whnf
    repeat ((refine ⟨_, rfl, ?_⟩); conv => whnf)
    cases bad
    · conv => whnf
      repeat ((refine ifB_f ?_); conv => whnf)
      refine ifB_dec (fun k1 => ?_) (fun k1 => ?_)
      · conv => whnf
        repeat ((first | refine ifB_t ?_ | refine ⟨rfl, ?_⟩ | refine ⟨⟨rfl, rfl⟩, ?_⟩ | (refine ⟨⟨rfl, rfl, rfl, ?_, pureL_toks _⟩, ?_⟩; (focus (rw [toksC_length]; omega))) | (refine ⟨⟨rfl, rfl, ?_⟩, ?_⟩; (focus (first | assumption | exact pureL_bys _ | exact pureL_toks _))) | (refine ⟨⟨rfl, rfl, ?_⟩, ?_⟩; (focus (first | exact Nat.le_of_ble_eq_true rfl | (simp; done))))); conv => whnf)
        rfl
      have k1 : r.2.2.2 = 0 := Classical.not_not.1 k1
      conv => whnf
      repeat ((first | refine ifB_f ?_ | refine ⟨_, rfl, ?_⟩); conv => whnf)
      refine ifB_dec (fun k2 => ?_) (fun k2 => ?_)
      · conv => whnf
        repeat ((first | refine ifB_t ?_ | refine ⟨rfl, ?_⟩ | refine ⟨⟨rfl, rfl⟩, ?_⟩ | (refine ⟨⟨rfl, rfl, rfl, ?_, pureL_toks _⟩, ?_⟩; (focus (rw [toksC_length]; omega))) | (refine ⟨⟨rfl, rfl, ?_⟩, ?_⟩; (focus (first | assumption | exact pureL_bys _ | exact pureL_toks _))) | (refine ⟨⟨rfl, rfl, ?_⟩, ?_⟩; (focus (first | exact Nat.le_of_ble_eq_true rfl | (simp; done))))); conv => whnf)
        rfl
      conv => whnf
      repeat ((refine ifB_f ?_); conv => whnf)
      refine ifB_pos (decide_eq_true ?_) ?_
      · rcases h with (h | h | h) | h
        · simp at h
        · omega
        · omega
        · exact h
      · conv => whnf
        repeat ((first | refine ⟨rfl, ?_⟩ | refine ⟨⟨rfl, rfl⟩, ?_⟩ | (refine ⟨⟨rfl, rfl, rfl, ?_, pureL_toks _⟩, ?_⟩; (focus (rw [toksC_length]; omega))) | (refine ⟨⟨rfl, rfl, ?_⟩, ?_⟩; (focus (first | assumption | exact pureL_bys _ | exact pureL_toks _))) | (refine ⟨⟨rfl, rfl, ?_⟩, ?_⟩; (focus (first | exact Nat.le_of_ble_eq_true rfl | (simp; done))))); conv => whnf)
        rfl
    · conv => whnf
      repeat ((first | refine ifB_t ?_ | refine ⟨rfl, ?_⟩ | refine ⟨⟨rfl, rfl⟩, ?_⟩ | (refine ⟨⟨rfl, rfl, rfl, ?_, pureL_toks _⟩, ?_⟩; (focus (rw [toksC_length]; omega))) | (refine ⟨⟨rfl, rfl, ?_⟩, ?_⟩; (focus (first | assumption | exact pureL_bys _ | exact pureL_toks _))) | (refine ⟨⟨rfl, rfl, ?_⟩, ?_⟩; (focus (first | exact Nat.le_of_ble_eq_true rfl | (simp; done))))); conv => whnf)
      rfl
set_option maxHeartbeats 8000000 in
theorem pItem_go (b : List Int) (hb : Byt b) (hbl : b.length ≤ 32768) (f : Nat) (hf : f ≤ 6) (ih : PItemOk b f) (at' : Nat) (l : List Tok) (hat : at' ≤ b.length) (hl : l.length < 600) (he : (getR b at').2.2.2 = 0) :
    ACall Tryd.prog 117 [.ref (pC b ⟨at', l, false⟩), .int .i64 (7 - (f : Int))] (.tuple []) [.ref (pC b (pGo b (pItem b f) (getR b at').1 (getR b at').2.1 (getR b at').2.2.1.toNat l))] := by
  have hL := pureL_toks l
  have hg := get_ok b hb (by omega) (at' : Int)
  obtain ⟨M, n, X, e, hM, hn, hX, _⟩ := getR_right b hb at' he
  obtain ⟨n, rfl⟩ : ∃ m : Nat, n = m := ⟨n.toNat, by omega⟩
  obtain ⟨r, hr⟩ : ∃ r, r = getR b at' := ⟨_, rfl⟩
  rw [← hr] at hg e ⊢
  clear he hr
  subst e
  simp only [Int.toNat_natCast]
  have hi' : ∀ p : Pa, PInv b p → ACall Tryd.prog 117 [.ref (pC b p), .int .i64 (7 - (f : Int) + 1)] (.tuple []) [.ref (pC b (pItem b f p))] := by
    intro p hp
    have := ih p hp.1 hp.2
    rwa [show 8 - (f : Int) = 7 - f + 1 by omega] at this
  refine ACall.of_does TTok Tryd.func117 rfl Tryd.call117 rfl (wpc_sound (M := MC) (PL := PLpi) (CU := cutAt [200000, 7]) TTok mixed _ _ _ ?_)
  conv => whnf
  refine Does.seqCut (α := Unit) (fun _ => mkSt [(0, .ptr 1 0), (1, .int .i64 (7 - (f : Int))), (4, .int .i64 M), (5,   .int .i64 (n : Int)), (6, .int .i64 (X : Int)), (7, .int .i64 0)]
    [(0, toksC l), (1, [.ro b.length (bys b), .int .i64 (at' : Int), .sl 0 0 l.length 3 false, .bool false])] 2 157) (fun _ => True) ?_ (fun _ _ => ?_)
  · refine wpc_sound (M := MC) (PL := PLpi) (CU := noCut) TTok mixed _ _ _ ?_
    conv => whnf
    refine ⟨by kernel_rfl, ?_⟩
    conv => whnf
    refine ⟨?_, ?_⟩
    · conv => whnf
      repeat ((first | refine ⟨pureL_bys _, ?_⟩ | refine ⟨rfl, ?_⟩ | refine ⟨_, rfl, ?_⟩); conv => whnf)
      refine ⟨_, _, hg, by first | rfl | simp [noRoIf, noRoL, noRoV, noRoL_bys], ?_⟩
      conv => whnf
      refine ⟨(), trivial, weaker_of [] rfl rfl ?_ ?_⟩
      · exact ⟨⟨rfl, rfl⟩, ⟨rfl, rfl⟩, ⟨rfl, rfl⟩, ⟨rfl, rfl⟩, ⟨rfl, rfl⟩, ⟨rfl, rfl⟩, trivial⟩
      · exact ⟨lesP_toks rfl, ⟨⟨rfl, rfl, pureL_bys _⟩, ⟨rfl, rfl⟩, ⟨rfl, rfl, rfl, rfl, id⟩, rfl, trivial⟩, trivial⟩
    · conv => whnf
      repeat ((first | refine ⟨pureL_bys _, ?_⟩ | refine ⟨rfl, ?_⟩ | refine ⟨_, rfl, ?_⟩); conv => whnf)
      refine ⟨_, _, hg, by first | rfl | simp [noRoIf, noRoL, noRoV, noRoL_bys], ?_⟩
      conv => whnf
      refine ⟨(), trivial, weaker_of [] rfl rfl ?_ ?_⟩
      · exact ⟨⟨rfl, rfl⟩, ⟨rfl, rfl⟩, ⟨rfl, rfl⟩, ⟨rfl, rfl⟩, ⟨rfl, rfl⟩, ⟨rfl, rfl⟩, trivial⟩
      · exact ⟨lesP_toks rfl, ⟨⟨rfl, rfl, pureL_bys _⟩, ⟨rfl, rfl⟩, ⟨rfl, rfl, rfl, rfl, id⟩, rfl, trivial⟩, trivial⟩
  · refine wpc_sound (M := MC) (PL := PLpi) (CU := cutAt [7]) TTok mixed _ _ _ ?_
    conv => whnf
    repeat ((first | refine ifB_f ?_ | (refine ifB_neg (decide_eq_false (by first | omega | rfl | (dsimp only; omega))) ?_) | refine ⟨_, rfl, ?_⟩ | (refine ⟨⟨rfl, rfl, ?_⟩, ?_⟩; (focus (first | exact Nat.le_of_ble_eq_true rfl | (simp; done))))); conv => whnf)
    refine Does.seqCut (α := Pa × Nat) (fun q => mkSt [(0, .ptr 1 0), (1, .int .i64 (7 - (f : Int))), (8, .int .i64 (q.2 : Int))]
      [(1, [.ro b.length (bys b), .int .i64 (q.1.at' : Int), .sl 2 0 q.1.l.length 3 false, .bool q.1.bad]), (2, toksC q.1.l)] 3 157) (fun q => PInv b q.1 ∧ q.2 ≤ 9223372036854775807 ∧ pMany (pItem b f) q.2 q.1 = pGo b (pItem b f) M (n : Int) X l) ?_ ?_
    · refine wpc_sound (M := MC) (PL := PLpi) (CU := noCut) TTok mixed _ _ _ ?_
      conv => whnf
      refine ifB_dec (fun k0 => ?_) (fun k0 => ?_)
      · conv => whnf
        repeat ((first | (refine Or.inl ⟨⟨rfl, ?_⟩, ?_⟩; (focus (first | rfl | (simp; done) | (rw [toksC_length]; omega)))) | refine ⟨rfl, ?_⟩ | refine ⟨_, rfl, ?_⟩ | refine ⟨⟨rfl, rfl⟩, ?_⟩); conv => whnf)
        refine ⟨⟨rfl, rfl, by rw [toksC_length]; omega, by simp [limB]; omega⟩, ?_⟩
        conv => whnf
        repeat ((first | refine ifB_t ?_ | refine ifB_f ?_); conv => whnf)
        conv => whnf
        repeat ((refine ⟨⟨rfl, rfl, ?_⟩, ?_⟩; (focus (first | exact Nat.le_of_ble_eq_true rfl | (simp; done)))); conv => whnf)
        refine ⟨(⟨X, l ++ [⟨1, (n : Int), []⟩], false⟩, 0), ⟨⟨⟨hX, by simp; omega⟩, by first | omega | (simp only; omega), ?_⟩, weaker_of [(2, 3)] rfl rfl ?_ ?_⟩⟩
        · simp [pGo, pMany, k0]
        · exact ⟨⟨rfl, rfl⟩, ⟨rfl, rfl⟩, leP_int rfl, trivial⟩
        · exact ⟨⟨⟨rfl, rfl, pureL_bys _⟩, leP_int (by simp), ⟨rfl, rfl, by simp, rfl, nofun⟩, rfl, trivial⟩, lesP_toks_nil, trivial⟩
      conv => whnf
      repeat ((first | refine ifB_t ?_ | refine ifB_f ?_); conv => whnf)
      refine ifB_dec (fun k1 => ?_) (fun k1 => ?_)
      · conv => whnf
        repeat ((first | (refine Or.inl ⟨⟨rfl, ?_⟩, ?_⟩; (focus (first | rfl | (simp; done) | (rw [toksC_length]; omega)))) | refine ⟨rfl, ?_⟩ | refine ⟨_, rfl, ?_⟩ | refine ⟨⟨rfl, rfl⟩, ?_⟩); conv => whnf)
        refine ⟨⟨rfl, rfl, by rw [toksC_length]; omega, by simp [limB]; omega⟩, ?_⟩
        conv => whnf
        repeat ((first | refine ifB_t ?_ | refine ifB_f ?_); conv => whnf)
        conv => whnf
        repeat ((refine ⟨⟨rfl, rfl, ?_⟩, ?_⟩; (focus (first | exact Nat.le_of_ble_eq_true rfl | (simp; done)))); conv => whnf)
        refine ⟨(⟨X, l ++ [⟨2, (n : Int), []⟩], false⟩, 0), ⟨⟨⟨hX, by simp; omega⟩, by first | omega | (simp only; omega), ?_⟩, weaker_of [(2, 3)] rfl rfl ?_ ?_⟩⟩
        · simp [pGo, pMany, k0, k1]
        · exact ⟨⟨rfl, rfl⟩, ⟨rfl, rfl⟩, leP_int rfl, trivial⟩
        · exact ⟨⟨⟨rfl, rfl, pureL_bys _⟩, leP_int (by simp), ⟨rfl, rfl, by simp, rfl, nofun⟩, rfl, trivial⟩, lesP_toks_nil, trivial⟩
      conv => whnf
      repeat ((first | refine ifB_t ?_ | refine ifB_f ?_); conv => whnf)
      refine ifB_dec (fun k2 => ?_) (fun k2 => ?_)
      · conv => whnf
        refine ⟨by kernel_rfl, ?_⟩
        by_cases hlt : b.length < X + n
        · conv => whnf
          refine ⟨?_, ?_⟩
          · conv => whnf
            repeat ((first | refine ⟨pureL_bys _, ?_⟩ | refine ⟨rfl, ?_⟩ | refine ⟨_, rfl, ?_⟩ | refine ⟨⟨rfl, rfl⟩, ?_⟩); conv => whnf)
            refine ⟨_, [.ro b.length (bys b), .int .i64 (X : Int), .top, .bool true], part_no b X n false hX (by omega) (by omega), ⟨by show (noHidL [AV.ro b.length (bys b), AV.int .i64 (X : Int), AV.top, AV.bool false] && noHidL [AV.int .i64 (n : Int)] && noHidL [AV.ro b.length (bys b), AV.int .i64 (X : Int), AV.top, AV.bool true] && noHidV (AV.ro 0 [])) = true; simp [noHidL, noHidV, noHidL_bys], rfl, rfl⟩, ?_⟩
            conv => whnf
            repeat ((first | (refine Or.inl ⟨⟨rfl, ?_⟩, ?_⟩; (focus (first | rfl | (simp; done) | (rw [toksC_length]; omega)))) | refine ⟨rfl, ?_⟩ | refine ⟨⟨rfl, rfl⟩, ?_⟩); conv => whnf)
            refine ⟨⟨rfl, rfl, by rw [toksC_length]; omega, by simp [limB]; omega⟩, ?_⟩
            conv => whnf
            repeat ((first | refine ifB_t ?_ | refine ifB_f ?_); conv => whnf)
            conv => whnf
            repeat ((refine ⟨⟨rfl, rfl, ?_⟩, ?_⟩; (focus (first | exact Nat.le_of_ble_eq_true rfl | (simp; done)))); conv => whnf)
            refine ⟨(⟨X, l ++ [⟨3, 0, []⟩], true⟩, 0), ⟨⟨⟨hX, by simp; omega⟩, by first | omega | (simp only; omega), ?_⟩, weaker_of [(2, 3)] rfl rfl ?_ ?_⟩⟩
            · simp [pGo, pPart, pMany, k0, k1, k2]; omega
            · exact ⟨⟨rfl, rfl⟩, ⟨rfl, rfl⟩, leP_int rfl, trivial⟩
            · exact ⟨⟨⟨rfl, rfl, pureL_bys _⟩, leP_int (by simp), ⟨rfl, rfl, by simp, rfl, nofun⟩, rfl, trivial⟩, lesP_toks (by simp [toksC_append, toksC, bys]), trivial⟩
          · conv => whnf
            repeat ((first | refine ⟨pureL_bys _, ?_⟩ | refine ⟨rfl, ?_⟩ | refine ⟨⟨rfl, rfl⟩, ?_⟩); conv => whnf)
            refine ⟨_, [.ro b.length (bys b), .int .i64 (X : Int), .top, .bool true], part_no b X n false hX (by omega) (by omega), ⟨by show (noHidL [AV.ro b.length (bys b), AV.int .i64 (X : Int), AV.top, AV.bool false] && noHidL [AV.int .i64 (n : Int)] && noHidL [AV.ro b.length (bys b), AV.int .i64 (X : Int), AV.top, AV.bool true] && noHidV (AV.ro 0 [])) = true; simp [noHidL, noHidV, noHidL_bys], rfl, rfl⟩, ?_⟩
            conv => whnf
            refine ⟨?_, ?_⟩
            · conv => whnf
              repeat ((first | (refine Or.inl ⟨⟨rfl, ?_⟩, ?_⟩; (focus (first | rfl | (simp; done) | (rw [toksC_length]; omega)))) | refine ⟨rfl, ?_⟩ | refine ⟨_, rfl, ?_⟩ | refine ⟨⟨rfl, rfl⟩, ?_⟩); conv => whnf)
              refine ⟨⟨rfl, rfl, by rw [toksC_length]; omega, by simp [limB]; omega⟩, ?_⟩
              conv => whnf
              repeat ((first | refine ifB_t ?_ | refine ifB_f ?_); conv => whnf)
              conv => whnf
              repeat ((refine ⟨⟨rfl, rfl, ?_⟩, ?_⟩; (focus (first | exact Nat.le_of_ble_eq_true rfl | (simp; done)))); conv => whnf)
              refine ⟨(⟨X, l ++ [⟨3, 0, []⟩], true⟩, 0), ⟨⟨⟨hX, by simp; omega⟩, by first | omega | (simp only; omega), ?_⟩, weaker_of [(2, 3)] rfl rfl ?_ ?_⟩⟩
              · simp [pGo, pPart, pMany, k0, k1, k2]; omega
              · exact ⟨⟨rfl, rfl⟩, ⟨rfl, rfl⟩, leP_int rfl, trivial⟩
              · exact ⟨⟨⟨rfl, rfl, pureL_bys _⟩, leP_int (by simp), ⟨rfl, rfl, by simp, rfl, nofun⟩, rfl, trivial⟩, lesP_toks (by simp [toksC_append, toksC, bys]), trivial⟩
            · conv => whnf
              repeat ((first | (refine Or.inl ⟨⟨rfl, ?_⟩, ?_⟩; (focus (first | rfl | (simp; done) | (rw [toksC_length]; omega)))) | refine ⟨rfl, ?_⟩ | refine ⟨_, rfl, ?_⟩ | refine ⟨⟨rfl, rfl⟩, ?_⟩); conv => whnf)
              refine ⟨⟨rfl, rfl, by rw [toksC_length]; omega, by simp [limB]; omega⟩, ?_⟩
              conv => whnf
              repeat ((first | refine ifB_t ?_ | refine ifB_f ?_); conv => whnf)
              conv => whnf
              repeat ((refine ⟨⟨rfl, rfl, ?_⟩, ?_⟩; (focus (first | exact Nat.le_of_ble_eq_true rfl | (simp; done)))); conv => whnf)
              refine ⟨(⟨X, l ++ [⟨3, 0, []⟩], true⟩, 0), ⟨⟨⟨hX, by simp; omega⟩, by first | omega | (simp only; omega), ?_⟩, weaker_of [(2, 3)] rfl rfl ?_ ?_⟩⟩
              · simp [pGo, pPart, pMany, k0, k1, k2]; omega
              · exact ⟨⟨rfl, rfl⟩, ⟨rfl, rfl⟩, leP_int rfl, trivial⟩
              · exact ⟨⟨⟨rfl, rfl, pureL_bys _⟩, leP_int (by simp), ⟨rfl, rfl, by simp, rfl, nofun⟩, rfl, trivial⟩, lesP_toks (by simp [toksC_append, toksC, bys]), trivial⟩
        · conv => whnf
          refine ⟨?_, ?_⟩
          · conv => whnf
            repeat ((first | refine ⟨pureL_bys _, ?_⟩ | refine ⟨rfl, ?_⟩ | refine ⟨_, rfl, ?_⟩ | refine ⟨⟨rfl, rfl⟩, ?_⟩); conv => whnf)
            refine ⟨_, [.ro b.length (bys b), .int .i64 ((X : Int) + n), .top, .bool false], part_yes b X n false (by omega) (by omega), ⟨by show (noHidL [AV.ro b.length (bys b), AV.int .i64 (X : Int), AV.top, AV.bool false] && noHidL [AV.int .i64 (n : Int)] && noHidL [AV.ro b.length (bys b), AV.int .i64 ((X : Int) + n), AV.top, AV.bool false] && noHidV (AV.ro n (bys ((b.drop X).take n)))) = true; simp [noHidL, noHidV, noHidL_bys], rfl, rfl⟩, ?_⟩
            conv => whnf
            repeat ((first | (refine Or.inl ⟨⟨rfl, ?_⟩, ?_⟩; (focus (first | rfl | (simp; done) | (rw [toksC_length]; omega)))) | refine ⟨rfl, ?_⟩ | refine ⟨⟨rfl, rfl⟩, ?_⟩); conv => whnf)
            refine ⟨⟨rfl, rfl, by rw [toksC_length]; omega, by simp [limB]; omega⟩, ?_⟩
            conv => whnf
            repeat ((first | refine ifB_t ?_ | refine ifB_f ?_); conv => whnf)
            conv => whnf
            repeat ((refine ⟨⟨rfl, rfl, ?_⟩, ?_⟩; (focus (first | exact Nat.le_of_ble_eq_true rfl | (simp; done)))); conv => whnf)
            refine ⟨(⟨X + n, l ++ [⟨3, 0, (b.drop X).take n⟩], false⟩, 0), ⟨⟨⟨by simp only; omega, by simp; omega⟩, by first | omega | (simp only; omega), ?_⟩, weaker_of [(2, 3)] rfl rfl ?_ ?_⟩⟩
            · simp [pGo, pPart, pMany, k0, k1, k2]; omega
            · exact ⟨⟨rfl, rfl⟩, ⟨rfl, rfl⟩, leP_int rfl, trivial⟩
            · exact ⟨⟨⟨rfl, rfl, pureL_bys _⟩, leP_int (by simp), ⟨rfl, rfl, by simp, rfl, nofun⟩, rfl, trivial⟩, lesP_toks (by simp [toksC_append, toksC, bys]; omega), trivial⟩
          · conv => whnf
            repeat ((first | refine ⟨pureL_bys _, ?_⟩ | refine ⟨rfl, ?_⟩ | refine ⟨⟨rfl, rfl⟩, ?_⟩); conv => whnf)
            refine ⟨_, [.ro b.length (bys b), .int .i64 ((X : Int) + n), .top, .bool false], part_yes b X n false (by omega) (by omega), ⟨by show (noHidL [AV.ro b.length (bys b), AV.int .i64 (X : Int), AV.top, AV.bool false] && noHidL [AV.int .i64 (n : Int)] && noHidL [AV.ro b.length (bys b), AV.int .i64 ((X : Int) + n), AV.top, AV.bool false] && noHidV (AV.ro n (bys ((b.drop X).take n)))) = true; simp [noHidL, noHidV, noHidL_bys], rfl, rfl⟩, ?_⟩
            conv => whnf
            refine ⟨?_, ?_⟩
            · conv => whnf
              repeat ((first | (refine Or.inl ⟨⟨rfl, ?_⟩, ?_⟩; (focus (first | rfl | (simp; done) | (rw [toksC_length]; omega)))) | refine ⟨rfl, ?_⟩ | refine ⟨_, rfl, ?_⟩ | refine ⟨⟨rfl, rfl⟩, ?_⟩); conv => whnf)
              refine ⟨⟨rfl, rfl, by rw [toksC_length]; omega, by simp [limB]; omega⟩, ?_⟩
              conv => whnf
              repeat ((first | refine ifB_t ?_ | refine ifB_f ?_); conv => whnf)
              conv => whnf
              repeat ((refine ⟨⟨rfl, rfl, ?_⟩, ?_⟩; (focus (first | exact Nat.le_of_ble_eq_true rfl | (simp; done)))); conv => whnf)
              refine ⟨(⟨X + n, l ++ [⟨3, 0, (b.drop X).take n⟩], false⟩, 0), ⟨⟨⟨by simp only; omega, by simp; omega⟩, by first | omega | (simp only; omega), ?_⟩, weaker_of [(2, 3)] rfl rfl ?_ ?_⟩⟩
              · simp [pGo, pPart, pMany, k0, k1, k2]; omega
              · exact ⟨⟨rfl, rfl⟩, ⟨rfl, rfl⟩, leP_int rfl, trivial⟩
              · exact ⟨⟨⟨rfl, rfl, pureL_bys _⟩, leP_int (by simp), ⟨rfl, rfl, by simp, rfl, nofun⟩, rfl, trivial⟩, lesP_toks (by simp [toksC_append, toksC, bys]; omega), trivial⟩
            · conv => whnf
              repeat ((first | (refine Or.inl ⟨⟨rfl, ?_⟩, ?_⟩; (focus (first | rfl | (simp; done) | (rw [toksC_length]; omega)))) | refine ⟨rfl, ?_⟩ | refine ⟨_, rfl, ?_⟩ | refine ⟨⟨rfl, rfl⟩, ?_⟩); conv => whnf)
              refine ⟨⟨rfl, rfl, by rw [toksC_length]; omega, by simp [limB]; omega⟩, ?_⟩
              conv => whnf
              repeat ((first | refine ifB_t ?_ | refine ifB_f ?_); conv => whnf)
              conv => whnf
              repeat ((refine ⟨⟨rfl, rfl, ?_⟩, ?_⟩; (focus (first | exact Nat.le_of_ble_eq_true rfl | (simp; done)))); conv => whnf)
              refine ⟨(⟨X + n, l ++ [⟨3, 0, (b.drop X).take n⟩], false⟩, 0), ⟨⟨⟨by simp only; omega, by simp; omega⟩, by first | omega | (simp only; omega), ?_⟩, weaker_of [(2, 3)] rfl rfl ?_ ?_⟩⟩
              · simp [pGo, pPart, pMany, k0, k1, k2]; omega
              · exact ⟨⟨rfl, rfl⟩, ⟨rfl, rfl⟩, leP_int rfl, trivial⟩
              · exact ⟨⟨⟨rfl, rfl, pureL_bys _⟩, leP_int (by simp), ⟨rfl, rfl, by simp, rfl, nofun⟩, rfl, trivial⟩, lesP_toks (by simp [toksC_append, toksC, bys]; omega), trivial⟩
      conv => whnf
      repeat ((first | refine ifB_t ?_ | refine ifB_f ?_); conv => whnf)
      refine ifB_dec (fun k3 => ?_) (fun k3 => ?_)
      · conv => whnf
        refine ⟨by kernel_rfl, ?_⟩
        by_cases hlt : b.length < X + n
        · conv => whnf
          refine ⟨?_, ?_⟩
          · conv => whnf
            repeat ((first | refine ⟨pureL_bys _, ?_⟩ | refine ⟨rfl, ?_⟩ | refine ⟨_, rfl, ?_⟩ | refine ⟨⟨rfl, rfl⟩, ?_⟩); conv => whnf)
            refine ⟨_, [.ro b.length (bys b), .int .i64 (X : Int), .top, .bool true], part_no b X n false hX (by omega) (by omega), ⟨by show (noHidL [AV.ro b.length (bys b), AV.int .i64 (X : Int), AV.top, AV.bool false] && noHidL [AV.int .i64 (n : Int)] && noHidL [AV.ro b.length (bys b), AV.int .i64 (X : Int), AV.top, AV.bool true] && noHidV (AV.ro 0 [])) = true; simp [noHidL, noHidV, noHidL_bys], rfl, rfl⟩, ?_⟩
            conv => whnf
            repeat ((first | (refine Or.inl ⟨⟨rfl, ?_⟩, ?_⟩; (focus (first | rfl | (simp; done) | (rw [toksC_length]; omega)))) | refine ⟨rfl, ?_⟩ | refine ⟨⟨rfl, rfl⟩, ?_⟩); conv => whnf)
            refine ⟨⟨rfl, rfl, by rw [toksC_length]; omega, by simp [limB]; omega⟩, ?_⟩
            conv => whnf
            repeat ((first | refine ifB_t ?_ | refine ifB_f ?_); conv => whnf)
            conv => whnf
            repeat ((refine ⟨⟨rfl, rfl, ?_⟩, ?_⟩; (focus (first | exact Nat.le_of_ble_eq_true rfl | (simp; done)))); conv => whnf)
            refine ⟨(⟨X, l ++ [⟨4, 0, []⟩], true⟩, 0), ⟨⟨⟨hX, by simp; omega⟩, by first | omega | (simp only; omega), ?_⟩, weaker_of [(2, 3)] rfl rfl ?_ ?_⟩⟩
            · simp [pGo, pPart, pMany, k0, k1, k2, k3]; omega
            · exact ⟨⟨rfl, rfl⟩, ⟨rfl, rfl⟩, leP_int rfl, trivial⟩
            · exact ⟨⟨⟨rfl, rfl, pureL_bys _⟩, leP_int (by simp), ⟨rfl, rfl, by simp, rfl, nofun⟩, rfl, trivial⟩, lesP_toks (by simp [toksC_append, toksC, bys]), trivial⟩
          · conv => whnf
            repeat ((first | refine ⟨pureL_bys _, ?_⟩ | refine ⟨rfl, ?_⟩ | refine ⟨⟨rfl, rfl⟩, ?_⟩); conv => whnf)
            refine ⟨_, [.ro b.length (bys b), .int .i64 (X : Int), .top, .bool true], part_no b X n false hX (by omega) (by omega), ⟨by show (noHidL [AV.ro b.length (bys b), AV.int .i64 (X : Int), AV.top, AV.bool false] && noHidL [AV.int .i64 (n : Int)] && noHidL [AV.ro b.length (bys b), AV.int .i64 (X : Int), AV.top, AV.bool true] && noHidV (AV.ro 0 [])) = true; simp [noHidL, noHidV, noHidL_bys], rfl, rfl⟩, ?_⟩
            conv => whnf
            refine ⟨?_, ?_⟩
            · conv => whnf
              repeat ((first | (refine Or.inl ⟨⟨rfl, ?_⟩, ?_⟩; (focus (first | rfl | (simp; done) | (rw [toksC_length]; omega)))) | refine ⟨rfl, ?_⟩ | refine ⟨_, rfl, ?_⟩ | refine ⟨⟨rfl, rfl⟩, ?_⟩); conv => whnf)
              refine ⟨⟨rfl, rfl, by rw [toksC_length]; omega, by simp [limB]; omega⟩, ?_⟩
              conv => whnf
              repeat ((first | refine ifB_t ?_ | refine ifB_f ?_); conv => whnf)
              conv => whnf
              repeat ((refine ⟨⟨rfl, rfl, ?_⟩, ?_⟩; (focus (first | exact Nat.le_of_ble_eq_true rfl | (simp; done)))); conv => whnf)
              refine ⟨(⟨X, l ++ [⟨4, 0, []⟩], true⟩, 0), ⟨⟨⟨hX, by simp; omega⟩, by first | omega | (simp only; omega), ?_⟩, weaker_of [(2, 3)] rfl rfl ?_ ?_⟩⟩
              · simp [pGo, pPart, pMany, k0, k1, k2, k3]; omega
              · exact ⟨⟨rfl, rfl⟩, ⟨rfl, rfl⟩, leP_int rfl, trivial⟩
              · exact ⟨⟨⟨rfl, rfl, pureL_bys _⟩, leP_int (by simp), ⟨rfl, rfl, by simp, rfl, nofun⟩, rfl, trivial⟩, lesP_toks (by simp [toksC_append, toksC, bys]), trivial⟩
            · conv => whnf
              repeat ((first | (refine Or.inl ⟨⟨rfl, ?_⟩, ?_⟩; (focus (first | rfl | (simp; done) | (rw [toksC_length]; omega)))) | refine ⟨rfl, ?_⟩ | refine ⟨_, rfl, ?_⟩ | refine ⟨⟨rfl, rfl⟩, ?_⟩); conv => whnf)
              refine ⟨⟨rfl, rfl, by rw [toksC_length]; omega, by simp [limB]; omega⟩, ?_⟩
              conv => whnf
              repeat ((first | refine ifB_t ?_ | refine ifB_f ?_); conv => whnf)
              conv => whnf
              repeat ((refine ⟨⟨rfl, rfl, ?_⟩, ?_⟩; (focus (first | exact Nat.le_of_ble_eq_true rfl | (simp; done)))); conv => whnf)
              refine ⟨(⟨X, l ++ [⟨4, 0, []⟩], true⟩, 0), ⟨⟨⟨hX, by simp; omega⟩, by first | omega | (simp only; omega), ?_⟩, weaker_of [(2, 3)] rfl rfl ?_ ?_⟩⟩
              · simp [pGo, pPart, pMany, k0, k1, k2, k3]; omega
              · exact ⟨⟨rfl, rfl⟩, ⟨rfl, rfl⟩, leP_int rfl, trivial⟩
              · exact ⟨⟨⟨rfl, rfl, pureL_bys _⟩, leP_int (by simp), ⟨rfl, rfl, by simp, rfl, nofun⟩, rfl, trivial⟩, lesP_toks (by simp [toksC_append, toksC, bys]), trivial⟩
        · conv => whnf
          refine ⟨?_, ?_⟩
          · conv => whnf
            repeat ((first | refine ⟨pureL_bys _, ?_⟩ | refine ⟨rfl, ?_⟩ | refine ⟨_, rfl, ?_⟩ | refine ⟨⟨rfl, rfl⟩, ?_⟩); conv => whnf)
            refine ⟨_, [.ro b.length (bys b), .int .i64 ((X : Int) + n), .top, .bool false], part_yes b X n false (by omega) (by omega), ⟨by show (noHidL [AV.ro b.length (bys b), AV.int .i64 (X : Int), AV.top, AV.bool false] && noHidL [AV.int .i64 (n : Int)] && noHidL [AV.ro b.length (bys b), AV.int .i64 ((X : Int) + n), AV.top, AV.bool false] && noHidV (AV.ro n (bys ((b.drop X).take n)))) = true; simp [noHidL, noHidV, noHidL_bys], rfl, rfl⟩, ?_⟩
            conv => whnf
            repeat ((first | (refine Or.inl ⟨⟨rfl, ?_⟩, ?_⟩; (focus (first | rfl | (simp; done) | (rw [toksC_length]; omega)))) | refine ⟨rfl, ?_⟩ | refine ⟨⟨rfl, rfl⟩, ?_⟩); conv => whnf)
            refine ⟨⟨rfl, rfl, by rw [toksC_length]; omega, by simp [limB]; omega⟩, ?_⟩
            conv => whnf
            repeat ((first | refine ifB_t ?_ | refine ifB_f ?_); conv => whnf)
            conv => whnf
            repeat ((refine ⟨⟨rfl, rfl, ?_⟩, ?_⟩; (focus (first | exact Nat.le_of_ble_eq_true rfl | (simp; done)))); conv => whnf)
            refine ⟨(⟨X + n, l ++ [⟨4, 0, (b.drop X).take n⟩], false⟩, 0), ⟨⟨⟨by simp only; omega, by simp; omega⟩, by first | omega | (simp only; omega), ?_⟩, weaker_of [(2, 3)] rfl rfl ?_ ?_⟩⟩
            · simp [pGo, pPart, pMany, k0, k1, k2, k3]; omega
            · exact ⟨⟨rfl, rfl⟩, ⟨rfl, rfl⟩, leP_int rfl, trivial⟩
            · exact ⟨⟨⟨rfl, rfl, pureL_bys _⟩, leP_int (by simp), ⟨rfl, rfl, by simp, rfl, nofun⟩, rfl, trivial⟩, lesP_toks (by simp [toksC_append, toksC, bys]; omega), trivial⟩
          · conv => whnf
            repeat ((first | refine ⟨pureL_bys _, ?_⟩ | refine ⟨rfl, ?_⟩ | refine ⟨⟨rfl, rfl⟩, ?_⟩); conv => whnf)
            refine ⟨_, [.ro b.length (bys b), .int .i64 ((X : Int) + n), .top, .bool false], part_yes b X n false (by omega) (by omega), ⟨by show (noHidL [AV.ro b.length (bys b), AV.int .i64 (X : Int), AV.top, AV.bool false] && noHidL [AV.int .i64 (n : Int)] && noHidL [AV.ro b.length (bys b), AV.int .i64 ((X : Int) + n), AV.top, AV.bool false] && noHidV (AV.ro n (bys ((b.drop X).take n)))) = true; simp [noHidL, noHidV, noHidL_bys], rfl, rfl⟩, ?_⟩
            conv => whnf
            refine ⟨?_, ?_⟩
            · conv => whnf
              repeat ((first | (refine Or.inl ⟨⟨rfl, ?_⟩, ?_⟩; (focus (first | rfl | (simp; done) | (rw [toksC_length]; omega)))) | refine ⟨rfl, ?_⟩ | refine ⟨_, rfl, ?_⟩ | refine ⟨⟨rfl, rfl⟩, ?_⟩); conv => whnf)
              refine ⟨⟨rfl, rfl, by rw [toksC_length]; omega, by simp [limB]; omega⟩, ?_⟩
              conv => whnf
              repeat ((first | refine ifB_t ?_ | refine ifB_f ?_); conv => whnf)
              conv => whnf
              repeat ((refine ⟨⟨rfl, rfl, ?_⟩, ?_⟩; (focus (first | exact Nat.le_of_ble_eq_true rfl | (simp; done)))); conv => whnf)
              refine ⟨(⟨X + n, l ++ [⟨4, 0, (b.drop X).take n⟩], false⟩, 0), ⟨⟨⟨by simp only; omega, by simp; omega⟩, by first | omega | (simp only; omega), ?_⟩, weaker_of [(2, 3)] rfl rfl ?_ ?_⟩⟩
              · simp [pGo, pPart, pMany, k0, k1, k2, k3]; omega
              · exact ⟨⟨rfl, rfl⟩, ⟨rfl, rfl⟩, leP_int rfl, trivial⟩
              · exact ⟨⟨⟨rfl, rfl, pureL_bys _⟩, leP_int (by simp), ⟨rfl, rfl, by simp, rfl, nofun⟩, rfl, trivial⟩, lesP_toks (by simp [toksC_append, toksC, bys]; omega), trivial⟩
            · conv => whnf
              repeat ((first | (refine Or.inl ⟨⟨rfl, ?_⟩, ?_⟩; (focus (first | rfl | (simp; done) | (rw [toksC_length]; omega)))) | refine ⟨rfl, ?_⟩ | refine ⟨_, rfl, ?_⟩ | refine ⟨⟨rfl, rfl⟩, ?_⟩); conv => whnf)
              refine ⟨⟨rfl, rfl, by rw [toksC_length]; omega, by simp [limB]; omega⟩, ?_⟩
              conv => whnf
              repeat ((first | refine ifB_t ?_ | refine ifB_f ?_); conv => whnf)
              conv => whnf
              repeat ((refine ⟨⟨rfl, rfl, ?_⟩, ?_⟩; (focus (first | exact Nat.le_of_ble_eq_true rfl | (simp; done)))); conv => whnf)
              refine ⟨(⟨X + n, l ++ [⟨4, 0, (b.drop X).take n⟩], false⟩, 0), ⟨⟨⟨by simp only; omega, by simp; omega⟩, by first | omega | (simp only; omega), ?_⟩, weaker_of [(2, 3)] rfl rfl ?_ ?_⟩⟩
              · simp [pGo, pPart, pMany, k0, k1, k2, k3]; omega
              · exact ⟨⟨rfl, rfl⟩, ⟨rfl, rfl⟩, leP_int rfl, trivial⟩
              · exact ⟨⟨⟨rfl, rfl, pureL_bys _⟩, leP_int (by simp), ⟨rfl, rfl, by simp, rfl, nofun⟩, rfl, trivial⟩, lesP_toks (by simp [toksC_append, toksC, bys]; omega), trivial⟩
      conv => whnf
      repeat ((first | refine ifB_t ?_ | refine ifB_f ?_); conv => whnf)
      refine ifB_dec (fun k4 => ?_) (fun k4 => ?_)
      · conv => whnf
        repeat ((first | (refine Or.inl ⟨⟨rfl, ?_⟩, ?_⟩; (focus (first | rfl | (simp; done) | (rw [toksC_length]; omega)))) | refine ⟨rfl, ?_⟩ | refine ⟨_, rfl, ?_⟩ | refine ⟨⟨rfl, rfl⟩, ?_⟩); conv => whnf)
        refine ⟨⟨rfl, rfl, by rw [toksC_length]; omega, by simp [limB]; omega⟩, ?_⟩
        conv => whnf
        repeat ((first | refine ifB_t ?_ | refine ifB_f ?_); conv => whnf)
        conv => whnf
        repeat ((refine ⟨⟨rfl, rfl, ?_⟩, ?_⟩; (focus (first | exact Nat.le_of_ble_eq_true rfl | (simp; done)))); conv => whnf)
        refine ⟨(⟨X, l ++ [⟨5, (n : Int), []⟩], false⟩, n), ⟨⟨⟨hX, by simp; omega⟩, by first | omega | (simp only; omega), ?_⟩, weaker_of [(2, 3)] rfl rfl ?_ ?_⟩⟩
        · simp [pGo, k0, k1, k2, k3, k4]
        · exact ⟨⟨rfl, rfl⟩, ⟨rfl, rfl⟩, leP_int rfl, trivial⟩
        · exact ⟨⟨⟨rfl, rfl, pureL_bys _⟩, leP_int (by simp), ⟨rfl, rfl, by simp, rfl, nofun⟩, rfl, trivial⟩, lesP_toks_nil, trivial⟩
      conv => whnf
      repeat ((first | refine ifB_t ?_ | refine ifB_f ?_); conv => whnf)
      refine ifB_dec (fun k5 => ?_) (fun k5 => ?_)
      · conv => whnf
        repeat ((first | (refine Or.inl ⟨⟨rfl, ?_⟩, ?_⟩; (focus (first | rfl | (simp; done) | (rw [toksC_length]; omega)))) | refine ⟨rfl, ?_⟩ | refine ⟨_, rfl, ?_⟩ | refine ⟨⟨rfl, rfl⟩, ?_⟩); conv => whnf)
        refine ⟨⟨rfl, rfl, by rw [toksC_length]; omega, by simp [limB]; omega⟩, ?_⟩
        conv => whnf
        repeat ((first | refine ifB_t ?_ | refine ifB_f ?_); conv => whnf)
        conv => whnf
        repeat ((first | (refine fit_i64 ⟨by first | omega | rfl | (dsimp only; omega), by first | omega | rfl | (dsimp only; omega)⟩ ?_) | (refine ⟨⟨rfl, rfl, ?_⟩, ?_⟩; (focus (first | exact Nat.le_of_ble_eq_true rfl | (simp; done))))); conv => whnf)
        refine ⟨(⟨X, l ++ [⟨6, (n : Int), []⟩], false⟩, (2 * min (n : Int) 65).toNat), ⟨⟨⟨hX, by simp; omega⟩, by first | omega | (simp only; omega), ?_⟩, weaker_of [(2, 3)] rfl rfl ?_ ?_⟩⟩
        · simp [pGo, k0, k1, k2, k3, k4, k5]
        · exact ⟨⟨rfl, rfl⟩, ⟨rfl, rfl⟩, leP_int (by simp; omega), trivial⟩
        · exact ⟨⟨⟨rfl, rfl, pureL_bys _⟩, leP_int (by simp), ⟨rfl, rfl, by simp, rfl, nofun⟩, rfl, trivial⟩, lesP_toks_nil, trivial⟩
      conv => whnf
      repeat ((first | refine ifB_t ?_ | refine ifB_f ?_); conv => whnf)
      conv => whnf
      repeat ((refine ⟨⟨rfl, rfl, ?_⟩, ?_⟩; (focus (first | exact Nat.le_of_ble_eq_true rfl | (simp; done)))); conv => whnf)
      refine ⟨(⟨X, l, true⟩, 0), ⟨⟨⟨hX, by simp; omega⟩, by first | omega | (simp only; omega), ?_⟩, weaker_of [(2, 0)] rfl rfl ?_ ?_⟩⟩
      · simp [pGo, pMany, k0, k1, k2, k3, k4, k5]
      · exact ⟨⟨rfl, rfl⟩, ⟨rfl, rfl⟩, leP_int rfl, trivial⟩
      · exact ⟨⟨⟨rfl, rfl, pureL_bys _⟩, leP_int (by simp), ⟨rfl, rfl, by simp, rfl, nofun⟩, rfl, trivial⟩, lesP_toks rfl, trivial⟩
    · rintro ⟨p, N⟩ ⟨hp, hN, hfin⟩
      simp only at hp hN hfin
      refine wpc_sound (M := MC) (PL := PLpi) (CU := noCut) TTok mixed _ _ _ ?_
      conv => whnf
      refine Does.loop (fun q : Nat × Pa => mkSt [(0, .ptr 1 0), (1, .int .i64 (7 - (f : Int))), (8, .int .i64 (N : Int)), (9, .int .i64 (q.1 : Int))]
        [(1, [.ro b.length (bys b), .int .i64 (q.2.at' : Int), .sl 2 0 q.2.l.length 3 false, .bool q.2.bad]), (2, toksC q.2.l)] 3 157)
        (fun q => q.1 ≤ N ∧ PInv b q.2 ∧ pMany (pItem b f) (N - q.1) q.2 = pGo b (pItem b f) M (n : Int) X l) (fun q => N - q.1) ?_ (0, p) ⟨Nat.zero_le _, hp, hfin⟩ ?_
      · rintro ⟨c, p⟩ ⟨p1, p2, p3⟩
        simp only at p1 p2 p3
        obtain ⟨a, o, bd⟩ := p
        refine wpc_sound (M := MC) (PL := PLpi) (CU := noCut) TTok mixed _ _ _ ?_
        conv => whnf
        refine ifB_dec (fun k1 => ?_) (fun k1 => ?_)
        · simp only at k1
          cases bd
          · conv => whnf
            repeat ((first | refine ifB_t ?_ | (refine fit_i64 ⟨by first | omega | rfl | (dsimp only; omega), by first | omega | rfl | (dsimp only; omega)⟩ ?_) | refine ⟨pureL_bys _, ?_⟩ | refine ⟨rfl, ?_⟩ | refine ⟨_, rfl, ?_⟩ | (refine ⟨⟨rfl, rfl, ?_, pureL_toks _⟩, ?_⟩; (focus (rw [toksC_length]; omega)))); conv => whnf)
            refine ⟨_, _, hi' ⟨a, o, false⟩ p2, by first | rfl | simp [noRoIf, noRoL, noRoV, noRoL_bys], ?_⟩
            conv => whnf
            repeat ((refine fit_i64 ⟨by first | omega | rfl | (dsimp only; omega), by first | omega | rfl | (dsimp only; omega)⟩ ?_); conv => whnf)
            refine ⟨(c + 1, pItem b f ⟨a, o, false⟩), ⟨by simp only; omega, pItem_inv b hb f _ p2, ?_⟩, by simp only; omega, weaker_of [(2, 3)] rfl rfl ?_ ?_⟩
            · rw [← p3]
              obtain ⟨m, hm⟩ : ∃ m, N - c = m + 1 := ⟨N - c - 1, by omega⟩
              simp only
              rw [hm, show N - (c + 1) = m by omega]
              simp [pMany]
            · exact ⟨⟨rfl, rfl⟩, ⟨rfl, rfl⟩, ⟨rfl, rfl⟩, ⟨rfl, rfl⟩, trivial⟩
            · exact ⟨⟨⟨rfl, rfl, pureL_bys _⟩, ⟨rfl, rfl⟩, ⟨rfl, rfl, rfl, rfl, id⟩, rfl, trivial⟩, lesP_toks rfl, trivial⟩
          · have hfin : pGo b (pItem b f) M (n : Int) X l = ⟨a, o, true⟩ := by
              rw [← p3]
              obtain ⟨m, hm⟩ : ∃ m, N - c = m + 1 := ⟨N - c - 1, by omega⟩
              rw [hm]
              simp [pMany]
            rw [hfin]
            conv => whnf
            repeat ((first | refine ifB_t ?_ | refine ifB_f ?_ | refine ⟨rfl, ?_⟩ | refine ⟨_, rfl, ?_⟩ | refine ⟨⟨rfl, rfl⟩, ?_⟩ | (refine ⟨⟨rfl, rfl, rfl, ?_, pureL_toks _⟩, ?_⟩; (focus (rw [toksC_length]; omega))) | (refine ⟨⟨rfl, rfl, ?_⟩, ?_⟩; (focus (first | assumption | exact pureL_bys _ | exact pureL_toks _)))); conv => whnf)
            rfl
        · simp only at k1
          have hfin : pGo b (pItem b f) M (n : Int) X l = ⟨a, o, bd⟩ := by
            rw [← p3, show N - c = 0 by omega]
            rfl
          rw [hfin]
          conv => whnf
          repeat ((first | refine ifB_f ?_ | refine ⟨rfl, ?_⟩ | refine ⟨⟨rfl, rfl⟩, ?_⟩ | (refine ⟨⟨rfl, rfl, rfl, ?_, pureL_toks _⟩, ?_⟩; (focus (rw [toksC_length]; omega))) | (refine ⟨⟨rfl, rfl, ?_⟩, ?_⟩; (focus (first | assumption | exact pureL_bys _ | exact pureL_toks _)))); conv => whnf)
          rfl
      · refine weaker_of [(2, 2)] rfl rfl ?_ ?_
        · exact ⟨⟨rfl, rfl⟩, ⟨rfl, rfl⟩, ⟨rfl, rfl⟩, ⟨rfl, rfl⟩, trivial⟩
        · exact ⟨⟨⟨rfl, rfl, pureL_bys _⟩, ⟨rfl, rfl⟩, ⟨rfl, rfl, rfl, rfl, id⟩, rfl, trivial⟩, lesP_toks rfl, trivial⟩
end Go.Proofs.YtelnlfhdaelfdaaDoor.Abs
end
section
set_option linter.unusedVariables false
set_option linter.unusedSimpArgs false
namespace Go.Proofs.YtelnlfhdaelfdaaDoor.Abs
open Go
attribute [local irreducible] ifB fitP Does Weaker
theorem pItem_ok (b : List Int) (hb : Byt b) (hbl : b.length ≤ 32768) : ∀ f : Nat, f ≤ 7 → PItemOk b f
  | 0, _ => by
    intro p hat hl
    exact pItem_bad b hb hbl p hat hl _ (.inr (by simp))
  | f + 1, hf => by
    intro p hat hl
    unfold pItem
    by_cases h : pBad b p
    · rw [if_pos h]
      exact pItem_bad b hb hbl p hat hl _ (.inl h)
    · rw [if_neg h]
      have e : 8 - ((f + 1 : Nat) : Int) = 7 - f := by omega
      rw [e]
      obtain ⟨at', l, bad⟩ := p
      simp only [pBad, not_or, Bool.not_eq_true] at h
      obtain ⟨h1, h2, h3⟩ := h
      subst h1
      exact pItem_go b hb hbl f (by omega) (pItem_ok b hb hbl f (by omega)) at' l hat (by simpa using h3) (by simpa using h2)
theorem encR_byt (l : List Tok) (hl : ToksOk l) : Byt (encR validR l).1 := by
  unfold encR
  split
  · simp [Byt]
  split
  · simp [Byt]
  · exact wItem_byt _ _ hl _ _ (by simp [Byt])
/-- All tokens that the parser makes are such ones as a program holds. -/
def POk (b : List Int) (p : Pa) : Prop := ToksOk p.l ∧ ∀ t ∈ p.l, t.b.length ≤ b.length
theorem pok_snoc {b : List Int} {l : List Tok} {x : Nat} {bd : Bool} {t : Tok} (h : ToksOk l ∧ ∀ t ∈ l, t.b.length ≤ b.length) (ht : TokOk t) (hb : t.b.length ≤ b.length) : POk b ⟨x, l ++ [t], bd⟩ := by
  constructor
  · intro s hs
    rcases List.mem_append.1 hs with hs | hs
    · exact h.1 s hs
    · simp at hs; subst hs; exact ht
  · intro s hs
    rcases List.mem_append.1 hs with hs | hs
    · exact h.2 s hs
    · simp at hs; subst hs; exact hb
theorem pMany_ok (b : List Int) (g : Pa → Pa) (hg : ∀ p, POk b p → POk b (g p)) : ∀ (n : Nat) (p : Pa), POk b p → POk b (pMany g n p)
  | 0, p, h => h
  | n + 1, p, h => by
    unfold pMany
    split
    · exact h
    · exact pMany_ok b g hg n _ (hg p h)
theorem byt_sub {b : List Int} (hb : Byt b) (x n : Nat) : Byt ((b.drop x).take n) := fun y hy => hb y (List.mem_of_mem_drop (List.mem_of_mem_take hy))
theorem pPart_ok (b : List Int) (hb : Byt b) (k n : Int) (hk : 0 ≤ k ∧ k < 10) (next : Nat) (l : List Tok) (h : ToksOk l ∧ ∀ t ∈ l, t.b.length ≤ b.length) : POk b (pPart b k n next l) := by
  unfold pPart
  split
  · exact pok_snoc h ⟨by simp only; omega, by simp only; omega, by simp [Byt]⟩ (by simp)
  · exact pok_snoc h ⟨by simp only; omega, by simp only; omega, byt_sub hb _ _⟩ (by simp; omega)
theorem pGo_ok (b : List Int) (hb : Byt b) (g : Pa → Pa) (hg : ∀ p, POk b p → POk b (g p)) (m n : Int) (hn : 0 ≤ n ∧ n ≤ 9223372036854775807) (next : Nat) (l : List Tok) (h : ToksOk l ∧ ∀ t ∈ l, t.b.length ≤ b.length) : POk b (pGo b g m n next l) := by
  have key : ∀ k : Int, 0 ≤ k → k < 10 → POk b ⟨next, l ++ [⟨k, n, []⟩], false⟩ := fun k h1 h2 => pok_snoc h ⟨by simp only; omega, by simp only; omega, by simp [Byt]⟩ (by simp)
  unfold pGo
  split
  · exact key 1 (by omega) (by omega)
  split
  · exact key 2 (by omega) (by omega)
  split
  · exact pPart_ok b hb _ n (by omega) next l h
  split
  · exact pPart_ok b hb _ n (by omega) next l h
  split
  · exact pMany_ok b g hg _ _ (key 5 (by omega) (by omega))
  split
  · exact pMany_ok b g hg _ _ (key 6 (by omega) (by omega))
  · exact h
theorem pItem_toks (b : List Int) (hb : Byt b) : ∀ (f : Nat) (p : Pa), POk b p → POk b (pItem b f p)
  | 0, p, h => h
  | f + 1, p, h => by
    unfold pItem
    split
    · exact h
    · rename_i hh
      simp only [pBad, not_or] at hh
      obtain ⟨M, n, X, e, _, hn, hX, _⟩ := getR_right b hb p.at' (by omega)
      rw [e]
      exact pGo_ok b hb _ (fun p hp => pItem_toks b hb f p hp) _ _ hn _ _ h
/-- What Decode tells. -/
def decR (u : List Int → Bool) (b : List Int) : List Tok × Int :=
  if 32768 < b.length then ([], 3)
  else if (pItem b 7 ⟨0, [], false⟩).bad || decide ((pItem b 7 ⟨0, [], false⟩).at' ≠ b.length) then ([], 3)
  else if (encR u (pItem b 7 ⟨0, [], false⟩).l).2 ≠ 0 ∨ (encR u (pItem b 7 ⟨0, [], false⟩).l).1 ≠ b then ([], 3)
  else ((pItem b 7 ⟨0, [], false⟩).l, 0)
theorem bequal_ok (x y : List Int) (hx : Byt x) (hy : Byt y) : ACall Tryd.prog 118 [.ro x.length (bys x), .ro y.length (bys y)] (.bool (decide (x = y))) [] := by
  refine ACall.of_does TTok Tryd.func118 rfl Tryd.call118 rfl (wpc_sound (M := MC) (PL := PL0) (CU := noCut) TTok mixed _ _ _ ?_)
  conv => whnf
  refine ⟨by simp, ?_⟩
  conv => whnf
  repeat ((first | refine ifB_t ?_ | refine ifB_f ?_); conv => whnf)
  refine ⟨x, ⟨rfl, hx⟩, ?_⟩
  conv => whnf
  repeat ((first | refine ifB_t ?_ | refine ifB_f ?_); conv => whnf)
  conv => whnf
  refine ⟨by simp, ?_⟩
  conv => whnf
  repeat ((first | refine ifB_t ?_ | refine ifB_f ?_); conv => whnf)
  refine ⟨y, ⟨rfl, hy⟩, ?_⟩
  conv => whnf
  repeat ((refine ⟨rfl, ?_⟩); conv => whnf)
  rfl
theorem decode_ok (b : List Int) (hb : Byt b) (hbl : b.length ≤ 1099511627776) : ACall Tryd.prog 99 [.ro b.length (bys b)]
    (.tuple [.own (decR validR b).1.length 3 (toksC (decR validR b).1), .int .i64 (decR validR b).2]) [] := by
  refine ACall.of_does TTok Tryd.func99 rfl Tryd.call99 rfl (wpc_sound (M := MC) (PL := PL0) (CU := noCut) TTok mixed _ _ _ ?_)
  unfold decR
  conv => whnf
  refine ifB_dec (fun k1 => ?_) (fun k1 => ?_)
  · rw [if_pos (by omega)]
    conv => whnf
    repeat ((refine ⟨⟨rfl, rfl⟩, ?_⟩); conv => whnf)
    rfl
  rw [if_neg (by omega)]
  have hi := pItem_ok b hb (by omega) 7 (by omega) ⟨0, [], false⟩ (by simp) (by simp)
  have hinv := pItem_inv b hb 7 ⟨0, [], false⟩ ⟨by simp, by simp⟩
  have htk := pItem_toks b hb 7 ⟨0, [], false⟩ ⟨by simp [ToksOk], by simp⟩
  obtain ⟨p, hp⟩ : ∃ p, p = pItem b 7 ⟨0, [], false⟩ := ⟨_, rfl⟩
  rw [← hp] at hi hinv htk ⊢
  rw [show (8 : Int) - ((7 : Nat) : Int) = 1 from rfl] at hi
  obtain ⟨pa, pl, pb⟩ := p
  have hen := encode_ok pl htk.1 (fun t ht => by have := htk.2 t ht; omega)
  have heb := encR_byt pl htk.1
  have heq := bequal_ok (encR validR pl).1 b heb hb
  conv => whnf
  repeat ((first | refine ⟨pureL_bys _, ?_⟩ | refine ⟨rfl, ?_⟩); conv => whnf)
  refine ⟨_, _, hi, by first | rfl | simp [noRoIf, noRoL, noRoV, noRoL_bys], ?_⟩
  conv => whnf
  repeat ((refine ⟨_, rfl, ?_⟩); conv => whnf)
  cases pb
  · conv => whnf
    repeat ((first | refine ifB_f ?_ | refine ⟨_, rfl, ?_⟩); conv => whnf)
    refine ifB_dec (fun k2 => ?_) (fun k2 => ?_)
    · simp only at k2
      rw [if_pos (by simp; omega)]
      conv => whnf
      repeat ((refine ⟨⟨rfl, rfl⟩, ?_⟩); conv => whnf)
      rfl
    simp only at k2
    rw [if_neg (by simp; omega)]
    conv => whnf
    repeat ((first | (refine Or.inl ⟨⟨rfl, ?_⟩, ?_⟩; (focus (first | rfl | (simp; done) | (rw [toksC_length]; omega)))) | refine ⟨rfl, ?_⟩ | refine ⟨_, rfl, ?_⟩ | (refine And.intro ?_ ?_; (focus (first | (simp only [pureL, pureV, pureL_bys, Bool.and_true, Bool.and_self]; done) | (simp only [pureL, pureV, pureL_bys, pureL_toks, Bool.and_true, Bool.and_self]; done))))); conv => whnf)
    refine ⟨_, _, hen, by first | rfl | simp [noRoIf, noRoL, noRoV, noRoL_bys], ?_⟩
    conv => whnf
    refine ifB_dec (fun k3 => ?_) (fun k3 => ?_)
    · simp only
      rw [if_pos (Or.inl k3)]
      conv => whnf
      repeat ((first | refine ifB_t ?_ | refine ⟨⟨rfl, rfl⟩, ?_⟩); conv => whnf)
      rfl
    conv => whnf
    repeat ((first | refine ifB_f ?_ | refine ⟨pureL_bys _, ?_⟩ | (refine Or.inl ⟨⟨rfl, ?_⟩, ?_⟩; (focus (first | rfl | (simp; done) | (rw [toksC_length]; omega)))) | refine ⟨rfl, ?_⟩); conv => whnf)
    refine ⟨_, _, heq, by first | rfl | simp [noRoIf, noRoL, noRoV, noRoL_bys], ?_⟩
    conv => whnf
    repeat ((refine ifB_f ?_); conv => whnf)
    by_cases k4 : (encR validR pl).1 = b
    · simp only
      rw [if_neg (by simp [k4]; simpa using k3)]
      rw [decide_eq_true k4]
      conv => whnf
      repeat ((first | refine ifB_f ?_ | refine ⟨_, rfl, ?_⟩ | refine ⟨⟨rfl, rfl⟩, ?_⟩ | (refine ⟨⟨rfl, rfl, rfl, ?_, pureL_toks _⟩, ?_⟩; (focus (rw [toksC_length]; omega)))); conv => whnf)
      rfl
    · simp only
      rw [if_pos (Or.inr k4)]
      rw [decide_eq_false k4]
      conv => whnf
      repeat ((first | refine ifB_t ?_ | refine ⟨⟨rfl, rfl⟩, ?_⟩); conv => whnf)
      rfl
  · rw [if_pos (by simp)]
    conv => whnf
    repeat ((first | refine ifB_t ?_ | refine ⟨⟨rfl, rfl⟩, ?_⟩); conv => whnf)
    rfl
end Go.Proofs.YtelnlfhdaelfdaaDoor.Abs
end
section
set_option linter.unusedVariables false
set_option linter.unusedSimpArgs false
namespace Go.Proofs.YtelnlfhdaelfdaaDoor.Abs
open Go
attribute [local irreducible] ifB fitP Does Weaker
end Go.Proofs.YtelnlfhdaelfdaaDoor.Abs
end
section
set_option linter.unusedVariables false
set_option linter.unusedSimpArgs false
namespace Go.Proofs.YtelnlfhdaelfdaaDoor.Abs
open Go
attribute [local irreducible] ifB fitP Does Weaker
end Go.Proofs.YtelnlfhdaelfdaaDoor.Abs
end
section
set_option linter.unusedVariables false
set_option linter.unusedSimpArgs false
namespace Go.Proofs.YtelnlfhdaelfdaaDoor.Abs
open Go
theorem putL_short (M : Int) {n : Int} (h : 0 ≤ n) : (putL M n).length ≤ 9 := by
  rw [putL_length]; have := (sizeR_le n h).1; omega
end Go.Proofs.YtelnlfhdaelfdaaDoor.Abs
end
section
set_option linter.unusedVariables false
set_option linter.unusedSimpArgs false
namespace Go.Proofs.YtelnlfhdaelfdaaDoor.Abs
open Go
/-- Where the parser stands when the writer stands so. -/
def phi (l : List Tok) (w : W) : Pa := ⟨w.out.length, l.take w.at', w.bad⟩
theorem wHead_ok {M n : Int} {w : W} (h : (wHead M n w).bad = false) (hM : 0 ≤ M ∧ M < 8) : 0 ≤ n ∧ wHead M n w = ⟨w.at', w.out ++ putL M n, false⟩ ∧ w.bad = false := by
  unfold wHead putS at h ⊢
  simp only [Bool.or_eq_false_iff, decide_eq_false_iff_not] at h
  obtain ⟨h1, h2⟩ := h
  split at h2
  · exact absurd (by decide) h2
  · rename_i h3
    refine ⟨by omega, ?_, h1⟩
    rw [if_neg h3]
    simp [h1]
theorem pItem_at {s : List Int} {w : W} {M n : Int} {L : List Tok} (f : Nat) (hM : 0 ≤ M) (hn : 0 ≤ n) (hn2 : n < 9223372036854775808) (hp : w.out ++ putL M n <+: s) (hL : L.length < 600) :
    pItem s (f + 1) ⟨w.out.length, L, false⟩ = pGo s (pItem s f) M n (w.out ++ putL M n).length L := by
  obtain ⟨q, rfl⟩ := hp
  have hg := getR_put w.out q M n hM hn hn2
  have hb : ¬ pBad (w.out ++ putL M n ++ q) ⟨w.out.length, L, false⟩ := by
    rintro (h | h | h)
    · cases h
    · exact h (congrArg (fun r => r.2.2.2) hg)
    · simp at h; omega
  show (if pBad _ _ then _ else pGo (w.out ++ putL M n ++ q) (pItem _ f) (getR (w.out ++ putL M n ++ q) w.out.length).1 (getR (w.out ++ putL M n ++ q) w.out.length).2.1 (getR (w.out ++ putL M n ++ q) w.out.length).2.2.1.toNat L) = _
  rw [if_neg hb, hg]
  simp only [Int.toNat_natCast]
theorem take_tok {l : List Tok} {i : Nat} (h : i < l.length) : l.take (i + 1) = l.take i ++ [l[i]] := by
  rw [List.take_succ_eq_append_getElem h]
/-- A step of the parser goes with a step of the writer. -/
def Goes (l : List Tok) (s : List Int) (g : W → W) (h : Pa → Pa) : Prop := ∀ w, (g w).bad = false → (g w).out <+: s → h (phi l w) = phi l (g w)
theorem pMany_arr {l : List Tok} {s : List Int} {g : W → W} {h : Pa → Pa} (hg : Mono g) (H : Goes l s g h) : ∀ (n : Nat) (w : W), (wArr g n w).bad = false → (wArr g n w).out <+: s → pMany h n (phi l w) = phi l (wArr g n w)
  | 0, w, h1, h2 => rfl
  | n + 1, w, h1, h2 => by
    have hb := (wArr_mono g hg (n + 1) w h1).1
    have e : wArr g (n + 1) w = wArr g n (g w) := by rw [wArr, if_neg (by simp [hb])]
    rw [e] at h1 h2 ⊢
    obtain ⟨k1, k2⟩ := wArr_mono g hg n _ h1
    have e2 : pMany h (n + 1) (phi l w) = pMany h n (h (phi l w)) := by rw [pMany, if_neg (by simp [phi, hb])]
    rw [e2, H w k1 (k2.trans h2)]
    exact pMany_arr hg H n _ h1 h2
theorem pMany_map {l : List Tok} {s : List Int} {g : W → W} {h : Pa → Pa} (hg : Mono g) (H : Goes l s g h) : ∀ (n i a b : Nat) (w : W), (wMap g n i a b w).bad = false → (wMap g n i a b w).out <+: s → pMany h (2 * n) (phi l w) = phi l (wMap g n i a b w)
  | 0, _, _, _, w, h1, h2 => rfl
  | n + 1, i, a, b, w, h1, h2 => by
    have hb := (wMap_mono g hg (n + 1) i a b w h1).1
    have e : ∃ x y, wMap g (n + 1) i a b w = wMap g n (i + 1) x y (g (g w)) := by
      rw [wMap] at h1 ⊢
      rw [if_neg (by simp [hb])] at h1 ⊢
      split at h1
      · simp at h1
      · rename_i hc
        rw [if_neg hc]
        exact ⟨_, _, rfl⟩
    obtain ⟨x, y, e⟩ := e
    rw [e] at h1 h2 ⊢
    obtain ⟨k1, k2⟩ := wMap_mono g hg n _ _ _ _ h1
    obtain ⟨k3, k4⟩ := hg _ k1
    have e2 : pMany h (2 * (n + 1)) (phi l w) = pMany h (2 * n) (h (h (phi l w))) := by
      rw [show 2 * (n + 1) = 2 * n + 1 + 1 by omega, pMany, if_neg (by simp [phi, hb]), H w k3 (k4.trans (k2.trans h2)), pMany, if_neg (by simp [phi, k3])]
    rw [e2, H w k3 (k4.trans (k2.trans h2)), H (g w) k1 (k2.trans h2)]
    exact pMany_map hg H n _ _ _ _ h1 h2
theorem wBytes_ok {u : List Int → Bool} {t : Tok} {w : W} (h : (wBytes u t w).bad = false) : t.n = 0 ∧ (t.b.length : Int) ≤ 32768 ∧ (t.k = 4 → u t.b = true) ∧
    wBytes u t w = ⟨w.at', w.out ++ putL (if t.k = 4 then 3 else 2) t.b.length ++ t.b, false⟩ := by
  unfold wBytes at h ⊢
  split at h
  · simp at h
  · rename_i hh
    rw [if_neg hh]
    simp only [Bool.or_eq_true, not_or, decide_eq_true_eq, Bool.and_eq_true, not_and, Bool.not_eq_true'] at hh
    obtain ⟨⟨⟨h1, h2⟩, h3⟩, h4⟩ := hh
    obtain ⟨k1, k2, k3⟩ := wHead_ok h (by split <;> omega)
    rw [k2]
    refine ⟨by omega, by omega, fun e => ?_, by simp⟩
    have := h2 e
    simpa using this
theorem pItem_of_wItem (u : List Int → Bool) (l : List Tok) (hl : ToksOk l) (hn : l.length ≤ 600) (s : List Int) (f : Nat) : Goes l s (wItem u l f) (pItem s (f + 1)) := by
    intro w h hs
    have hw := (wItem_mono u l f w h).1
    obtain ⟨at', out, bad⟩ := w
    simp only at hw
    subst hw
    unfold wItem at h hs ⊢
    split at h
    · simp at h
    rename_i hh
    rw [dif_neg hh] at hs ⊢
    simp only at hh h hs ⊢
    have hat : at' < l.length := by omega
    have hL : (l.take at').length < 600 := by rw [List.length_take]; omega
    obtain ⟨t, ht⟩ : ∃ t, t = l[at'] := ⟨_, rfl⟩
    have htk := hl _ (List.getElem_mem hat)
    have htt := take_tok hat
    rw [← ht] at h hs htk htt ⊢
    have num : ∀ (M : Int) (hM : 0 ≤ M ∧ M < 8), (wNumber M t ⟨at' + 1, out, false⟩).bad = false → (wNumber M t ⟨at' + 1, out, false⟩).out <+: s → t.b = [] ∧
        wNumber M t ⟨at' + 1, out, false⟩ = ⟨at' + 1, out ++ putL M t.n, false⟩ ∧ pItem s (f + 1) (phi l ⟨at', out, false⟩) = pGo s (pItem s f) M t.n (out ++ putL M t.n).length (l.take at') := by
      intro M hM h1 h2
      unfold wNumber at h1 h2 ⊢
      obtain ⟨k1, k2, k3⟩ := wHead_ok h1 hM
      rw [k2] at h2 ⊢
      simp only [Bool.false_or, decide_eq_false_iff_not] at k3
      refine ⟨List.length_eq_zero_iff.1 (by omega), rfl, ?_⟩
      exact pItem_at (w := ⟨at', out, false⟩) f hM.1 k1 htk.2.1.2 h2 hL
    have tok : ∀ k : Int, t.k = k → t.b = [] → t = ⟨k, t.n, []⟩ := by
      intro k h1 h2
      obtain ⟨a, b, c⟩ := t
      simp only at h1 h2
      rw [h1, h2]
    split at h
    · rename_i k
      rw [if_pos k] at hs ⊢
      obtain ⟨e1, e2, e3⟩ := num 0 (by omega) h hs
      rw [e2, e3]
      unfold pGo
      rw [if_pos rfl]
      simp only [phi, htt]
      rw [tok 1 k e1]
    rename_i k1; rw [if_neg k1] at hs ⊢
    split at h
    · rename_i k
      rw [if_pos k] at hs ⊢
      obtain ⟨e1, e2, e3⟩ := num 1 (by omega) h hs
      rw [e2, e3]
      unfold pGo
      rw [if_neg (by omega), if_pos rfl]
      simp only [phi, htt]
      rw [tok 2 k e1]
    rename_i k2; rw [if_neg k2] at hs ⊢
    split at h
    · rename_i k
      rw [if_pos k] at hs ⊢
      obtain ⟨e1, e2, e3, e4⟩ := wBytes_ok h
      rw [e4] at hs ⊢
      simp only at hs
      have hp := pItem_at (w := ⟨at', out, false⟩) f (M := if t.k = 4 then 3 else 2) (n := t.b.length) (L := l.take at') (by split <;> omega) (by omega) (by omega) ((List.prefix_append _ _).trans hs) hL
      have hp' : pItem s (f + 1) (phi l ⟨at', out, false⟩) = _ := hp
      rw [hp']
      obtain ⟨q, hq⟩ := hs
      have part : ∀ M : Int, t.k = M → pPart s M t.b.length (out ++ putL (if t.k = 4 then 3 else 2) t.b.length).length (l.take at') = phi l ⟨at' + 1, out ++ putL (if t.k = 4 then 3 else 2) t.b.length ++ t.b, false⟩ := by
        intro M hM
        unfold pPart
        rw [if_neg (by rw [← hq]; simp only [List.length_append]; omega)]
        simp only [phi, htt]
        have : (s.drop (out ++ putL (if t.k = 4 then 3 else 2) t.b.length).length).take (t.b.length : Int).toNat = t.b := by
          rw [← hq, List.append_assoc _ t.b q, List.drop_left, Int.toNat_natCast, List.take_left]
        rw [this]
        have et : (⟨M, 0, t.b⟩ : Tok) = t := by
          obtain ⟨a, b, c⟩ := t
          simp only at e1 hM ⊢
          rw [e1, hM]
        rw [et]
        congr 1
        simp
        omega
      rcases k with k | k
      · have e : (if t.k = 4 then (3 : Int) else 2) = 2 := by rw [if_neg (by omega)]
        rw [← part 3 k]
        simp only [e]
        unfold pGo
        rw [if_neg (by omega), if_neg (by omega), if_pos rfl]
      · have e : (if t.k = 4 then (3 : Int) else 2) = 3 := by rw [if_pos k]
        rw [← part 4 k]
        simp only [e]
        unfold pGo
        rw [if_neg (by omega), if_neg (by omega), if_neg (by omega), if_pos rfl]
    rename_i k3; rw [if_neg k3] at hs ⊢
    split at h
    · rename_i k
      rw [if_pos k] at hs ⊢
      cases f with
      | zero => simp at h
      | succ f =>
        simp only at h hs ⊢
        split at h
        · simp at h
        rename_i k4
        rw [if_neg k4] at hs ⊢
        have ih := pItem_of_wItem u l hl hn s f
        have hm : t.b = [] ∧ 0 ≤ t.n ∧ t.n ≤ 64 := by
          simp only [wManyBad, Bool.or_eq_true, not_or, decide_eq_true_eq] at k4
          exact ⟨List.length_eq_zero_iff.1 (by omega), by omega, by omega⟩
        split at h
        · rename_i k5
          rw [if_pos k5] at hs ⊢
          obtain ⟨j1, j2⟩ := wArr_mono _ (wItem_mono u l f) _ _ h
          obtain ⟨i1, i2, i3⟩ := wHead_ok j1 (by omega)
          have hp := pItem_at (w := ⟨at', out, false⟩) (f + 1) (M := 4) (n := t.n) (L := l.take at') (by omega) i1 htk.2.1.2 (by have := j2.trans hs; rw [i2] at this; exact this) hL
          have hp' : pItem s (f + 1 + 1) (phi l ⟨at', out, false⟩) = _ := hp
          rw [hp', ← pMany_arr (wItem_mono u l f) ih _ _ h hs, i2]
          unfold pGo
          rw [if_neg (by omega), if_neg (by omega), if_neg (by omega), if_neg (by omega), if_pos rfl]
          simp only [phi, htt]
          rw [tok 5 k5 hm.1]
        · rename_i k5
          rw [if_neg k5] at hs ⊢
          have k6 : t.k = 6 := by omega
          obtain ⟨j1, j2⟩ := wMap_mono _ (wItem_mono u l f) _ _ _ _ _ h
          obtain ⟨i1, i2, i3⟩ := wHead_ok j1 (by omega)
          have hp := pItem_at (w := ⟨at', out, false⟩) (f + 1) (M := 5) (n := t.n) (L := l.take at') (by omega) i1 htk.2.1.2 (by have := j2.trans hs; rw [i2] at this; exact this) hL
          have hp' : pItem s (f + 1 + 1) (phi l ⟨at', out, false⟩) = _ := hp
          rw [hp', ← pMany_map (wItem_mono u l f) ih _ _ _ _ _ h hs, i2]
          unfold pGo
          rw [if_neg (by omega), if_neg (by omega), if_neg (by omega), if_neg (by omega), if_neg (by omega), if_pos rfl]
          simp only [phi, htt]
          rw [tok 6 k6 hm.1, show (2 * min t.n 65).toNat = 2 * t.n.toNat by omega]
    · simp at h
/-- What encR makes, told. -/
theorem encR_yes {u : List Int → Bool} {l : List Tok} {a : List Int} (h : encR u l = (a, 0)) : l.length ≤ 600 ∧ wItem u l 6 ⟨0, [], false⟩ = ⟨l.length, a, false⟩ ∧ a.length ≤ 32768 := by
  unfold encR at h
  split at h
  · cases h
  split at h
  · cases h
  rename_i h1 h2
  simp only [Bool.or_eq_true, decide_eq_true_eq, not_or, Bool.not_eq_true] at h2
  obtain ⟨⟨h3, h4⟩, h5⟩ := h2
  have e := congrArg Prod.fst h
  simp only at e
  refine ⟨by omega, ?_, by rw [← e]; omega⟩
  have h4 := Classical.not_not.1 h4
  generalize wItem u l 6 ⟨0, [], false⟩ = w at *
  obtain ⟨x, y, z⟩ := w
  simp only at h3 h4 e
  rw [h3, h4, e]
theorem encR_or (u : List Int → Bool) (l : List Tok) : encR u l = ([], 1) ∨ ∃ a, encR u l = (a, 0) := by
  unfold encR
  split
  · exact .inl rfl
  split
  · exact .inl rfl
  · exact .inr ⟨_, rfl⟩
theorem pItem_enc {u : List Int → Bool} {l : List Tok} {a : List Int} (hl : ToksOk l) (h : encR u l = (a, 0)) (q : List Int) : pItem (a ++ q) 7 ⟨0, [], false⟩ = ⟨a.length, l, false⟩ := by
  obtain ⟨h1, h2, h3⟩ := encR_yes h
  have := pItem_of_wItem u l hl h1 (a ++ q) 6 ⟨0, [], false⟩ (by rw [h2]) (by rw [h2]; exact List.prefix_append _ _)
  rw [h2] at this
  simpa [phi] using this
theorem decR_enc {u : List Int → Bool} {l : List Tok} {a : List Int} (hl : ToksOk l) (h : encR u l = (a, 0)) : decR u a = (l, 0) := by
  have hi := pItem_enc hl h []
  rw [List.append_nil] at hi
  have := encR_yes h
  unfold decR
  rw [if_neg (by omega), hi]
  simp [h]
/-- What decR reads, told. -/
theorem decR_or (u : List Int → Bool) (b : List Int) : decR u b = ([], 3) ∨ ∃ l, decR u b = (l, 0) ∧ encR u l = (b, 0) ∧ pItem b 7 ⟨0, [], false⟩ = ⟨b.length, l, false⟩ := by
  unfold decR
  split
  · exact .inl rfl
  split
  · exact .inl rfl
  split
  · exact .inl rfl
  · rename_i h1 h2 h3
    refine .inr ⟨_, rfl, ?_, ?_⟩
    · have h4 := Classical.not_not.1 (fun e => h3 (.inl e))
      have h5 := Classical.not_not.1 (fun e => h3 (.inr e))
      exact Prod.ext h5 h4
    · simp only [Bool.or_eq_true, decide_eq_true_eq, not_or, Bool.not_eq_true] at h2
      obtain ⟨h4, h5⟩ := h2
      have h5 := Classical.not_not.1 h5
      generalize pItem b 7 ⟨0, [], false⟩ = p at *
      obtain ⟨x, y, z⟩ := p
      simp only at h4 h5
      rw [h4, h5]
end Go.Proofs.YtelnlfhdaelfdaaDoor.Abs
end
