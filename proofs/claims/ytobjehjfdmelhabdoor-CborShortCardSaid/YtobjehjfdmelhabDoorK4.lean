/- Texts CQ to CZ, merged. -/
import Derived.Test.YtobjehjfdmelhabDoorK3
section
set_option linter.unusedVariables false
set_option linter.unusedSimpArgs false
namespace Go.Proofs.YtobjehjfdmelhabDoor.Abs
open Go
attribute [local irreducible] ifB fitP Does Weaker
theorem decR_nil (u : List Int → Bool) : decR u [] = ([], 3) := by
  have : (pItem [] 7 ⟨0, [], false⟩).bad = true := by rfl
  simp [decR, this]
theorem enc_pos {u : List Int → Bool} {l : List Tok} {a : List Int} (hl : ToksOk l) (h : encR u l = (a, 0)) : 0 < a.length := by
  cases a with
  | nil =>
    have := decR_enc hl h
    rw [decR_nil] at this
    simp at this
  | cons x a => simp
theorem encR_len {u : List Int → Bool} {l : List Tok} {a : List Int} (h : encR u l = (a, 0)) : a.length ≤ 32768 := (encR_yes h).2.2
theorem pureL_app : ∀ a b : List AV, pureL (a ++ b) = (pureL a && pureL b)
  | [], b => by simp [pureL]
  | x :: a, b => by simp [pureL, pureL_app a b, Bool.and_assoc]
theorem ones_toks : ∀ l : List Tok, (toksC l).all AV.one = true
  | [] => rfl
  | t :: l => by simp [toksC, ones_toks l, AV.one]
def heavyR (l : List Tok) : Bool := decide (700 < l.length) || l.any fun t => decide (300 < t.b.length)
theorem heavy_no {l : List Tok} (h : heavyR l = false) : l.length ≤ 700 ∧ ∀ t ∈ l, t.b.length ≤ 300 := by
  simp only [heavyR, Bool.or_eq_false_iff, decide_eq_false_iff_not, List.any_eq_false, decide_eq_true_eq] at h
  exact ⟨by omega, fun t ht => by have := h.2 t ht; omega⟩
theorem heavy_ok (l : List Tok) : ACall Tryd.prog 15 [.ro l.length (toksC l)] (.bool (heavyR l)) [] := by
  refine ACall.of_does TTok Tryd.func15 rfl Tryd.call15 rfl (wpc_sound (M := MC) (PL := PL0) (CU := noCut) TTok mixed _ _ _ ?_)
  conv => whnf
  repeat (first | (refine ifB_t ?_; conv => whnf) | (refine ifB_f ?_; conv => whnf) | (refine ifB_neg (decide_eq_false (by first | omega | rfl | (dsimp only; omega))) ?_; conv => whnf) | (refine ifB_pos (decide_eq_true (by first | omega | rfl | (dsimp only; omega))) ?_; conv => whnf) | (refine fit_i64 ⟨by first | omega | rfl | (dsimp only; omega), by first | omega | rfl | (dsimp only; omega)⟩ ?_; conv => whnf) | (refine fit_u64 ⟨by first | omega | rfl | (dsimp only; omega), by first | omega | rfl | (dsimp only; omega)⟩ ?_; conv => whnf) | (refine fit_u8 ⟨by first | omega | rfl | (dsimp only; omega), by first | omega | rfl | (dsimp only; omega)⟩ ?_; conv => whnf) | (refine ⟨pureL_bys _, ?_⟩; conv => whnf) | (refine ⟨ones_bys _, ?_⟩; conv => whnf) | (refine ⟨pureL_cutB _ _ _ _, ?_⟩; conv => whnf) | (refine Or.inl ⟨⟨rfl, ?_⟩, ?_⟩; (focus (first | rfl | (simp; done) | (rw [toksC_length]; omega))); conv => whnf) | (refine ⟨rfl, ?_⟩; conv => whnf) | (refine ⟨_, rfl, ?_⟩; conv => whnf) | (refine ⟨⟨rfl, rfl⟩, ?_⟩; conv => whnf) | (refine ⟨⟨rfl, rfl, rfl, ?_, pureL_bys _⟩, ?_⟩; (focus (simp; done)); conv => whnf) | (refine ⟨⟨rfl, rfl, ?_, pureL_bys _⟩, ?_⟩; (focus (simp; done)); conv => whnf) | (refine ⟨⟨rfl, rfl, rfl, ?_, pureL_toks _⟩, ?_⟩; (focus (rw [toksC_length]; omega)); conv => whnf) | (refine ⟨⟨rfl, rfl, ?_, pureL_toks _⟩, ?_⟩; (focus (rw [toksC_length]; omega)); conv => whnf) | (refine ⟨⟨rfl, rfl, ?_⟩, ?_⟩; (focus (first | assumption | exact pureL_bys _ | exact pureL_toks _)); conv => whnf) | (refine ⟨⟨rfl, rfl, ?_⟩, ?_⟩; (focus (first | exact Nat.le_of_ble_eq_true rfl | (simp; done))); conv => whnf) | (refine And.intro (by first | omega | rfl | (dsimp only; omega)) ?_; conv => whnf) | (refine ⟨⟨rfl, ?_⟩, ?_⟩; (focus (first | (simp only [okB]; omega) | (simp [okB]; omega))); conv => whnf) | (refine ⟨⟨?_, ?_, ?_⟩, ?_⟩; (focus omega); (focus (first | omega | (simp; done) | (simp; omega))); (focus (first | (simp; done) | (simp; omega) | (rw [toksC_length]; simp; omega))); conv => whnf) | (refine ⟨roLoad_ok rfl ?_, ?_⟩; (focus (simp [toksC_length]; omega)); conv => whnf) | (refine ⟨⟨?_, ?_⟩, ?_⟩; (focus (simp; done)); (focus (first | (simp only [okB]; omega) | (simp [okB]; omega))); conv => whnf) | (refine And.intro ?_ ?_; (focus (first | (simp only [pureL, pureV, pureL_bys, Bool.and_true, Bool.and_self]; done) | (simp only [pureL, pureV, pureL_bys, pureL_toks, Bool.and_true, Bool.and_self]; done))); conv => whnf) | (refine ⟨⟨rfl, rfl, ?_, ?_⟩, ?_⟩; (focus (first | (simp; done) | (simp; omega))); (focus (first | (simp [limB]; done) | (simp [limB]; omega))); conv => whnf) | (refine ⟨⟨rfl, ?_, ?_, ?_⟩, ?_⟩; (focus (first | (simp; done) | (simp; omega))); (focus (first | exact Or.inl rfl | exact Or.inr (by omega))); (focus (first | (simp [limB]; done) | (simp [limB]; omega))); conv => whnf) | (refine And.intro ?_ ?_; (focus (first | (simp [limB]; done) | (simp [limB]; omega))); conv => whnf) | (refine ⟨ones_toks _, ?_⟩; conv => whnf) | (refine And.intro ?_ ?_; (focus (simp [pureL, pureV, pureL_bys, pureL_toks, pureL_app]; done)); conv => whnf) | (refine fit_i64 ⟨by first | (simp; done) | (simp; omega), by first | (simp; done) | (simp; omega)⟩ ?_; conv => whnf) | (refine ifB_neg (decide_eq_false (by first | (simp; done) | (simp; omega))) ?_; conv => whnf) | (refine ifB_pos (decide_eq_true (by first | (simp; done) | (simp; omega))) ?_; conv => whnf) | (refine Or.inl ⟨⟨rfl, ?_⟩, ?_⟩; (focus (first | (simp [toksC_length]; done) | (simp [toksC_length]; omega))); conv => whnf) | (refine ⟨⟨rfl, rfl, ?_, ?_⟩, ?_⟩; (focus (first | (simp [toksC_length]; done) | (simp [toksC_length]; omega))); (focus (first | (simp [limB]; done) | (simp [limB]; omega))); conv => whnf) | (refine ⟨⟨rfl, ?_, ?_, ?_⟩, ?_⟩; (focus (first | (simp [toksC_length]; done) | (simp [toksC_length]; omega))); (focus (first | exact Or.inl rfl | exact Or.inr (by omega))); (focus (first | (simp [limB]; done) | (simp [limB]; omega))); conv => whnf) | (refine And.intro ?_ ?_; (focus (first | (simp [toksC_length]; done) | (simp [toksC_length]; omega))); conv => whnf))
  refine ifB_dec (fun h => ?_) (fun h => ?_)
  · rw [show heavyR l = true by simp [heavyR]; omega]
    conv => whnf
    repeat (first | (refine ifB_t ?_; conv => whnf) | (refine ifB_f ?_; conv => whnf) | (refine ifB_neg (decide_eq_false (by first | omega | rfl | (dsimp only; omega))) ?_; conv => whnf) | (refine ifB_pos (decide_eq_true (by first | omega | rfl | (dsimp only; omega))) ?_; conv => whnf) | (refine fit_i64 ⟨by first | omega | rfl | (dsimp only; omega), by first | omega | rfl | (dsimp only; omega)⟩ ?_; conv => whnf) | (refine fit_u64 ⟨by first | omega | rfl | (dsimp only; omega), by first | omega | rfl | (dsimp only; omega)⟩ ?_; conv => whnf) | (refine fit_u8 ⟨by first | omega | rfl | (dsimp only; omega), by first | omega | rfl | (dsimp only; omega)⟩ ?_; conv => whnf) | (refine ⟨pureL_bys _, ?_⟩; conv => whnf) | (refine ⟨ones_bys _, ?_⟩; conv => whnf) | (refine ⟨pureL_cutB _ _ _ _, ?_⟩; conv => whnf) | (refine Or.inl ⟨⟨rfl, ?_⟩, ?_⟩; (focus (first | rfl | (simp; done) | (rw [toksC_length]; omega))); conv => whnf) | (refine ⟨rfl, ?_⟩; conv => whnf) | (refine ⟨_, rfl, ?_⟩; conv => whnf) | (refine ⟨⟨rfl, rfl⟩, ?_⟩; conv => whnf) | (refine ⟨⟨rfl, rfl, rfl, ?_, pureL_bys _⟩, ?_⟩; (focus (simp; done)); conv => whnf) | (refine ⟨⟨rfl, rfl, ?_, pureL_bys _⟩, ?_⟩; (focus (simp; done)); conv => whnf) | (refine ⟨⟨rfl, rfl, rfl, ?_, pureL_toks _⟩, ?_⟩; (focus (rw [toksC_length]; omega)); conv => whnf) | (refine ⟨⟨rfl, rfl, ?_, pureL_toks _⟩, ?_⟩; (focus (rw [toksC_length]; omega)); conv => whnf) | (refine ⟨⟨rfl, rfl, ?_⟩, ?_⟩; (focus (first | assumption | exact pureL_bys _ | exact pureL_toks _)); conv => whnf) | (refine ⟨⟨rfl, rfl, ?_⟩, ?_⟩; (focus (first | exact Nat.le_of_ble_eq_true rfl | (simp; done))); conv => whnf) | (refine And.intro (by first | omega | rfl | (dsimp only; omega)) ?_; conv => whnf) | (refine ⟨⟨rfl, ?_⟩, ?_⟩; (focus (first | (simp only [okB]; omega) | (simp [okB]; omega))); conv => whnf) | (refine ⟨⟨?_, ?_, ?_⟩, ?_⟩; (focus omega); (focus (first | omega | (simp; done) | (simp; omega))); (focus (first | (simp; done) | (simp; omega) | (rw [toksC_length]; simp; omega))); conv => whnf) | (refine ⟨roLoad_ok rfl ?_, ?_⟩; (focus (simp [toksC_length]; omega)); conv => whnf) | (refine ⟨⟨?_, ?_⟩, ?_⟩; (focus (simp; done)); (focus (first | (simp only [okB]; omega) | (simp [okB]; omega))); conv => whnf) | (refine And.intro ?_ ?_; (focus (first | (simp only [pureL, pureV, pureL_bys, Bool.and_true, Bool.and_self]; done) | (simp only [pureL, pureV, pureL_bys, pureL_toks, Bool.and_true, Bool.and_self]; done))); conv => whnf) | (refine ⟨⟨rfl, rfl, ?_, ?_⟩, ?_⟩; (focus (first | (simp; done) | (simp; omega))); (focus (first | (simp [limB]; done) | (simp [limB]; omega))); conv => whnf) | (refine ⟨⟨rfl, ?_, ?_, ?_⟩, ?_⟩; (focus (first | (simp; done) | (simp; omega))); (focus (first | exact Or.inl rfl | exact Or.inr (by omega))); (focus (first | (simp [limB]; done) | (simp [limB]; omega))); conv => whnf) | (refine And.intro ?_ ?_; (focus (first | (simp [limB]; done) | (simp [limB]; omega))); conv => whnf) | (refine ⟨ones_toks _, ?_⟩; conv => whnf) | (refine And.intro ?_ ?_; (focus (simp [pureL, pureV, pureL_bys, pureL_toks, pureL_app]; done)); conv => whnf) | (refine fit_i64 ⟨by first | (simp; done) | (simp; omega), by first | (simp; done) | (simp; omega)⟩ ?_; conv => whnf) | (refine ifB_neg (decide_eq_false (by first | (simp; done) | (simp; omega))) ?_; conv => whnf) | (refine ifB_pos (decide_eq_true (by first | (simp; done) | (simp; omega))) ?_; conv => whnf) | (refine Or.inl ⟨⟨rfl, ?_⟩, ?_⟩; (focus (first | (simp [toksC_length]; done) | (simp [toksC_length]; omega))); conv => whnf) | (refine ⟨⟨rfl, rfl, ?_, ?_⟩, ?_⟩; (focus (first | (simp [toksC_length]; done) | (simp [toksC_length]; omega))); (focus (first | (simp [limB]; done) | (simp [limB]; omega))); conv => whnf) | (refine ⟨⟨rfl, ?_, ?_, ?_⟩, ?_⟩; (focus (first | (simp [toksC_length]; done) | (simp [toksC_length]; omega))); (focus (first | exact Or.inl rfl | exact Or.inr (by omega))); (focus (first | (simp [limB]; done) | (simp [limB]; omega))); conv => whnf) | (refine And.intro ?_ ?_; (focus (first | (simp [toksC_length]; done) | (simp [toksC_length]; omega))); conv => whnf))
    rfl
  conv => whnf
  repeat (first | (refine ifB_t ?_; conv => whnf) | (refine ifB_f ?_; conv => whnf) | (refine ifB_neg (decide_eq_false (by first | omega | rfl | (dsimp only; omega))) ?_; conv => whnf) | (refine ifB_pos (decide_eq_true (by first | omega | rfl | (dsimp only; omega))) ?_; conv => whnf) | (refine fit_i64 ⟨by first | omega | rfl | (dsimp only; omega), by first | omega | rfl | (dsimp only; omega)⟩ ?_; conv => whnf) | (refine fit_u64 ⟨by first | omega | rfl | (dsimp only; omega), by first | omega | rfl | (dsimp only; omega)⟩ ?_; conv => whnf) | (refine fit_u8 ⟨by first | omega | rfl | (dsimp only; omega), by first | omega | rfl | (dsimp only; omega)⟩ ?_; conv => whnf) | (refine ⟨pureL_bys _, ?_⟩; conv => whnf) | (refine ⟨ones_bys _, ?_⟩; conv => whnf) | (refine ⟨pureL_cutB _ _ _ _, ?_⟩; conv => whnf) | (refine Or.inl ⟨⟨rfl, ?_⟩, ?_⟩; (focus (first | rfl | (simp; done) | (rw [toksC_length]; omega))); conv => whnf) | (refine ⟨rfl, ?_⟩; conv => whnf) | (refine ⟨_, rfl, ?_⟩; conv => whnf) | (refine ⟨⟨rfl, rfl⟩, ?_⟩; conv => whnf) | (refine ⟨⟨rfl, rfl, rfl, ?_, pureL_bys _⟩, ?_⟩; (focus (simp; done)); conv => whnf) | (refine ⟨⟨rfl, rfl, ?_, pureL_bys _⟩, ?_⟩; (focus (simp; done)); conv => whnf) | (refine ⟨⟨rfl, rfl, rfl, ?_, pureL_toks _⟩, ?_⟩; (focus (rw [toksC_length]; omega)); conv => whnf) | (refine ⟨⟨rfl, rfl, ?_, pureL_toks _⟩, ?_⟩; (focus (rw [toksC_length]; omega)); conv => whnf) | (refine ⟨⟨rfl, rfl, ?_⟩, ?_⟩; (focus (first | assumption | exact pureL_bys _ | exact pureL_toks _)); conv => whnf) | (refine ⟨⟨rfl, rfl, ?_⟩, ?_⟩; (focus (first | exact Nat.le_of_ble_eq_true rfl | (simp; done))); conv => whnf) | (refine And.intro (by first | omega | rfl | (dsimp only; omega)) ?_; conv => whnf) | (refine ⟨⟨rfl, ?_⟩, ?_⟩; (focus (first | (simp only [okB]; omega) | (simp [okB]; omega))); conv => whnf) | (refine ⟨⟨?_, ?_, ?_⟩, ?_⟩; (focus omega); (focus (first | omega | (simp; done) | (simp; omega))); (focus (first | (simp; done) | (simp; omega) | (rw [toksC_length]; simp; omega))); conv => whnf) | (refine ⟨roLoad_ok rfl ?_, ?_⟩; (focus (simp [toksC_length]; omega)); conv => whnf) | (refine ⟨⟨?_, ?_⟩, ?_⟩; (focus (simp; done)); (focus (first | (simp only [okB]; omega) | (simp [okB]; omega))); conv => whnf) | (refine And.intro ?_ ?_; (focus (first | (simp only [pureL, pureV, pureL_bys, Bool.and_true, Bool.and_self]; done) | (simp only [pureL, pureV, pureL_bys, pureL_toks, Bool.and_true, Bool.and_self]; done))); conv => whnf) | (refine ⟨⟨rfl, rfl, ?_, ?_⟩, ?_⟩; (focus (first | (simp; done) | (simp; omega))); (focus (first | (simp [limB]; done) | (simp [limB]; omega))); conv => whnf) | (refine ⟨⟨rfl, ?_, ?_, ?_⟩, ?_⟩; (focus (first | (simp; done) | (simp; omega))); (focus (first | exact Or.inl rfl | exact Or.inr (by omega))); (focus (first | (simp [limB]; done) | (simp [limB]; omega))); conv => whnf) | (refine And.intro ?_ ?_; (focus (first | (simp [limB]; done) | (simp [limB]; omega))); conv => whnf) | (refine ⟨ones_toks _, ?_⟩; conv => whnf) | (refine And.intro ?_ ?_; (focus (simp [pureL, pureV, pureL_bys, pureL_toks, pureL_app]; done)); conv => whnf) | (refine fit_i64 ⟨by first | (simp; done) | (simp; omega), by first | (simp; done) | (simp; omega)⟩ ?_; conv => whnf) | (refine ifB_neg (decide_eq_false (by first | (simp; done) | (simp; omega))) ?_; conv => whnf) | (refine ifB_pos (decide_eq_true (by first | (simp; done) | (simp; omega))) ?_; conv => whnf) | (refine Or.inl ⟨⟨rfl, ?_⟩, ?_⟩; (focus (first | (simp [toksC_length]; done) | (simp [toksC_length]; omega))); conv => whnf) | (refine ⟨⟨rfl, rfl, ?_, ?_⟩, ?_⟩; (focus (first | (simp [toksC_length]; done) | (simp [toksC_length]; omega))); (focus (first | (simp [limB]; done) | (simp [limB]; omega))); conv => whnf) | (refine ⟨⟨rfl, ?_, ?_, ?_⟩, ?_⟩; (focus (first | (simp [toksC_length]; done) | (simp [toksC_length]; omega))); (focus (first | exact Or.inl rfl | exact Or.inr (by omega))); (focus (first | (simp [limB]; done) | (simp [limB]; omega))); conv => whnf) | (refine And.intro ?_ ?_; (focus (first | (simp [toksC_length]; done) | (simp [toksC_length]; omega))); conv => whnf))
  refine Does.loop (fun c : Nat => mkSt [(0, .ro l.length (toksC l)), (3, .int .i64 c)] [] 0 20) (fun c => c ≤ l.length ∧ ∀ (j : Nat) (h1 : j < l.length), j < c → ¬ 300 < l[j].b.length) (fun c => l.length - c) ?_ 0 ⟨Nat.zero_le _, fun j _ h => by omega⟩ ?_
  · rintro c ⟨hc, heq⟩
    refine wpc_sound (M := MC) (PL := PL0) (CU := noCut) TTok mixed _ _ _ ?_
    conv => whnf
    repeat (first | (refine ifB_t ?_; conv => whnf) | (refine ifB_f ?_; conv => whnf) | (refine ifB_neg (decide_eq_false (by first | omega | rfl | (dsimp only; omega))) ?_; conv => whnf) | (refine ifB_pos (decide_eq_true (by first | omega | rfl | (dsimp only; omega))) ?_; conv => whnf) | (refine fit_i64 ⟨by first | omega | rfl | (dsimp only; omega), by first | omega | rfl | (dsimp only; omega)⟩ ?_; conv => whnf) | (refine fit_u64 ⟨by first | omega | rfl | (dsimp only; omega), by first | omega | rfl | (dsimp only; omega)⟩ ?_; conv => whnf) | (refine fit_u8 ⟨by first | omega | rfl | (dsimp only; omega), by first | omega | rfl | (dsimp only; omega)⟩ ?_; conv => whnf) | (refine ⟨pureL_bys _, ?_⟩; conv => whnf) | (refine ⟨ones_bys _, ?_⟩; conv => whnf) | (refine ⟨pureL_cutB _ _ _ _, ?_⟩; conv => whnf) | (refine Or.inl ⟨⟨rfl, ?_⟩, ?_⟩; (focus (first | rfl | (simp; done) | (rw [toksC_length]; omega))); conv => whnf) | (refine ⟨rfl, ?_⟩; conv => whnf) | (refine ⟨_, rfl, ?_⟩; conv => whnf) | (refine ⟨⟨rfl, rfl⟩, ?_⟩; conv => whnf) | (refine ⟨⟨rfl, rfl, rfl, ?_, pureL_bys _⟩, ?_⟩; (focus (simp; done)); conv => whnf) | (refine ⟨⟨rfl, rfl, ?_, pureL_bys _⟩, ?_⟩; (focus (simp; done)); conv => whnf) | (refine ⟨⟨rfl, rfl, rfl, ?_, pureL_toks _⟩, ?_⟩; (focus (rw [toksC_length]; omega)); conv => whnf) | (refine ⟨⟨rfl, rfl, ?_, pureL_toks _⟩, ?_⟩; (focus (rw [toksC_length]; omega)); conv => whnf) | (refine ⟨⟨rfl, rfl, ?_⟩, ?_⟩; (focus (first | assumption | exact pureL_bys _ | exact pureL_toks _)); conv => whnf) | (refine ⟨⟨rfl, rfl, ?_⟩, ?_⟩; (focus (first | exact Nat.le_of_ble_eq_true rfl | (simp; done))); conv => whnf) | (refine And.intro (by first | omega | rfl | (dsimp only; omega)) ?_; conv => whnf) | (refine ⟨⟨rfl, ?_⟩, ?_⟩; (focus (first | (simp only [okB]; omega) | (simp [okB]; omega))); conv => whnf) | (refine ⟨⟨?_, ?_, ?_⟩, ?_⟩; (focus omega); (focus (first | omega | (simp; done) | (simp; omega))); (focus (first | (simp; done) | (simp; omega) | (rw [toksC_length]; simp; omega))); conv => whnf) | (refine ⟨roLoad_ok rfl ?_, ?_⟩; (focus (simp [toksC_length]; omega)); conv => whnf) | (refine ⟨⟨?_, ?_⟩, ?_⟩; (focus (simp; done)); (focus (first | (simp only [okB]; omega) | (simp [okB]; omega))); conv => whnf) | (refine And.intro ?_ ?_; (focus (first | (simp only [pureL, pureV, pureL_bys, Bool.and_true, Bool.and_self]; done) | (simp only [pureL, pureV, pureL_bys, pureL_toks, Bool.and_true, Bool.and_self]; done))); conv => whnf) | (refine ⟨⟨rfl, rfl, ?_, ?_⟩, ?_⟩; (focus (first | (simp; done) | (simp; omega))); (focus (first | (simp [limB]; done) | (simp [limB]; omega))); conv => whnf) | (refine ⟨⟨rfl, ?_, ?_, ?_⟩, ?_⟩; (focus (first | (simp; done) | (simp; omega))); (focus (first | exact Or.inl rfl | exact Or.inr (by omega))); (focus (first | (simp [limB]; done) | (simp [limB]; omega))); conv => whnf) | (refine And.intro ?_ ?_; (focus (first | (simp [limB]; done) | (simp [limB]; omega))); conv => whnf) | (refine ⟨ones_toks _, ?_⟩; conv => whnf) | (refine And.intro ?_ ?_; (focus (simp [pureL, pureV, pureL_bys, pureL_toks, pureL_app]; done)); conv => whnf) | (refine fit_i64 ⟨by first | (simp; done) | (simp; omega), by first | (simp; done) | (simp; omega)⟩ ?_; conv => whnf) | (refine ifB_neg (decide_eq_false (by first | (simp; done) | (simp; omega))) ?_; conv => whnf) | (refine ifB_pos (decide_eq_true (by first | (simp; done) | (simp; omega))) ?_; conv => whnf) | (refine Or.inl ⟨⟨rfl, ?_⟩, ?_⟩; (focus (first | (simp [toksC_length]; done) | (simp [toksC_length]; omega))); conv => whnf) | (refine ⟨⟨rfl, rfl, ?_, ?_⟩, ?_⟩; (focus (first | (simp [toksC_length]; done) | (simp [toksC_length]; omega))); (focus (first | (simp [limB]; done) | (simp [limB]; omega))); conv => whnf) | (refine ⟨⟨rfl, ?_, ?_, ?_⟩, ?_⟩; (focus (first | (simp [toksC_length]; done) | (simp [toksC_length]; omega))); (focus (first | exact Or.inl rfl | exact Or.inr (by omega))); (focus (first | (simp [limB]; done) | (simp [limB]; omega))); conv => whnf) | (refine And.intro ?_ ?_; (focus (first | (simp [toksC_length]; done) | (simp [toksC_length]; omega))); conv => whnf))
    refine ifB_dec (fun k1 => ?_) (fun k1 => ?_)
    · have c1 : c < l.length := by omega
      conv => whnf
      repeat (first | (refine ifB_t ?_; conv => whnf) | (refine ifB_f ?_; conv => whnf) | (refine ifB_neg (decide_eq_false (by first | omega | rfl | (dsimp only; omega))) ?_; conv => whnf) | (refine ifB_pos (decide_eq_true (by first | omega | rfl | (dsimp only; omega))) ?_; conv => whnf) | (refine fit_i64 ⟨by first | omega | rfl | (dsimp only; omega), by first | omega | rfl | (dsimp only; omega)⟩ ?_; conv => whnf) | (refine fit_u64 ⟨by first | omega | rfl | (dsimp only; omega), by first | omega | rfl | (dsimp only; omega)⟩ ?_; conv => whnf) | (refine fit_u8 ⟨by first | omega | rfl | (dsimp only; omega), by first | omega | rfl | (dsimp only; omega)⟩ ?_; conv => whnf) | (refine ⟨pureL_bys _, ?_⟩; conv => whnf) | (refine ⟨ones_bys _, ?_⟩; conv => whnf) | (refine ⟨pureL_cutB _ _ _ _, ?_⟩; conv => whnf) | (refine Or.inl ⟨⟨rfl, ?_⟩, ?_⟩; (focus (first | rfl | (simp; done) | (rw [toksC_length]; omega))); conv => whnf) | (refine ⟨rfl, ?_⟩; conv => whnf) | (refine ⟨_, rfl, ?_⟩; conv => whnf) | (refine ⟨⟨rfl, rfl⟩, ?_⟩; conv => whnf) | (refine ⟨⟨rfl, rfl, rfl, ?_, pureL_bys _⟩, ?_⟩; (focus (simp; done)); conv => whnf) | (refine ⟨⟨rfl, rfl, ?_, pureL_bys _⟩, ?_⟩; (focus (simp; done)); conv => whnf) | (refine ⟨⟨rfl, rfl, rfl, ?_, pureL_toks _⟩, ?_⟩; (focus (rw [toksC_length]; omega)); conv => whnf) | (refine ⟨⟨rfl, rfl, ?_, pureL_toks _⟩, ?_⟩; (focus (rw [toksC_length]; omega)); conv => whnf) | (refine ⟨⟨rfl, rfl, ?_⟩, ?_⟩; (focus (first | assumption | exact pureL_bys _ | exact pureL_toks _)); conv => whnf) | (refine ⟨⟨rfl, rfl, ?_⟩, ?_⟩; (focus (first | exact Nat.le_of_ble_eq_true rfl | (simp; done))); conv => whnf) | (refine And.intro (by first | omega | rfl | (dsimp only; omega)) ?_; conv => whnf) | (refine ⟨⟨rfl, ?_⟩, ?_⟩; (focus (first | (simp only [okB]; omega) | (simp [okB]; omega))); conv => whnf) | (refine ⟨⟨?_, ?_, ?_⟩, ?_⟩; (focus omega); (focus (first | omega | (simp; done) | (simp; omega))); (focus (first | (simp; done) | (simp; omega) | (rw [toksC_length]; simp; omega))); conv => whnf) | (refine ⟨roLoad_ok rfl ?_, ?_⟩; (focus (simp [toksC_length]; omega)); conv => whnf) | (refine ⟨⟨?_, ?_⟩, ?_⟩; (focus (simp; done)); (focus (first | (simp only [okB]; omega) | (simp [okB]; omega))); conv => whnf) | (refine And.intro ?_ ?_; (focus (first | (simp only [pureL, pureV, pureL_bys, Bool.and_true, Bool.and_self]; done) | (simp only [pureL, pureV, pureL_bys, pureL_toks, Bool.and_true, Bool.and_self]; done))); conv => whnf) | (refine ⟨⟨rfl, rfl, ?_, ?_⟩, ?_⟩; (focus (first | (simp; done) | (simp; omega))); (focus (first | (simp [limB]; done) | (simp [limB]; omega))); conv => whnf) | (refine ⟨⟨rfl, ?_, ?_, ?_⟩, ?_⟩; (focus (first | (simp; done) | (simp; omega))); (focus (first | exact Or.inl rfl | exact Or.inr (by omega))); (focus (first | (simp [limB]; done) | (simp [limB]; omega))); conv => whnf) | (refine And.intro ?_ ?_; (focus (first | (simp [limB]; done) | (simp [limB]; omega))); conv => whnf) | (refine ⟨ones_toks _, ?_⟩; conv => whnf) | (refine And.intro ?_ ?_; (focus (simp [pureL, pureV, pureL_bys, pureL_toks, pureL_app]; done)); conv => whnf) | (refine fit_i64 ⟨by first | (simp; done) | (simp; omega), by first | (simp; done) | (simp; omega)⟩ ?_; conv => whnf) | (refine ifB_neg (decide_eq_false (by first | (simp; done) | (simp; omega))) ?_; conv => whnf) | (refine ifB_pos (decide_eq_true (by first | (simp; done) | (simp; omega))) ?_; conv => whnf) | (refine Or.inl ⟨⟨rfl, ?_⟩, ?_⟩; (focus (first | (simp [toksC_length]; done) | (simp [toksC_length]; omega))); conv => whnf) | (refine ⟨⟨rfl, rfl, ?_, ?_⟩, ?_⟩; (focus (first | (simp [toksC_length]; done) | (simp [toksC_length]; omega))); (focus (first | (simp [limB]; done) | (simp [limB]; omega))); conv => whnf) | (refine ⟨⟨rfl, ?_, ?_, ?_⟩, ?_⟩; (focus (first | (simp [toksC_length]; done) | (simp [toksC_length]; omega))); (focus (first | exact Or.inl rfl | exact Or.inr (by omega))); (focus (first | (simp [limB]; done) | (simp [limB]; omega))); conv => whnf) | (refine And.intro ?_ ?_; (focus (first | (simp [toksC_length]; done) | (simp [toksC_length]; omega))); conv => whnf))
      refine ⟨_, tok_b c1 (by simp; omega), ?_⟩
      conv => whnf
      repeat (first | (refine ifB_t ?_; conv => whnf) | (refine ifB_f ?_; conv => whnf) | (refine ifB_neg (decide_eq_false (by first | omega | rfl | (dsimp only; omega))) ?_; conv => whnf) | (refine ifB_pos (decide_eq_true (by first | omega | rfl | (dsimp only; omega))) ?_; conv => whnf) | (refine fit_i64 ⟨by first | omega | rfl | (dsimp only; omega), by first | omega | rfl | (dsimp only; omega)⟩ ?_; conv => whnf) | (refine fit_u64 ⟨by first | omega | rfl | (dsimp only; omega), by first | omega | rfl | (dsimp only; omega)⟩ ?_; conv => whnf) | (refine fit_u8 ⟨by first | omega | rfl | (dsimp only; omega), by first | omega | rfl | (dsimp only; omega)⟩ ?_; conv => whnf) | (refine ⟨pureL_bys _, ?_⟩; conv => whnf) | (refine ⟨ones_bys _, ?_⟩; conv => whnf) | (refine ⟨pureL_cutB _ _ _ _, ?_⟩; conv => whnf) | (refine Or.inl ⟨⟨rfl, ?_⟩, ?_⟩; (focus (first | rfl | (simp; done) | (rw [toksC_length]; omega))); conv => whnf) | (refine ⟨rfl, ?_⟩; conv => whnf) | (refine ⟨_, rfl, ?_⟩; conv => whnf) | (refine ⟨⟨rfl, rfl⟩, ?_⟩; conv => whnf) | (refine ⟨⟨rfl, rfl, rfl, ?_, pureL_bys _⟩, ?_⟩; (focus (simp; done)); conv => whnf) | (refine ⟨⟨rfl, rfl, ?_, pureL_bys _⟩, ?_⟩; (focus (simp; done)); conv => whnf) | (refine ⟨⟨rfl, rfl, rfl, ?_, pureL_toks _⟩, ?_⟩; (focus (rw [toksC_length]; omega)); conv => whnf) | (refine ⟨⟨rfl, rfl, ?_, pureL_toks _⟩, ?_⟩; (focus (rw [toksC_length]; omega)); conv => whnf) | (refine ⟨⟨rfl, rfl, ?_⟩, ?_⟩; (focus (first | assumption | exact pureL_bys _ | exact pureL_toks _)); conv => whnf) | (refine ⟨⟨rfl, rfl, ?_⟩, ?_⟩; (focus (first | exact Nat.le_of_ble_eq_true rfl | (simp; done))); conv => whnf) | (refine And.intro (by first | omega | rfl | (dsimp only; omega)) ?_; conv => whnf) | (refine ⟨⟨rfl, ?_⟩, ?_⟩; (focus (first | (simp only [okB]; omega) | (simp [okB]; omega))); conv => whnf) | (refine ⟨⟨?_, ?_, ?_⟩, ?_⟩; (focus omega); (focus (first | omega | (simp; done) | (simp; omega))); (focus (first | (simp; done) | (simp; omega) | (rw [toksC_length]; simp; omega))); conv => whnf) | (refine ⟨roLoad_ok rfl ?_, ?_⟩; (focus (simp [toksC_length]; omega)); conv => whnf) | (refine ⟨⟨?_, ?_⟩, ?_⟩; (focus (simp; done)); (focus (first | (simp only [okB]; omega) | (simp [okB]; omega))); conv => whnf) | (refine And.intro ?_ ?_; (focus (first | (simp only [pureL, pureV, pureL_bys, Bool.and_true, Bool.and_self]; done) | (simp only [pureL, pureV, pureL_bys, pureL_toks, Bool.and_true, Bool.and_self]; done))); conv => whnf) | (refine ⟨⟨rfl, rfl, ?_, ?_⟩, ?_⟩; (focus (first | (simp; done) | (simp; omega))); (focus (first | (simp [limB]; done) | (simp [limB]; omega))); conv => whnf) | (refine ⟨⟨rfl, ?_, ?_, ?_⟩, ?_⟩; (focus (first | (simp; done) | (simp; omega))); (focus (first | exact Or.inl rfl | exact Or.inr (by omega))); (focus (first | (simp [limB]; done) | (simp [limB]; omega))); conv => whnf) | (refine And.intro ?_ ?_; (focus (first | (simp [limB]; done) | (simp [limB]; omega))); conv => whnf) | (refine ⟨ones_toks _, ?_⟩; conv => whnf) | (refine And.intro ?_ ?_; (focus (simp [pureL, pureV, pureL_bys, pureL_toks, pureL_app]; done)); conv => whnf) | (refine fit_i64 ⟨by first | (simp; done) | (simp; omega), by first | (simp; done) | (simp; omega)⟩ ?_; conv => whnf) | (refine ifB_neg (decide_eq_false (by first | (simp; done) | (simp; omega))) ?_; conv => whnf) | (refine ifB_pos (decide_eq_true (by first | (simp; done) | (simp; omega))) ?_; conv => whnf) | (refine Or.inl ⟨⟨rfl, ?_⟩, ?_⟩; (focus (first | (simp [toksC_length]; done) | (simp [toksC_length]; omega))); conv => whnf) | (refine ⟨⟨rfl, rfl, ?_, ?_⟩, ?_⟩; (focus (first | (simp [toksC_length]; done) | (simp [toksC_length]; omega))); (focus (first | (simp [limB]; done) | (simp [limB]; omega))); conv => whnf) | (refine ⟨⟨rfl, ?_, ?_, ?_⟩, ?_⟩; (focus (first | (simp [toksC_length]; done) | (simp [toksC_length]; omega))); (focus (first | exact Or.inl rfl | exact Or.inr (by omega))); (focus (first | (simp [limB]; done) | (simp [limB]; omega))); conv => whnf) | (refine And.intro ?_ ?_; (focus (first | (simp [toksC_length]; done) | (simp [toksC_length]; omega))); conv => whnf))
      refine ifB_dec (fun k2 => ?_) (fun k2 => ?_)
      · rw [show heavyR l = true by
          simp only [heavyR, Bool.or_eq_true, List.any_eq_true, decide_eq_true_eq]
          exact .inr ⟨l[c], List.getElem_mem c1, by omega⟩]
        conv => whnf
        repeat (first | (refine ifB_t ?_; conv => whnf) | (refine ifB_f ?_; conv => whnf) | (refine ifB_neg (decide_eq_false (by first | omega | rfl | (dsimp only; omega))) ?_; conv => whnf) | (refine ifB_pos (decide_eq_true (by first | omega | rfl | (dsimp only; omega))) ?_; conv => whnf) | (refine fit_i64 ⟨by first | omega | rfl | (dsimp only; omega), by first | omega | rfl | (dsimp only; omega)⟩ ?_; conv => whnf) | (refine fit_u64 ⟨by first | omega | rfl | (dsimp only; omega), by first | omega | rfl | (dsimp only; omega)⟩ ?_; conv => whnf) | (refine fit_u8 ⟨by first | omega | rfl | (dsimp only; omega), by first | omega | rfl | (dsimp only; omega)⟩ ?_; conv => whnf) | (refine ⟨pureL_bys _, ?_⟩; conv => whnf) | (refine ⟨ones_bys _, ?_⟩; conv => whnf) | (refine ⟨pureL_cutB _ _ _ _, ?_⟩; conv => whnf) | (refine Or.inl ⟨⟨rfl, ?_⟩, ?_⟩; (focus (first | rfl | (simp; done) | (rw [toksC_length]; omega))); conv => whnf) | (refine ⟨rfl, ?_⟩; conv => whnf) | (refine ⟨_, rfl, ?_⟩; conv => whnf) | (refine ⟨⟨rfl, rfl⟩, ?_⟩; conv => whnf) | (refine ⟨⟨rfl, rfl, rfl, ?_, pureL_bys _⟩, ?_⟩; (focus (simp; done)); conv => whnf) | (refine ⟨⟨rfl, rfl, ?_, pureL_bys _⟩, ?_⟩; (focus (simp; done)); conv => whnf) | (refine ⟨⟨rfl, rfl, rfl, ?_, pureL_toks _⟩, ?_⟩; (focus (rw [toksC_length]; omega)); conv => whnf) | (refine ⟨⟨rfl, rfl, ?_, pureL_toks _⟩, ?_⟩; (focus (rw [toksC_length]; omega)); conv => whnf) | (refine ⟨⟨rfl, rfl, ?_⟩, ?_⟩; (focus (first | assumption | exact pureL_bys _ | exact pureL_toks _)); conv => whnf) | (refine ⟨⟨rfl, rfl, ?_⟩, ?_⟩; (focus (first | exact Nat.le_of_ble_eq_true rfl | (simp; done))); conv => whnf) | (refine And.intro (by first | omega | rfl | (dsimp only; omega)) ?_; conv => whnf) | (refine ⟨⟨rfl, ?_⟩, ?_⟩; (focus (first | (simp only [okB]; omega) | (simp [okB]; omega))); conv => whnf) | (refine ⟨⟨?_, ?_, ?_⟩, ?_⟩; (focus omega); (focus (first | omega | (simp; done) | (simp; omega))); (focus (first | (simp; done) | (simp; omega) | (rw [toksC_length]; simp; omega))); conv => whnf) | (refine ⟨roLoad_ok rfl ?_, ?_⟩; (focus (simp [toksC_length]; omega)); conv => whnf) | (refine ⟨⟨?_, ?_⟩, ?_⟩; (focus (simp; done)); (focus (first | (simp only [okB]; omega) | (simp [okB]; omega))); conv => whnf) | (refine And.intro ?_ ?_; (focus (first | (simp only [pureL, pureV, pureL_bys, Bool.and_true, Bool.and_self]; done) | (simp only [pureL, pureV, pureL_bys, pureL_toks, Bool.and_true, Bool.and_self]; done))); conv => whnf) | (refine ⟨⟨rfl, rfl, ?_, ?_⟩, ?_⟩; (focus (first | (simp; done) | (simp; omega))); (focus (first | (simp [limB]; done) | (simp [limB]; omega))); conv => whnf) | (refine ⟨⟨rfl, ?_, ?_, ?_⟩, ?_⟩; (focus (first | (simp; done) | (simp; omega))); (focus (first | exact Or.inl rfl | exact Or.inr (by omega))); (focus (first | (simp [limB]; done) | (simp [limB]; omega))); conv => whnf) | (refine And.intro ?_ ?_; (focus (first | (simp [limB]; done) | (simp [limB]; omega))); conv => whnf) | (refine ⟨ones_toks _, ?_⟩; conv => whnf) | (refine And.intro ?_ ?_; (focus (simp [pureL, pureV, pureL_bys, pureL_toks, pureL_app]; done)); conv => whnf) | (refine fit_i64 ⟨by first | (simp; done) | (simp; omega), by first | (simp; done) | (simp; omega)⟩ ?_; conv => whnf) | (refine ifB_neg (decide_eq_false (by first | (simp; done) | (simp; omega))) ?_; conv => whnf) | (refine ifB_pos (decide_eq_true (by first | (simp; done) | (simp; omega))) ?_; conv => whnf) | (refine Or.inl ⟨⟨rfl, ?_⟩, ?_⟩; (focus (first | (simp [toksC_length]; done) | (simp [toksC_length]; omega))); conv => whnf) | (refine ⟨⟨rfl, rfl, ?_, ?_⟩, ?_⟩; (focus (first | (simp [toksC_length]; done) | (simp [toksC_length]; omega))); (focus (first | (simp [limB]; done) | (simp [limB]; omega))); conv => whnf) | (refine ⟨⟨rfl, ?_, ?_, ?_⟩, ?_⟩; (focus (first | (simp [toksC_length]; done) | (simp [toksC_length]; omega))); (focus (first | exact Or.inl rfl | exact Or.inr (by omega))); (focus (first | (simp [limB]; done) | (simp [limB]; omega))); conv => whnf) | (refine And.intro ?_ ?_; (focus (first | (simp [toksC_length]; done) | (simp [toksC_length]; omega))); conv => whnf))
        rfl
      conv => whnf
      repeat ((first | refine ifB_t ?_ | refine ifB_f ?_); conv => whnf)
      refine fit_i64 ⟨by omega, by omega⟩ ?_
      conv => whnf
      repeat ((first | refine ifB_t ?_ | refine ifB_f ?_); conv => whnf)
      refine ⟨c + 1, ⟨by omega, fun j h1 h2 => ?_⟩, by omega, weaker_of [] rfl rfl ⟨⟨rfl, rfl, pureL_toks _⟩, ⟨rfl, rfl⟩, trivial⟩ trivial⟩
      rcases Nat.lt_or_ge j c with h' | h'
      · exact heq j h1 h'
      · obtain rfl : j = c := by omega
        omega
    · rw [show heavyR l = false by
        simp only [heavyR, Bool.or_eq_false_iff, decide_eq_false_iff_not, List.any_eq_false, decide_eq_true_eq]
        refine ⟨by omega, fun t ht => ?_⟩
        obtain ⟨j, hj, rfl⟩ := List.mem_iff_getElem.1 ht
        exact heq j hj (by omega)]
      conv => whnf
      repeat (first | (refine ifB_t ?_; conv => whnf) | (refine ifB_f ?_; conv => whnf) | (refine ifB_neg (decide_eq_false (by first | omega | rfl | (dsimp only; omega))) ?_; conv => whnf) | (refine ifB_pos (decide_eq_true (by first | omega | rfl | (dsimp only; omega))) ?_; conv => whnf) | (refine fit_i64 ⟨by first | omega | rfl | (dsimp only; omega), by first | omega | rfl | (dsimp only; omega)⟩ ?_; conv => whnf) | (refine fit_u64 ⟨by first | omega | rfl | (dsimp only; omega), by first | omega | rfl | (dsimp only; omega)⟩ ?_; conv => whnf) | (refine fit_u8 ⟨by first | omega | rfl | (dsimp only; omega), by first | omega | rfl | (dsimp only; omega)⟩ ?_; conv => whnf) | (refine ⟨pureL_bys _, ?_⟩; conv => whnf) | (refine ⟨ones_bys _, ?_⟩; conv => whnf) | (refine ⟨pureL_cutB _ _ _ _, ?_⟩; conv => whnf) | (refine Or.inl ⟨⟨rfl, ?_⟩, ?_⟩; (focus (first | rfl | (simp; done) | (rw [toksC_length]; omega))); conv => whnf) | (refine ⟨rfl, ?_⟩; conv => whnf) | (refine ⟨_, rfl, ?_⟩; conv => whnf) | (refine ⟨⟨rfl, rfl⟩, ?_⟩; conv => whnf) | (refine ⟨⟨rfl, rfl, rfl, ?_, pureL_bys _⟩, ?_⟩; (focus (simp; done)); conv => whnf) | (refine ⟨⟨rfl, rfl, ?_, pureL_bys _⟩, ?_⟩; (focus (simp; done)); conv => whnf) | (refine ⟨⟨rfl, rfl, rfl, ?_, pureL_toks _⟩, ?_⟩; (focus (rw [toksC_length]; omega)); conv => whnf) | (refine ⟨⟨rfl, rfl, ?_, pureL_toks _⟩, ?_⟩; (focus (rw [toksC_length]; omega)); conv => whnf) | (refine ⟨⟨rfl, rfl, ?_⟩, ?_⟩; (focus (first | assumption | exact pureL_bys _ | exact pureL_toks _)); conv => whnf) | (refine ⟨⟨rfl, rfl, ?_⟩, ?_⟩; (focus (first | exact Nat.le_of_ble_eq_true rfl | (simp; done))); conv => whnf) | (refine And.intro (by first | omega | rfl | (dsimp only; omega)) ?_; conv => whnf) | (refine ⟨⟨rfl, ?_⟩, ?_⟩; (focus (first | (simp only [okB]; omega) | (simp [okB]; omega))); conv => whnf) | (refine ⟨⟨?_, ?_, ?_⟩, ?_⟩; (focus omega); (focus (first | omega | (simp; done) | (simp; omega))); (focus (first | (simp; done) | (simp; omega) | (rw [toksC_length]; simp; omega))); conv => whnf) | (refine ⟨roLoad_ok rfl ?_, ?_⟩; (focus (simp [toksC_length]; omega)); conv => whnf) | (refine ⟨⟨?_, ?_⟩, ?_⟩; (focus (simp; done)); (focus (first | (simp only [okB]; omega) | (simp [okB]; omega))); conv => whnf) | (refine And.intro ?_ ?_; (focus (first | (simp only [pureL, pureV, pureL_bys, Bool.and_true, Bool.and_self]; done) | (simp only [pureL, pureV, pureL_bys, pureL_toks, Bool.and_true, Bool.and_self]; done))); conv => whnf) | (refine ⟨⟨rfl, rfl, ?_, ?_⟩, ?_⟩; (focus (first | (simp; done) | (simp; omega))); (focus (first | (simp [limB]; done) | (simp [limB]; omega))); conv => whnf) | (refine ⟨⟨rfl, ?_, ?_, ?_⟩, ?_⟩; (focus (first | (simp; done) | (simp; omega))); (focus (first | exact Or.inl rfl | exact Or.inr (by omega))); (focus (first | (simp [limB]; done) | (simp [limB]; omega))); conv => whnf) | (refine And.intro ?_ ?_; (focus (first | (simp [limB]; done) | (simp [limB]; omega))); conv => whnf) | (refine ⟨ones_toks _, ?_⟩; conv => whnf) | (refine And.intro ?_ ?_; (focus (simp [pureL, pureV, pureL_bys, pureL_toks, pureL_app]; done)); conv => whnf) | (refine fit_i64 ⟨by first | (simp; done) | (simp; omega), by first | (simp; done) | (simp; omega)⟩ ?_; conv => whnf) | (refine ifB_neg (decide_eq_false (by first | (simp; done) | (simp; omega))) ?_; conv => whnf) | (refine ifB_pos (decide_eq_true (by first | (simp; done) | (simp; omega))) ?_; conv => whnf) | (refine Or.inl ⟨⟨rfl, ?_⟩, ?_⟩; (focus (first | (simp [toksC_length]; done) | (simp [toksC_length]; omega))); conv => whnf) | (refine ⟨⟨rfl, rfl, ?_, ?_⟩, ?_⟩; (focus (first | (simp [toksC_length]; done) | (simp [toksC_length]; omega))); (focus (first | (simp [limB]; done) | (simp [limB]; omega))); conv => whnf) | (refine ⟨⟨rfl, ?_, ?_, ?_⟩, ?_⟩; (focus (first | (simp [toksC_length]; done) | (simp [toksC_length]; omega))); (focus (first | exact Or.inl rfl | exact Or.inr (by omega))); (focus (first | (simp [limB]; done) | (simp [limB]; omega))); conv => whnf) | (refine And.intro ?_ ?_; (focus (first | (simp [toksC_length]; done) | (simp [toksC_length]; omega))); conv => whnf))
      rfl
  · exact weaker_of [] rfl rfl ⟨⟨rfl, rfl, pureL_toks _⟩, ⟨rfl, rfl⟩, trivial⟩ trivial
/-- Cells of bytes. -/
theorem bytes_of_ty {T : Types} {n : Nat} {e : TypeId} (hk : ∃ i, T e = some i ∧ i.d = .int .u8) : ∀ (es : List (List AV)), (∀ y ∈ es, TyL T n e y) → ∃ l : List Int, es.flatten = bys l ∧ l.length = es.length ∧ Byt l
  | [], _ => ⟨[], rfl, rfl, by simp [Byt]⟩
  | y :: es, h => by
    obtain ⟨l, h1, h2, h3⟩ := bytes_of_ty hk es (fun z hz => h z (by simp [hz]))
    have hy := h y (by simp)
    obtain ⟨i, hi, hd⟩ := hk
    cases n with
    | zero => exact hy.elim
    | succ n =>
      simp only [TyL, hi, hd] at hy
      obtain ⟨z, rfl, z1, z2⟩ := hy
      refine ⟨z :: l, by simp [h1, bys], by simp [h2], fun x hx => ?_⟩
      simp only [IntKind.lo, IntKind.hi] at z1 z2
      rcases List.mem_cons.1 hx with rfl | hx
      · exact ⟨z1, by omega⟩
      · exact h3 x hx
theorem tok_of_ty {n : Nat} {y : List AV} (h : TyL TT (n + 3) 26 y) : ∃ t : Tok, y = tokC t ∧ TokOk t ∧ t.b.length ≤ 9223372036854775807 := by
  obtain ⟨ys, rfl, a, r, rfl, ⟨k, rfl, k1, k2⟩, b, r', rfl, ⟨m, rfl, m1, m2⟩, c, r'', rfl, ⟨es, rfl, hl, he⟩, rfl⟩ := h
  obtain ⟨l, h1, h2, h3⟩ := bytes_of_ty ⟨_, show TT 5 = some _ from rfl, rfl⟩ es he
  simp only [IntKind.lo, IntKind.hi] at k1 k2 m1 m2
  refine ⟨⟨k, m, l⟩, by simp [tokC, h1, h2], ⟨⟨k1, by simp only; omega⟩, ⟨m1, by simp only; omega⟩, h3⟩, by simp only; omega⟩
theorem toks_of_cells {n : Nat} : ∀ (es : List (List AV)), (∀ y ∈ es, TyL TT (n + 3) 26 y) → ∃ l : List Tok, es.flatten = toksC l ∧ l.length = es.length ∧ ∀ t ∈ l, TokOk t ∧ t.b.length ≤ 9223372036854775807
  | [], _ => ⟨[], rfl, rfl, by simp⟩
  | y :: es, h => by
    obtain ⟨l, h1, h2, h3⟩ := toks_of_cells es fun z hz => h z (by simp [hz])
    obtain ⟨t, rfl, k1, k2⟩ := tok_of_ty (h y (by simp))
    refine ⟨t :: l, by simp [h1, toksC, tokC], by simp [h2], fun x hx => ?_⟩
    rcases List.mem_cons.1 hx with rfl | hx
    · exact ⟨k1, k2⟩
    · exact h3 x hx
theorem toks_of_ty {n : Nat} {xs : List AV} (h : TyL TT (n + 4) 23 xs) : ∃ l : List Tok, xs = [.ro l.length (toksC l)] ∧ (ToksOk l ∧ (∀ t ∈ l, t.b.length ≤ 9223372036854775807) ∧ l.length ≤ 9223372036854775807) := by
  obtain ⟨es, rfl, hl, he⟩ := h
  obtain ⟨l, h1, h2, h3⟩ := toks_of_cells es he
  exact ⟨l, by simp [h1, h2], fun t ht => (h3 t ht).1, fun t ht => (h3 t ht).2, by omega⟩
theorem bytes_of_slice {n : Nat} {xs : List AV} (h : TyL TT (n + 2) 24 xs) : ∃ l : List Int, xs = [.ro l.length (bys l)] ∧ (Byt l ∧ l.length ≤ 9223372036854775807) := by
  obtain ⟨es, rfl, hl, he⟩ := h
  obtain ⟨l, h1, h2, h3⟩ := bytes_of_ty ⟨_, show TT 5 = some _ from rfl, rfl⟩ es he
  exact ⟨l, by simp [h1, h2], h3, by omega⟩
theorem rep_one {E : Env} {x : AV} {v : Value} (h : RepL E [x] v.cells.toList) (hv : v.cells = #[v]) : RepV E x v := by
  rw [hv] at h
  simp only [RepL] at h
  obtain ⟨u, us, e, h1, _⟩ := h
  simp only [List.cons.injEq] at e
  rw [e.1]
  exact h1
theorem rep_agg {E : Env} {xs : List AV} {vs : Array Value} (h : RepL E xs (Value.agg vs).cells.toList) : RepV E (.agg xs) (.agg vs) := by
  simp only [RepV]
  exact ⟨vs, rfl, h⟩
end Go.Proofs.YtobjehjfdmelhabDoor.Abs
end
section
set_option linter.unusedVariables false
set_option linter.unusedSimpArgs false
namespace Go.Proofs.YtobjehjfdmelhabDoor.Abs
open Go
def rLoop (g : Nat → Option (Nat × List Int)) (mp : Bool) : Nat → Nat → Nat → List Int → List Int → Option (Nat × List Int)
  | 0, _, at', b, _ => some (at', b)
  | n + 1, i, at', b, last =>
    match g at' with
    | none => none
    | some (a, x) =>
      if 32768 < b.length + x.length then none
      else if mp = true ∧ i % 2 = 0 then
        if 0 < i ∧ (bytesLt x last || decide (x = last)) = true then none else rLoop g mp n (i + 1) a (b ++ x) x
      else rLoop g mp n (i + 1) a (b ++ x) last
def rBad (t : Tok) : Prop := ((t.k = 3 ∨ t.k = 4) ∧ t.n ≠ 0) ∨ (¬ (t.k = 3 ∨ t.k = 4) ∧ 0 < t.b.length) ∨ t.n < 0
instance (t : Tok) : Decidable (rBad t) := by unfold rBad; infer_instance
/-- An item from a token on: where the next one is, the bytes; f: how deep arrays may still be. -/
def rItem (u : List Int → Bool) (l : List Tok) : Nat → Nat → Option (Nat × List Int)
  | f, at' =>
    if h : l.length ≤ at' then none
    else
      let t := l[at']'(by omega)
      if rBad t then none
      else if t.k = 1 then some (at' + 1, putL 0 t.n)
      else if t.k = 2 then some (at' + 1, putL 1 t.n)
      else if t.k = 3 then some (at' + 1, putL 2 t.b.length ++ t.b)
      else if t.k = 4 then if u t.b = true then some (at' + 1, putL 3 t.b.length ++ t.b) else none
      else if t.k = 5 ∨ t.k = 6 then
        match f with
        | 0 => none
        | f + 1 =>
          if 64 < t.n then none
          else if t.k = 6 then rLoop (rItem u l f) true (2 * t.n.toNat) 0 (at' + 1) (putL 5 t.n) []
          else rLoop (rItem u l f) false t.n.toNat 0 (at' + 1) (putL 4 t.n) []
      else none
theorem lt_tri : ∀ (a b : List Int), (bytesLt a b || decide (a = b)) = !bytesLt b a
  | [], [] => by simp [bytesLt]
  | [], _ :: _ => by simp [bytesLt]
  | _ :: _, [] => by simp [bytesLt]
  | x :: a, y :: b => by
    have ih := lt_tri a b
    simp only [bytesLt]
    by_cases h1 : x < y
    · have h2 : ¬ y < x := by omega
      have h3 : ¬ y = x := by omega
      simp [h1, h2, h3]
    · by_cases h2 : y < x
      · have h3 : ¬ x = y := by omega
        simp [h1, h2, h3]
      · obtain rfl : x = y := by omega
        simpa using ih
theorem cmp_ge {a b : List Int} : decide (0 ≤ cmpI a b) = !bytesLt a b := by
  unfold cmpI
  cases bytesLt a b with
  | true => simp
  | false => by_cases h : a = b <;> simp [h]
/-- What a loop goes over. -/
theorem rLoop_grow {g : Nat → Option (Nat × List Int)} {mp : Bool} : ∀ (n i at' : Nat) (b last : List Int) (a : Nat) (bs : List Int), rLoop g mp n i at' b last = some (a, bs) → b <+: bs
  | 0, i, at', b, last, a, bs, h => by
    simp only [rLoop, Option.some.injEq, Prod.mk.injEq] at h
    rw [h.2]
    exact List.prefix_refl _
  | n + 1, i, at', b, last, a, bs, h => by
    unfold rLoop at h
    split at h
    · cases h
    rename_i a' x hg
    split at h
    · cases h
    split at h
    · split at h
      · cases h
      · exact (List.prefix_append _ _).trans (rLoop_grow n _ _ _ _ _ _ h)
    · exact (List.prefix_append _ _).trans (rLoop_grow n _ _ _ _ _ _ h)
/-- A step of the writer that does what a step of the reckoning does. -/
def Fits (W' : W → W) (g : Nat → Option (Nat × List Int)) : Prop :=
  ∀ (at' : Nat) (out : List Int) (a : Nat) (bs : List Int), g at' = some (a, bs) → out.length + bs.length ≤ 32768 → W' ⟨at', out, false⟩ = ⟨a, out ++ bs, false⟩
theorem arr_fits {w : W → W} {g : Nat → Option (Nat × List Int)} (H : Fits w g) : ∀ (n i at' : Nat) (out b last : List Int) (a : Nat) (bs : List Int), rLoop g false n i at' b last = some (a, bs) → out.length + bs.length ≤ 32768 →
    wArr w n ⟨at', out ++ b, false⟩ = ⟨a, out ++ bs, false⟩
  | 0, i, at', out, b, last, a, bs, h, hl => by
    simp only [rLoop, Option.some.injEq, Prod.mk.injEq] at h
    rw [h.1, h.2]
    rfl
  | n + 1, i, at', out, b, last, a, bs, h, hl => by
    unfold rLoop at h
    split at h
    · cases h
    rename_i a' x hg
    split at h
    · cases h
    rw [if_neg (by simp)] at h
    have hp := (rLoop_grow _ _ _ _ _ _ _ h).length_le
    simp only [List.length_append] at hp
    have e := H at' (out ++ b) a' x hg (by simp; omega)
    rw [wArr, if_neg (by simp), e, List.append_assoc]
    exact arr_fits H n _ _ out (b ++ x) last a bs h hl
theorem map_fits {w : W → W} {g : Nat → Option (Nat × List Int)} (H : Fits w g) : ∀ (n i at' : Nat) (out b last : List Int) (from' to' : Nat) (a : Nat) (bs : List Int), rLoop g true (2 * n) (2 * i) at' b last = some (a, bs) → out.length + bs.length ≤ 32768 →
    (0 < i → to' ≤ (out ++ b).length ∧ last = ((out ++ b).drop from').take (to' - from')) → wMap w n i from' to' ⟨at', out ++ b, false⟩ = ⟨a, out ++ bs, false⟩
  | 0, i, at', out, b, last, from', to', a, bs, h, hl, _ => by
    simp only [Nat.mul_zero, rLoop, Option.some.injEq, Prod.mk.injEq] at h
    rw [h.1, h.2]
    rfl
  | n + 1, i, at', out, b, last, from', to', a, bs, h, hl, hk => by
    rw [show 2 * (n + 1) = 2 * n + 1 + 1 by omega] at h
    unfold rLoop at h
    split at h
    · cases h
    rename_i a' x hg
    split at h
    · cases h
    rw [if_pos ⟨rfl, by omega⟩] at h
    split at h
    · cases h
    rename_i hlt
    unfold rLoop at h
    split at h
    · cases h
    rename_i a2 y hg2
    split at h
    · cases h
    rw [if_neg (by omega)] at h
    have hp := (rLoop_grow _ _ _ _ _ _ _ h).length_le
    simp only [List.length_append] at hp
    have e := H at' (out ++ b) a' x hg (by simp; omega)
    have e2 := H a' (out ++ b ++ x) a2 y hg2 (by simp; omega)
    have hcond : ¬ (((w ⟨at', out ++ b, false⟩).bad || (decide (0 < i) && decide (0 ≤ cmpI (((w ⟨at', out ++ b, false⟩).out.drop from').take (to' - from')) ((w ⟨at', out ++ b, false⟩).out.drop (out ++ b).length)))) = true) := by
      rw [e]
      simp only [Bool.false_or]
      by_cases hi : 0 < i
      · obtain ⟨k1, k2⟩ := hk hi
        have d1 : ((out ++ b ++ x).drop from').take (to' - from') = last := by
          rw [k2]
          by_cases hf : from' ≤ (out ++ b).length
          · rw [List.drop_append_of_le_length hf, List.take_append_of_le_length (by simp; simp at k1; omega)]
          · rw [show to' - from' = 0 by omega]; simp
        have d2 : (out ++ b ++ x).drop (out ++ b).length = x := by simp
        rw [d1, d2, cmp_ge]
        have : ¬ (bytesLt x last || decide (x = last)) = true := fun hh => hlt ⟨by omega, hh⟩
        rw [lt_tri] at this
        simpa [hi] using this
      · simp [hi]
    rw [wMap, if_neg (by simp), if_neg hcond, e, e2]
    have hout : out ++ b ++ x ++ y = out ++ (b ++ x ++ y) := by simp [List.append_assoc]
    simp only
    rw [hout]
    refine map_fits H n (i + 1) a2 out (b ++ x ++ y) x _ _ a bs (by rw [show 2 * (i + 1) = 2 * i + 1 + 1 by omega]; exact h) hl (fun _ => ⟨?_, ?_⟩)
    · simp
    · rw [show out ++ (b ++ x ++ y) = out ++ b ++ (x ++ y) by simp [List.append_assoc], List.drop_left, show (out ++ b ++ x).length - (out ++ b).length = x.length by simp; omega]
      simp
theorem wHead_yes {M n : Int} (hM : 0 ≤ M ∧ M < 8) (hn : 0 ≤ n) (at' : Nat) (out : List Int) : wHead M n ⟨at', out, false⟩ = ⟨at', out ++ putL M n, false⟩ := by
  simp only [wHead, putS]
  rw [if_neg (by omega)]
  simp
theorem item_fits1 (u : List Int → Bool) (l : List Tok) (f : Nat) (ih : ∀ f', f = f' + 1 → Fits (wItem u l f') (rItem u l f')) : Fits (wItem u l f) (rItem u l f) := by
    intro at' out a bs h hl
    unfold rItem at h
    split at h
    · cases h
    rename_i hat
    simp only at h
    split at h
    · cases h
    rename_i hbad
    have hat' : at' < l.length := by omega
    have hb : ∀ t : Tok, ¬ rBad t → (t.k = 3 ∨ t.k = 4 → t.n = 0) ∧ (¬ (t.k = 3 ∨ t.k = 4) → t.b = []) ∧ 0 ≤ t.n := by
      intro t ht
      simp only [rBad] at ht
      exact ⟨by omega, fun hk => List.length_eq_zero_iff.1 (by omega), by omega⟩
    obtain ⟨hb1, hb2, hb3⟩ := hb _ hbad
    unfold wItem
    rw [dif_neg (show ¬ (l.length ≤ (⟨at', out, false⟩ : W).at' ∨ 32768 < (⟨at', out, false⟩ : W).out.length) by simp only; omega)]
    simp only
    split at h
    · rename_i k1
      rw [if_pos k1]
      simp only [Option.some.injEq, Prod.mk.injEq] at h
      obtain ⟨rfl, rfl⟩ := h
      rw [wNumber, hb2 (by omega)]
      simp only [List.length_nil, Int.natCast_zero, Int.lt_irrefl, decide_false, Bool.or_false]
      exact wHead_yes (by omega) hb3 _ _
    rename_i k1; rw [if_neg k1]
    split at h
    · rename_i k2
      rw [if_pos k2]
      simp only [Option.some.injEq, Prod.mk.injEq] at h
      obtain ⟨rfl, rfl⟩ := h
      rw [wNumber, hb2 (by omega)]
      simp only [List.length_nil, Int.natCast_zero, Int.lt_irrefl, decide_false, Bool.or_false]
      exact wHead_yes (by omega) hb3 _ _
    rename_i k2; rw [if_neg k2]
    split at h
    · rename_i k3
      rw [if_pos (.inl k3)]
      simp only [Option.some.injEq, Prod.mk.injEq] at h
      obtain ⟨rfl, rfl⟩ := h
      simp only [List.length_append] at hl
      have n4 : ¬ l[at'].k = 4 := by omega
      rw [wBytes, if_neg (by simp [n4, hb1 (.inl k3)]; omega), if_neg n4]
      rw [wHead_yes (by omega) (by omega)]
      simp
    rename_i k3
    split at h
    · rename_i k4
      rw [if_pos (.inr k4)]
      split at h
      case isFalse => cases h
      rename_i hu
      simp only [Option.some.injEq, Prod.mk.injEq] at h
      obtain ⟨rfl, rfl⟩ := h
      simp only [List.length_append] at hl
      rw [wBytes, if_neg (by simp [k4, hu, hb1 (.inr k4)]; omega), if_pos k4]
      rw [wHead_yes (by omega) (by omega)]
      simp
    rename_i k4
    rw [if_neg (by omega)]
    split at h
    case isFalse => cases h
    rename_i k5
    rw [if_pos k5]
    cases f with
    | zero => cases h
    | succ f =>
      simp only at h ⊢
      split at h
      · cases h
      rename_i hn
      rw [if_neg (by simp [wManyBad, hb2 (by omega)]; omega)]
      have ih := ih f rfl
      split at h
      · rename_i k6
        rw [if_neg (by omega), wHead_yes (by omega) hb3]
        exact map_fits ih _ 0 _ out _ [] 0 0 a bs h hl (fun hh => absurd hh (by omega))
      · rename_i k6
        rw [if_pos (by omega), wHead_yes (by omega) hb3]
        exact arr_fits ih _ 0 _ out _ [] a bs h hl
theorem item_fits (u : List Int → Bool) (l : List Tok) : ∀ f : Nat, Fits (wItem u l f) (rItem u l f)
  | 0 => item_fits1 u l 0 (fun f' h => by omega)
  | f + 1 => item_fits1 u l (f + 1) (fun f' h => by obtain rfl : f = f' := by omega
                                                    exact item_fits u l f)
/-- And the other way round. -/
def Back (W' : W → W) (g : Nat → Option (Nat × List Int)) : Prop :=
  ∀ (w : W), (W' w).bad = false → (W' w).out.length ≤ 32768 → ∃ bs, (W' w).out = w.out ++ bs ∧ g w.at' = some ((W' w).at', bs)
theorem arr_back {w : W → W} {g : Nat → Option (Nat × List Int)} (hm : Mono w) (H : Back w g) : ∀ (n i : Nat) (v : W) (out b last : List Int), v.out = out ++ b → (wArr w n v).bad = false → (wArr w n v).out.length ≤ 32768 →
    ∃ bs, (wArr w n v).out = out ++ bs ∧ rLoop g false n i v.at' b last = some ((wArr w n v).at', bs)
  | 0, i, v, out, b, last, hv, h1, h2 => ⟨b, hv, rfl⟩
  | n + 1, i, v, out, b, last, hv, h1, h2 => by
    have hb := (wArr_mono w hm (n + 1) v h1).1
    rw [wArr, if_neg (by simp [hb])] at h1 h2 ⊢
    obtain ⟨k1, k2⟩ := wArr_mono w hm n _ h1
    have k3 := k2.length_le
    obtain ⟨x, hx, hg⟩ := H v k1 (by omega)
    obtain ⟨bs, e1, e2⟩ := arr_back hm H n (i + 1) (w v) out (b ++ x) last (by rw [hx, hv, List.append_assoc]) h1 h2
    refine ⟨bs, e1, ?_⟩
    rw [hx, hv] at k3
    simp only [List.length_append] at k3
    unfold rLoop
    rw [hg]
    simp only
    rw [if_neg (by omega), if_neg (by simp)]
    exact e2
theorem map_back {w : W → W} {g : Nat → Option (Nat × List Int)} (hm : Mono w) (H : Back w g) : ∀ (n i : Nat) (v : W) (out b last : List Int) (from' to' : Nat), v.out = out ++ b →
    (0 < i → to' ≤ (out ++ b).length ∧ last = ((out ++ b).drop from').take (to' - from')) → (wMap w n i from' to' v).bad = false → (wMap w n i from' to' v).out.length ≤ 32768 →
    ∃ bs, (wMap w n i from' to' v).out = out ++ bs ∧ rLoop g true (2 * n) (2 * i) v.at' b last = some ((wMap w n i from' to' v).at', bs)
  | 0, i, v, out, b, last, from', to', hv, hk, h1, h2 => ⟨b, hv, rfl⟩
  | n + 1, i, v, out, b, last, from', to', hv, hk, h1, h2 => by
    have hb := (wMap_mono w hm (n + 1) i from' to' v h1).1
    rw [wMap, if_neg (by simp [hb])] at h1 h2 ⊢
    split at h1
    · simp at h1
    rename_i hc
    rw [if_neg hc] at h2 ⊢
    obtain ⟨k1, k2⟩ := wMap_mono w hm n _ _ _ _ h1
    obtain ⟨k3, k4⟩ := hm _ k1
    have k5 := k2.length_le
    have k6 := k4.length_le
    obtain ⟨x, hx, hg⟩ := H v k3 (by omega)
    obtain ⟨y, hy, hg2⟩ := H (w v) k1 (by omega)
    have hvl : v.out.length = (out ++ b).length := by rw [hv]
    obtain ⟨bs, e1, e2⟩ := map_back hm H n (i + 1) (w (w v)) out (b ++ x ++ y) x v.out.length (w v).out.length (by rw [hy, hx, hv]; simp [List.append_assoc]) (fun _ => ⟨by rw [hx, hv]; simp, by
      rw [hx, hv, show out ++ (b ++ x ++ y) = out ++ b ++ (x ++ y) by simp [List.append_assoc], List.drop_left, show (out ++ b ++ x).length - (out ++ b).length = x.length by simp; omega]
      simp⟩) h1 h2
    refine ⟨bs, e1, ?_⟩
    have hlt : ¬ (0 < 2 * i ∧ (bytesLt x last || decide (x = last)) = true) := by
      rintro ⟨q1, q2⟩
      obtain ⟨p1, p2⟩ := hk (by omega)
      apply hc
      rw [k3, Bool.false_or, hx, hv]
      have d1 : ((out ++ b ++ x).drop from').take (to' - from') = last := by
        rw [p2]
        by_cases hf : from' ≤ (out ++ b).length
        · rw [List.drop_append_of_le_length hf, List.take_append_of_le_length (by simp; simp at p1; omega)]
        · rw [show to' - from' = 0 by omega]; simp
      have d2 : (out ++ b ++ x).drop (out ++ b).length = x := by simp
      rw [d1, d2, cmp_ge]
      rw [lt_tri] at q2
      simp only [Bool.not_eq_true'] at q2
      simp [q2]
      omega
    have k7 : (w (w v)).out.length ≤ 32768 := by omega
    rw [hy, hx, hv] at k7
    simp only [List.length_append] at k7
    rw [show 2 * (n + 1) = 2 * n + 1 + 1 by omega]
    unfold rLoop
    rw [hg]
    simp only
    rw [if_neg (by omega), if_pos ⟨trivial, by omega⟩, if_neg hlt]
    unfold rLoop
    rw [hg2]
    simp only
    rw [if_neg (by simp; omega), if_neg (by omega)]
    rw [show 2 * i + 1 + 1 = 2 * (i + 1) by omega]
    exact e2
theorem item_back1 (u : List Int → Bool) (l : List Tok) (f : Nat) (ih : ∀ f', f = f' + 1 → Back (wItem u l f') (rItem u l f')) : Back (wItem u l f) (rItem u l f) := by
    intro w h hl
    have hw := (wItem_mono u l f w h).1
    obtain ⟨at', out, bad⟩ := w
    simp only at hw
    subst hw
    unfold wItem at h hl ⊢
    split at h
    · simp at h
    rename_i hh
    rw [dif_neg hh] at hl ⊢
    simp only at hh h hl ⊢
    have hat : ¬ l.length ≤ at' := by omega
    unfold rItem
    rw [dif_neg hat]
    simp only
    have num : ∀ (M : Int) (t : Tok), 0 ≤ M ∧ M < 8 → ¬ (t.k = 3 ∨ t.k = 4) → (wNumber M t ⟨at' + 1, out, false⟩).bad = false → ¬ rBad t ∧ wNumber M t ⟨at' + 1, out, false⟩ = ⟨at' + 1, out ++ putL M t.n, false⟩ := by
      intro M t hM hk hn
      unfold wNumber at hn ⊢
      obtain ⟨q1, q2, q3⟩ := wHead_ok hn hM
      simp only [Bool.false_or, decide_eq_false_iff_not] at q3
      refine ⟨by simp only [rBad]; omega, by rw [q2]⟩
    split at h
    · rename_i k1
      rw [if_pos k1] at hl ⊢
      obtain ⟨q1, q2⟩ := num 0 _ (by omega) (by omega) h
      rw [q2, if_neg q1, if_pos k1]
      exact ⟨_, rfl, rfl⟩
    rename_i k1; rw [if_neg k1] at hl ⊢
    split at h
    · rename_i k2
      rw [if_pos k2] at hl ⊢
      obtain ⟨q1, q2⟩ := num 1 _ (by omega) (by omega) h
      rw [q2, if_neg q1, if_neg k1, if_pos k2]
      exact ⟨_, rfl, rfl⟩
    rename_i k2; rw [if_neg k2] at hl ⊢
    split at h
    · rename_i k3
      rw [if_pos k3] at hl ⊢
      obtain ⟨q1, q2, q3, q4⟩ := wBytes_ok h
      have nb : ¬ rBad l[at'] := by simp only [rBad]; omega
      rw [q4, if_neg nb, if_neg k1, if_neg k2]
      by_cases k4 : l[at'].k = 4
      · rw [if_neg (show ¬ l[at'].k = 3 by omega), if_pos k4, if_pos k4, if_pos (q3 k4)]
        exact ⟨_, by simp, rfl⟩
      · rw [if_pos (show l[at'].k = 3 by omega), if_neg k4]
        exact ⟨_, by simp, rfl⟩
    rename_i k3; rw [if_neg k3] at hl ⊢
    split at h
    case isFalse => simp at h
    rename_i k5
    rw [if_pos k5] at hl ⊢
    cases f with
    | zero => simp at h
    | succ f =>
      simp only at h hl ⊢
      split at h
      · simp at h
      rename_i hb
      rw [if_neg hb] at hl ⊢
      have ih := ih f rfl
      have hmo := wItem_mono u l f
      have hb' : l[at'].b.length = 0 ∧ 0 ≤ l[at'].n ∧ ¬ 64 < l[at'].n := by
        simp only [wManyBad, Bool.or_eq_true, decide_eq_true_eq, not_or] at hb
        omega
      have nb : ¬ rBad l[at'] := by simp only [rBad]; omega
      rw [if_neg nb, if_neg k1, if_neg k2, if_neg (show ¬ l[at'].k = 3 by omega), if_neg (show ¬ l[at'].k = 4 by omega), if_pos k5, if_neg hb'.2.2]
      split at h
      · rename_i k6
        rw [if_pos k6] at hl ⊢
        rw [if_neg (show ¬ l[at'].k = 6 by omega)]
        rw [wHead_yes (by omega) hb'.2.1] at h hl ⊢
        exact arr_back hmo ih _ 0 _ out _ [] rfl h hl
      · rename_i k6
        rw [if_neg k6] at hl ⊢
        rw [if_pos (show l[at'].k = 6 by omega)]
        rw [wHead_yes (by omega) hb'.2.1] at h hl ⊢
        exact map_back hmo ih _ 0 _ out _ [] 0 0 rfl (fun hh => absurd hh (by omega)) h hl
theorem item_back (u : List Int → Bool) (l : List Tok) : ∀ f : Nat, Back (wItem u l f) (rItem u l f)
  | 0 => item_back1 u l 0 (fun f' h => by omega)
  | f + 1 => item_back1 u l (f + 1) (fun f' h => by obtain rfl : f = f' := by omega
                                                    exact item_back u l f)
/-- What a row's bytes are, by the reckoning. -/
theorem encR_iff (u : List Int → Bool) (l : List Tok) (a : List Int) : encR u l = (a, 0) ↔ l.length ≤ 600 ∧ rItem u l 6 0 = some (l.length, a) ∧ a.length ≤ 32768 := by
  constructor
  · intro h
    obtain ⟨h1, h2, h3⟩ := encR_yes h
    obtain ⟨bs, e1, e2⟩ := item_back u l 6 ⟨0, [], false⟩ (by rw [h2]) (by rw [h2]; exact h3)
    rw [h2] at e1 e2
    simp only [List.nil_append] at e1
    subst e1
    exact ⟨h1, e2, h3⟩
  · rintro ⟨h1, h2, h3⟩
    have := item_fits u l 6 0 [] l.length a h2 (by simpa using h3)
    unfold encR
    rw [if_neg (by omega), this]
    simp
    omega
end Go.Proofs.YtobjehjfdmelhabDoor.Abs
end
section
set_option linter.unusedVariables false
set_option linter.unusedSimpArgs false
namespace Go.Proofs.YtobjehjfdmelhabDoor.Abs
open Go
def shf (p : Nat) (r : Nat × List Int) : Nat × List Int := (p + r.1, r.2)
theorem rLoop_shift {g g' : Nat → Option (Nat × List Int)} {mp : Bool} {p : Nat} (H : ∀ k, g' (p + k) = (g k).map (shf p)) : ∀ (n i at' : Nat) (b last : List Int), rLoop g' mp n i (p + at') b last = (rLoop g mp n i at' b last).map (shf p)
  | 0, i, at', b, last => rfl
  | n + 1, i, at', b, last => by
    unfold rLoop
    rw [H at']
    cases hg : g at' with
    | none => rfl
    | some r =>
      obtain ⟨a, x⟩ := r
      simp only [Option.map_some, shf]
      split
      · rfl
      split
      · split
        · rfl
        · exact rLoop_shift H n _ _ _ _
      · exact rLoop_shift H n _ _ _ _
theorem rLoop_imp {g g' : Nat → Option (Nat × List Int)} {mp : Bool} (H : ∀ k r, g k = some r → g' k = some r) : ∀ (n i at' : Nat) (b last : List Int) (r : Nat × List Int), rLoop g mp n i at' b last = some r → rLoop g' mp n i at' b last = some r
  | 0, i, at', b, last, r, h => h
  | n + 1, i, at', b, last, r, h => by
    unfold rLoop at h ⊢
    split at h
    · cases h
    rename_i a x hg
    rw [H _ _ hg]
    simp only
    split at h
    · cases h
    rename_i h1
    rw [if_neg h1]
    split at h
    · rename_i h2
      rw [if_pos h2]
      split at h
      · cases h
      · rename_i h3
        rw [if_neg h3]
        exact rLoop_imp H n _ _ _ _ _ h
    · rename_i h2
      rw [if_neg h2]
      exact rLoop_imp H n _ _ _ _ _ h
theorem rLoop_split {g : Nat → Option (Nat × List Int)} {mp : Bool} (m : Nat) : ∀ (n i at' : Nat) (b last : List Int) (r : Nat × List Int), rLoop g mp (n + m) i at' b last = some r →
    ∃ a' b' last', rLoop g mp n i at' b last = some (a', b') ∧ rLoop g mp m (i + n) a' b' last' = some r
  | 0, i, at', b, last, r, h => ⟨at', b, last, rfl, by rw [Nat.zero_add] at h; exact h⟩
  | n + 1, i, at', b, last, r, h => by
    rw [show n + 1 + m = n + m + 1 by omega] at h
    unfold rLoop at h
    split at h
    · cases h
    rename_i a x hg
    split at h
    · cases h
    rename_i h1
    rw [show i + (n + 1) = i + 1 + n by omega]
    split at h
    · rename_i h2
      split at h
      · cases h
      · rename_i h3
        obtain ⟨a', b', l', k1, k2⟩ := rLoop_split m n _ _ _ _ _ h
        refine ⟨a', b', l', ?_, k2⟩
        unfold rLoop
        rw [hg]
        simp only
        rw [if_neg h1, if_pos h2, if_neg h3]
        exact k1
    · rename_i h2
      obtain ⟨a', b', l', k1, k2⟩ := rLoop_split m n _ _ _ _ _ h
      refine ⟨a', b', l', ?_, k2⟩
      unfold rLoop
      rw [hg]
      simp only
      rw [if_neg h1, if_neg h2]
      exact k1
/-- On goes every step. -/
def Gos (g : Nat → Option (Nat × List Int)) (L : Nat) : Prop := ∀ k a x, g k = some (a, x) → k < a ∧ a ≤ L ∧ 0 < x.length
theorem rLoop_go {g : Nat → Option (Nat × List Int)} {mp : Bool} {L : Nat} (H : Gos g L) : ∀ (n i at' : Nat) (b last : List Int) (a : Nat) (bs : List Int), rLoop g mp n i at' b last = some (a, bs) → at' + n ≤ a ∧ (at' ≤ L → a ≤ L) ∧ b.length + n ≤ bs.length
  | 0, i, at', b, last, a, bs, h => by
    simp only [rLoop, Option.some.injEq, Prod.mk.injEq] at h
    rw [h.1, h.2]
    exact ⟨Nat.le_refl _, fun h => h, Nat.le_refl _⟩
  | n + 1, i, at', b, last, a, bs, h => by
    unfold rLoop at h
    split at h
    · cases h
    rename_i a1 x hg
    obtain ⟨q1, q2, q3⟩ := H _ _ _ hg
    have fin : ∀ lst, rLoop g mp n (i + 1) a1 (b ++ x) lst = some (a, bs) → at' + (n + 1) ≤ a ∧ (at' ≤ L → a ≤ L) ∧ b.length + (n + 1) ≤ bs.length := by
      intro lst hh
      obtain ⟨p1, p2, p3⟩ := rLoop_go H n _ _ _ _ _ _ hh
      simp only [List.length_append] at p3
      exact ⟨by omega, fun _ => p2 q2, by omega⟩
    split at h
    · cases h
    split at h
    · split at h
      · cases h
      · exact fin _ h
    · exact fin _ h
theorem putL_pos (M n : Int) : 0 < (putL M n).length := by simp [putL]
theorem rItem_go (u : List Int → Bool) (l : List Tok) : ∀ f : Nat, Gos (rItem u l f) l.length
  | 0 => fun k a x h => by
    unfold rItem at h
    split at h
    · cases h
    simp only at h
    have p0 := putL_pos
    split at h
    · cases h
    split at h
    · simp only [Option.some.injEq, Prod.mk.injEq] at h; obtain ⟨rfl, rfl⟩ := h; exact ⟨by omega, by omega, p0 _ _⟩
    split at h
    · simp only [Option.some.injEq, Prod.mk.injEq] at h; obtain ⟨rfl, rfl⟩ := h; exact ⟨by omega, by omega, p0 _ _⟩
    split at h
    · simp only [Option.some.injEq, Prod.mk.injEq] at h; obtain ⟨rfl, rfl⟩ := h; exact ⟨by omega, by omega, by simp only [List.length_append]; have := p0 2 (l[k].b.length : Int); omega⟩
    split at h
    · split at h
      · simp only [Option.some.injEq, Prod.mk.injEq] at h; obtain ⟨rfl, rfl⟩ := h; exact ⟨by omega, by omega, by simp only [List.length_append]; have := p0 3 (l[k].b.length : Int); omega⟩
      · cases h
    split at h
    · cases h
    · cases h
  | f + 1 => fun k a x h => by
    unfold rItem at h
    split at h
    · cases h
    simp only at h
    have p0 := putL_pos
    split at h
    · cases h
    split at h
    · simp only [Option.some.injEq, Prod.mk.injEq] at h; obtain ⟨rfl, rfl⟩ := h; exact ⟨by omega, by omega, p0 _ _⟩
    split at h
    · simp only [Option.some.injEq, Prod.mk.injEq] at h; obtain ⟨rfl, rfl⟩ := h; exact ⟨by omega, by omega, p0 _ _⟩
    split at h
    · simp only [Option.some.injEq, Prod.mk.injEq] at h; obtain ⟨rfl, rfl⟩ := h; exact ⟨by omega, by omega, by simp only [List.length_append]; have := p0 2 (l[k].b.length : Int); omega⟩
    split at h
    · split at h
      · simp only [Option.some.injEq, Prod.mk.injEq] at h; obtain ⟨rfl, rfl⟩ := h; exact ⟨by omega, by omega, by simp only [List.length_append]; have := p0 3 (l[k].b.length : Int); omega⟩
      · cases h
    split at h
    · split at h
      · cases h
      have ih := rItem_go u l f
      split at h
      · obtain ⟨q1, q2, q3⟩ := rLoop_go ih _ _ _ _ _ _ _ h
        exact ⟨by omega, q2 (by omega), by have := p0 5 l[k].n; omega⟩
      · obtain ⟨q1, q2, q3⟩ := rLoop_go ih _ _ _ _ _ _ _ h
        exact ⟨by omega, q2 (by omega), by have := p0 4 l[k].n; omega⟩
    · cases h
/-- What an item is, of its token and of what stands behind. -/
def rTok (u : List Int → Bool) (g : Nat → Option (Nat × List Int)) (z : Bool) (t : Tok) (k : Nat) : Option (Nat × List Int) :=
  if rBad t then none
  else if t.k = 1 then some (k, putL 0 t.n)
  else if t.k = 2 then some (k, putL 1 t.n)
  else if t.k = 3 then some (k, putL 2 t.b.length ++ t.b)
  else if t.k = 4 then if u t.b = true then some (k, putL 3 t.b.length ++ t.b) else none
  else if t.k = 5 ∨ t.k = 6 then
    if z = true then none
    else if 64 < t.n then none
    else if t.k = 6 then rLoop g true (2 * t.n.toNat) 0 k (putL 5 t.n) []
    else rLoop g false t.n.toNat 0 k (putL 4 t.n) []
  else none
theorem rItem_tok (u : List Int → Bool) (l : List Tok) (f k : Nat) (hk : k < l.length) : rItem u l f k = rTok u (match f with | 0 => fun _ => none | f + 1 => rItem u l f) (decide (f = 0)) l[k] (k + 1) := by
  cases f with
  | zero =>
    unfold rItem rTok
    rw [dif_neg (by omega)]
    simp
  | succ f =>
    unfold rItem rTok
    rw [dif_neg (by omega)]
    simp
theorem rItem_none (u : List Int → Bool) (l : List Tok) (f k : Nat) (hk : l.length ≤ k) : rItem u l f k = none := by
  unfold rItem
  rw [dif_pos hk]
theorem rTok_shift {u : List Int → Bool} {g g' : Nat → Option (Nat × List Int)} {z : Bool} {p : Nat} (H : ∀ k, g' (p + k) = (g k).map (shf p)) (t : Tok) (k : Nat) : rTok u g' z t (p + k) = (rTok u g z t k).map (shf p) := by
  unfold rTok
  split
  · rfl
  split
  · rfl
  split
  · rfl
  split
  · rfl
  split
  · split <;> rfl
  split
  · split
    · rfl
    split
    · rfl
    split
    · exact rLoop_shift H _ _ _ _ _
    · exact rLoop_shift H _ _ _ _ _
  · rfl
theorem rTok_imp {u : List Int → Bool} {g g' : Nat → Option (Nat × List Int)} {z z' : Bool} (hz : z' = true → z = true) (H : ∀ k r, g k = some r → g' k = some r) (t : Tok) (k : Nat) (r : Nat × List Int) (h : rTok u g z t k = some r) : rTok u g' z' t k = some r := by
  unfold rTok at h ⊢
  split at h
  · cases h
  rename_i h0; rw [if_neg h0]
  split at h
  · rename_i h1; rw [if_pos h1]; exact h
  rename_i h1; rw [if_neg h1]
  split at h
  · rename_i h2; rw [if_pos h2]; exact h
  rename_i h2; rw [if_neg h2]
  split at h
  · rename_i h3; rw [if_pos h3]; exact h
  rename_i h3; rw [if_neg h3]
  split at h
  · rename_i h4; rw [if_pos h4]; exact h
  rename_i h4; rw [if_neg h4]
  split at h
  · rename_i h5
    rw [if_pos h5]
    split at h
    · cases h
    rename_i h6
    rw [if_neg (fun e => h6 (hz e))]
    split at h
    · cases h
    rename_i h7
    rw [if_neg h7]
    split at h
    · rename_i h8; rw [if_pos h8]; exact rLoop_imp H _ _ _ _ _ _ h
    · rename_i h8; rw [if_neg h8]; exact rLoop_imp H _ _ _ _ _ _ h
  · cases h
theorem rItem_shift (u : List Int → Bool) (pre l : List Tok) : ∀ (f k : Nat), rItem u (pre ++ l) f (pre.length + k) = (rItem u l f k).map (shf pre.length)
  | f, k => by
    by_cases hk : k < l.length
    · rw [rItem_tok u (pre ++ l) f (pre.length + k) (by simp; omega), rItem_tok u l f k hk]
      have e : (pre ++ l)[pre.length + k]'(by simp; omega) = l[k] := by simp [List.getElem_append_right]
      rw [e, show pre.length + k + 1 = pre.length + (k + 1) by omega]
      cases f with
      | zero => exact rTok_shift (fun k => rfl) _ _
      | succ f => exact rTok_shift (fun k => rItem_shift u pre l f k) _ _
    · rw [rItem_none _ _ _ _ (by simp; omega), rItem_none _ _ _ _ (by omega)]
      rfl
theorem rItem_ext (u : List Int → Bool) (l q : List Tok) : ∀ (f k : Nat) (r : Nat × List Int), rItem u l f k = some r → rItem u (l ++ q) f k = some r
  | f, k, r, h => by
    by_cases hk : k < l.length
    · rw [rItem_tok u l f k hk] at h
      rw [rItem_tok u (l ++ q) f k (by simp; omega)]
      have e : (l ++ q)[k]'(by simp; omega) = l[k] := by simp [List.getElem_append_left, hk]
      rw [e]
      cases f with
      | zero => exact rTok_imp (fun h => h) (fun k r h => h) _ _ _ h
      | succ f => exact rTok_imp (fun h => h) (fun k r h => rItem_ext u l q f k r h) _ _ _ h
    · rw [rItem_none _ _ _ _ (by omega)] at h
      cases h
theorem rItem_deep (u : List Int → Bool) (l : List Tok) : ∀ (f k : Nat) (r : Nat × List Int), rItem u l f k = some r → rItem u l (f + 1) k = some r
  | f, k, r, h => by
    by_cases hk : k < l.length
    · rw [rItem_tok u l f k hk] at h
      rw [rItem_tok u l (f + 1) k hk]
      cases f with
      | zero => exact rTok_imp (fun h => by simp at h) (fun k r h => by cases h) _ _ _ h
      | succ f => exact rTok_imp (fun h => by simp at h) (fun k r h => rItem_deep u l f k r h) _ _ _ h
    · rw [rItem_none _ _ _ _ (by omega)] at h
      cases h
/-- An array of three: its head, and theirs. -/
theorem inside3 {u : List Int → Bool} {a b c : List Tok} {x y z s : List Int} (ha : encR u a = (x, 0)) (hb : encR u b = (y, 0)) (hc : encR u c = (z, 0)) (h : encR u ([⟨5, 3, []⟩] ++ a ++ b ++ c) = (s, 0)) : s = [131] ++ x ++ y ++ z := by
  rw [encR_iff] at ha hb hc h
  obtain ⟨_, ha, _⟩ := ha
  obtain ⟨_, hb, _⟩ := hb
  obtain ⟨_, hc, _⟩ := hc
  obtain ⟨_, h, _⟩ := h
  have place : ∀ (pre l post : List Tok) (w : List Int), rItem u l 6 0 = some (l.length, w) → ∀ r, rItem u (pre ++ l ++ post) 5 pre.length = some r → r = (pre.length + l.length, w) := by
    intro pre l post w hw r hr
    have h1 := rItem_ext u (pre ++ l) post 6 pre.length (pre.length + l.length, w) (by
      have := rItem_shift u pre l 6 0
      rw [hw] at this
      simpa [shf] using this)
    have h2 := rItem_deep _ _ _ _ _ hr
    rw [h1] at h2
    exact (Option.some.inj h2).symm
  rw [rItem_tok _ _ _ _ (by simp)] at h
  have e0 : ([⟨5, 3, []⟩] ++ a ++ b ++ c : List Tok)[0]'(by simp) = ⟨5, 3, []⟩ := by simp
  rw [e0] at h
  have ep : putL 4 3 = [131] := by decide
  unfold rTok at h
  rw [if_neg (by simp [rBad]), if_neg (by simp), if_neg (by simp), if_neg (by simp), if_neg (by simp), if_pos (by simp), if_neg (by simp), if_neg (by simp), if_neg (by simp)] at h
  simp only [ep, show (3 : Int).toNat = 3 from rfl] at h
  unfold rLoop at h
  split at h
  · cases h
  rename_i a1 x1 h1
  split at h
  · cases h
  rw [if_neg (by simp)] at h
  unfold rLoop at h
  split at h
  · cases h
  rename_i a2 x2 h2
  split at h
  · cases h
  rw [if_neg (by simp)] at h
  unfold rLoop at h
  split at h
  · cases h
  rename_i a3 x3 h3
  split at h
  · cases h
  rw [if_neg (by simp)] at h
  simp only [rLoop, Option.some.injEq, Prod.mk.injEq] at h
  have k1 := place [⟨5, 3, []⟩] a (b ++ c) x ha (a1, x1) (by simpa [List.append_assoc] using h1)
  simp only [Prod.mk.injEq, List.length_singleton] at k1
  obtain ⟨rfl, rfl⟩ := k1
  have k2 := place ([⟨5, 3, []⟩] ++ a) b c y hb (a2, x2) (by simpa [List.append_assoc, Nat.add_comm] using h2)
  simp only [Prod.mk.injEq, List.length_append, List.length_singleton] at k2
  obtain ⟨rfl, rfl⟩ := k2
  have k3 := place ([⟨5, 3, []⟩] ++ a ++ b) c [] z hc (a3, x3) (by
    rw [show ([⟨5, 3, []⟩] ++ a ++ b : List Tok).length = 1 + a.length + b.length by simp; omega]
    simpa using h3)
  simp only [Prod.mk.injEq] at k3
  rw [← h.2, k3.2]
end Go.Proofs.YtobjehjfdmelhabDoor.Abs
end
section
set_option linter.unusedVariables false
set_option linter.unusedSimpArgs false
namespace Go.Proofs.YtobjehjfdmelhabDoor.Abs
open Go
theorem rLoop_at {g : Nat → Option (Nat × List Int)} {mp : Bool} : ∀ (n i at' : Nat) (b b' last : List Int) (a a' : Nat) (bs bs' : List Int), rLoop g mp n i at' b last = some (a, bs) → rLoop g mp n i at' b' last = some (a', bs') → a = a'
  | 0, i, at', b, b', last, a, a', bs, bs', h, h' => by
    simp only [rLoop, Option.some.injEq, Prod.mk.injEq] at h h'
    omega
  | n + 1, i, at', b, b', last, a, a', bs, bs', h, h' => by
    unfold rLoop at h h'
    cases hg : g at' with
    | none => rw [hg] at h; cases h
    | some r =>
      obtain ⟨a1, x⟩ := r
      rw [hg] at h h'
      simp only at h h'
      split at h
      · cases h
      split at h'
      · cases h'
      split at h
      · rename_i h2
        rw [if_pos h2] at h'
        split at h
        · cases h
        rename_i h3
        rw [if_neg h3] at h'
        exact rLoop_at n _ _ _ _ _ _ _ _ _ h h'
      · rename_i h2
        rw [if_neg h2] at h'
        exact rLoop_at n _ _ _ _ _ _ _ _ _ h h'
/-- A loop of more rounds ends further on. -/
theorem rLoop_more {g : Nat → Option (Nat × List Int)} {mp : Bool} {L : Nat} (H : Gos g L) (n d : Nat) (hd : 0 < d) (b b' : List Int) (a a' : Nat) (bs bs' : List Int) (h : rLoop g mp n 0 0 b [] = some (a, bs)) (h' : rLoop g mp (n + d) 0 0 b' [] = some (a', bs')) : a < a' := by
  obtain ⟨a1, b1, l1, k1, k2⟩ := rLoop_split d n 0 0 b' [] _ h'
  obtain rfl := rLoop_at n 0 0 b b' [] a a1 bs b1 h k1
  have := (rLoop_go H _ _ _ _ _ _ _ k2).1
  omega
theorem rTok_many {u : List Int → Bool} {g : Nat → Option (Nat × List Int)} {t : Tok} {r : Nat × List Int} (hk : t.k = 5 ∨ t.k = 6) (h : rTok u g false t 0 = some r) :
    t.b = [] ∧ 0 ≤ t.n ∧ t.n ≤ 64 ∧ rLoop g (decide (t.k = 6)) (if t.k = 6 then 2 * t.n.toNat else t.n.toNat) 0 0 (putL (t.k - 1) t.n) [] = some r := by
  unfold rTok at h
  split at h
  · cases h
  rename_i h0
  simp only [rBad] at h0
  rw [if_neg (show ¬ t.k = 1 by omega), if_neg (show ¬ t.k = 2 by omega), if_neg (show ¬ t.k = 3 by omega), if_neg (show ¬ t.k = 4 by omega), if_neg (show ¬ (false = true) by simp)] at h
  split at h
  · cases h
  rename_i h1
  refine ⟨List.length_eq_zero_iff.1 (by omega), by omega, by omega, ?_⟩
  split at h
  · rename_i h6
    rw [h6]
    simpa using h
  · rename_i h6
    have h5 : t.k = 5 := by omega
    rw [h5]
    simpa using h
theorem rItem_cons {u : List Int → Bool} {t0 : Tok} {t : List Tok} {a : Nat} {b : List Int} (h : rItem u (t0 :: t) 6 0 = some (a + 1, b)) : rTok u (rItem u t 5) false t0 0 = some (a, b) := by
  rw [rItem_tok _ _ _ _ (by simp)] at h
  have e := rTok_shift (u := u) (g := rItem u t 5) (g' := rItem u (t0 :: t) 5) (z := false) (p := 1) (fun k => by
    have := rItem_shift u [t0] t 5 k
    simpa using this) t0 0
  simp only [List.getElem_cons_zero] at h
  rw [show (decide (6 = 0)) = false from rfl] at h
  rw [show (0 + 1 : Nat) = 1 + 0 from rfl, e] at h
  cases hr : rTok u (rItem u t 5) false t0 0 with
  | none => rw [hr] at h; cases h
  | some r =>
    rw [hr] at h
    simp only [Option.map_some, shf, Option.some.injEq, Prod.mk.injEq] at h
    obtain ⟨r1, r2⟩ := r
    simp only at h
    rw [h.2, show r1 = a by omega]
theorem short_enc {u : List Int → Bool} {t0 : Tok} {t : List Tok} {b : List Int} {n' : Int} (hk : t0.k = 5 ∨ t0.k = 6) (h : encR u (t0 :: t) = (b, 0)) (hn : n' ≠ t0.n) : encR u (⟨t0.k, n', t0.b⟩ :: t) = ([], 1) := by
  rcases encR_or u (⟨t0.k, n', t0.b⟩ :: t) with q | ⟨s, q⟩
  · exact q
  exfalso
  rw [encR_iff] at h q
  obtain ⟨_, h, _⟩ := h
  obtain ⟨_, q, _⟩ := q
  obtain ⟨h1, h2, h3, h4⟩ := rTok_many hk (rItem_cons (by simpa using h))
  obtain ⟨q1, q2, q3, q4⟩ := rTok_many (t := ⟨t0.k, n', t0.b⟩) hk (rItem_cons (by simpa using q))
  simp only at q2 q3 q4
  have H := rItem_go u t 5
  have key : ∀ (m m' : Nat) (b b' : List Int) (s s' : List Int) (mp : Bool), m ≠ m' → rLoop (rItem u t 5) mp m 0 0 b [] = some (t.length, s) → rLoop (rItem u t 5) mp m' 0 0 b' [] = some (t.length, s') → False := by
    intro m m' b b' s s' mp hm e e'
    rcases Nat.lt_or_ge m m' with hlt | hge
    · have := rLoop_more H m (m' - m) (by omega) b b' _ _ _ _ e (by rw [show m + (m' - m) = m' by omega]; exact e')
      omega
    · have := rLoop_more H m' (m - m') (by omega) b' b _ _ _ _ e' (by rw [show m' + (m - m') = m by omega]; exact e)
      omega
  refine key _ _ _ _ _ _ _ ?_ h4 q4
  split <;> omega
-- the parser
theorem pMany_bad {g : Pa → Pa} : ∀ (n : Nat) (p : Pa), p.bad = true → pMany g n p = p
  | 0, p, _ => rfl
  | n + 1, p, h => by rw [pMany, if_pos h]
theorem pMany_add {g : Pa → Pa} : ∀ (n d : Nat) (p : Pa), pMany g (n + d) p = pMany g d (pMany g n p)
  | 0, d, p => by rw [Nat.zero_add]; rfl
  | n + 1, d, p => by
    rw [show n + 1 + d = n + d + 1 by omega, pMany, pMany]
    split
    · rename_i h; rw [pMany_bad d p h]
    · exact pMany_add n d _
structure Sm (p q : Pa) : Prop where
  a : p.at' = q.at'
  b : p.bad = q.bad
  l : p.l.length = q.l.length
  o : 1 ≤ p.at'
theorem pMany_sim {g h : Pa → Pa} (H : ∀ p q, Sm p q → Sm (g p) (h q)) : ∀ (n : Nat) (p q : Pa), Sm p q → Sm (pMany g n p) (pMany h n q)
  | 0, p, q, s => s
  | n + 1, p, q, s => by
    rw [pMany, pMany, s.b]
    split
    · exact s
    · exact pMany_sim H n _ _ (H _ _ s)
theorem getR_tail {c0 c1 : Int} {T : List Int} {k : Nat} (hk : 1 ≤ k) : getR (c0 :: T) k = getR (c1 :: T) k := by
  obtain ⟨j, rfl⟩ : ∃ j, k = j + 1 := ⟨k - 1, by omega⟩
  unfold getR
  simp only [List.length_cons, Int.toNat_natCast, List.getElem_cons_succ, List.drop_succ_cons]
theorem pPart_sim {c0 c1 : Int} {T : List Int} {k n : Int} (hn : 0 ≤ n) {x : Nat} (hx : 1 ≤ x) {l m : List Tok} (hl : l.length = m.length) : Sm (pPart (c0 :: T) k n x l) (pPart (c1 :: T) k n x m) := by
  unfold pPart
  simp only [List.length_cons]
  split
  · exact ⟨rfl, rfl, by simp [hl], hx⟩
  · exact ⟨rfl, rfl, by simp [hl], by simp only; omega⟩
theorem pItem_sim {c0 c1 : Int} {T : List Int} (hb : Byt (c0 :: T)) (hc : Byt (c1 :: T)) : ∀ (f : Nat) (p q : Pa), Sm p q → Sm (pItem (c0 :: T) f p) (pItem (c1 :: T) f q)
  | 0, p, q, s => ⟨s.a, rfl, s.l, s.o⟩
  | f + 1, p, q, s => by
    have eg : getR (c0 :: T) p.at' = getR (c1 :: T) q.at' := by rw [← s.a]; exact getR_tail s.o
    have eb : pBad (c0 :: T) p ↔ pBad (c1 :: T) q := by unfold pBad; rw [eg, s.b, s.l]
    unfold pItem
    by_cases h : pBad (c1 :: T) q
    · rw [if_pos h, if_pos (eb.2 h)]
      exact ⟨s.a, rfl, s.l, s.o⟩
    · rw [if_neg h, if_neg (fun e => h (eb.1 e)), eg]
      simp only [pBad, not_or] at h
      obtain ⟨M, n, X, e, _, hn, hX, _⟩ := getR_right (c1 :: T) hc q.at' (by omega)
      have hX1 : 1 ≤ X := by
        rcases getR_says (c1 :: T) hc q.at' with ⟨z, _⟩ | ⟨z, _⟩ | ⟨k, m, hk, n', hkk, hkm, hn0, hn1, z, _⟩
        · rw [z] at e; simp at e
        · rw [z] at e; simp at e
        · rw [z] at e
          simp only [Prod.mk.injEq] at e
          omega
      rw [e]
      simp only [Int.toNat_natCast]
      have ih := pItem_sim hb hc f
      have hl := s.l
      unfold pGo
      split
      · exact ⟨rfl, rfl, by simp [hl], hX1⟩
      split
      · exact ⟨rfl, rfl, by simp [hl], hX1⟩
      split
      · exact pPart_sim hn.1 hX1 hl
      split
      · exact pPart_sim hn.1 hX1 hl
      split
      · exact pMany_sim ih _ _ _ ⟨rfl, rfl, by simp [hl], hX1⟩
      split
      · exact pMany_sim ih _ _ _ ⟨rfl, rfl, by simp [hl], hX1⟩
      · exact ⟨rfl, rfl, hl, hX1⟩
theorem getR_end (b : List Int) (k : Nat) (h : b.length ≤ k) : (getR b k).2.2.2 ≠ 0 := by
  unfold getR
  split
  · simp
  · rw [dif_neg (by simp; omega)]; simp
theorem pItem_in {b : List Int} {f : Nat} {p : Pa} (h : (pItem b f p).bad = false) : p.bad = false ∧ p.at' < b.length := by
  cases f with
  | zero => simp [pItem] at h
  | succ f =>
    unfold pItem at h
    split at h
    · simp at h
    · rename_i hh
      simp only [pBad, not_or] at hh
      refine ⟨by simpa using hh.1, ?_⟩
      rcases Nat.lt_or_ge p.at' b.length with h' | h'
      · exact h'
      · exact absurd (Classical.not_not.1 hh.2.1) (getR_end b _ h')
theorem pItem_end {b : List Int} {f : Nat} {p : Pa} (h : b.length ≤ p.at') : (pItem b f p).bad = true := by
  cases hh : (pItem b f p).bad
  · have := (pItem_in hh).2
    omega
  · rfl
theorem pMany_ne {b c : List Int} {g h : Pa → Pa} {L : Nat} (hs : ∀ p q, Sm p q → Sm (g p) (h q)) (hg : ∀ p, (g p).bad = false → p.at' < L) (hh : ∀ p, L ≤ p.at' → (h p).bad = true) {m m' : Nat} (hm : m ≠ m') {p q : Pa} (s : Sm p q)
    (h1 : (pMany g m p).bad = false) (h2 : (pMany g m p).at' = L) : (pMany h m' q).bad = true ∨ (pMany h m' q).at' ≠ L := by
  rcases Nat.lt_or_ge m m' with hlt | hge
  · left
    have sm := pMany_sim hs m p q s
    obtain ⟨d, hd⟩ : ∃ d, m' = m + (d + 1) := ⟨m' - m - 1, by omega⟩
    rw [hd, pMany_add, pMany, if_neg (by rw [← sm.b, h1]; simp)]
    have := hh (pMany h m q) (by rw [← sm.a]; omega)
    rw [pMany_bad _ _ this]
    exact this
  · obtain ⟨d, hd⟩ : ∃ d, m = m' + (d + 1) := ⟨m - m' - 1, by omega⟩
    have sm := pMany_sim hs m' p q s
    rw [hd, pMany_add, pMany] at h1
    by_cases hb : (pMany g m' p).bad = true
    · rw [if_pos hb] at h1
      rw [hb] at h1; cases h1
    · rw [if_neg hb] at h1
      have hb2 : (g (pMany g m' p)).bad = false := by
        cases hx : (g (pMany g m' p)).bad
        · rfl
        · rw [pMany_bad _ _ hx, hx] at h1; cases h1
      right
      have := hg _ hb2
      rw [← sm.a]
      omega
theorem decR_of_bad {u : List Int → Bool} {b : List Int} (h : (pItem b 7 ⟨0, [], false⟩).bad = true ∨ (pItem b 7 ⟨0, [], false⟩).at' ≠ b.length) : decR u b = ([], 3) := by
  unfold decR
  split
  · rfl
  · rw [if_pos]
    rcases h with h | h
    · simp [h]
    · simp [h]
theorem putL_small {M n : Int} (h0 : 0 ≤ n) (h : n < 24) : putL M n = [M * 32 + n] := by
  simp [putL, sizeR, h, beAcc]
theorem short_head {u : List Int → Bool} {t0 : Tok} {t : List Tok} {b : List Int} (hk : t0.k = 5 ∨ t0.k = 6) (h : encR u (t0 :: t) = (b, 0)) : ∃ T, b = putL (t0.k - 1) t0.n ++ T ∧ 0 ≤ t0.n ∧ t0.n ≤ 64 ∧ t0.b = [] := by
  rw [encR_iff] at h
  obtain ⟨_, h, _⟩ := h
  obtain ⟨h1, h2, h3, h4⟩ := rTok_many hk (rItem_cons (by simpa using h))
  obtain ⟨T, hT⟩ := rLoop_grow _ _ _ _ _ _ _ h4
  exact ⟨T, hT.symm, h2, h3, h1⟩
theorem short_low {M n : Int} {T : List Int} (hM : 0 ≤ M) (h0 : 0 ≤ n) (h1 : n ≤ 64) (h : ((putL M n ++ T).getD 0 0) % 32 ≤ 22) : n ≤ 22 ∧ putL M n ++ T = (M * 32 + n) :: T := by
  have hc : n < 24 := by
    rcases sizeR_cases n with ⟨e, h⟩ | e | e | e | e
    · exact h
    all_goals
      simp [putL, e] at h <;> omega
  rw [putL_small h0 hc] at h ⊢
  simp at h
  exact ⟨by omega, rfl⟩
theorem short_dec {u : List Int → Bool} {k N n' : Int} {t : List Tok} {T : List Int} (hto : ToksOk (⟨k, N, []⟩ :: t)) (hk : k = 5 ∨ k = 6) (h0 : 0 ≤ N) (h22 : N ≤ 22) (h : encR u (⟨k, N, []⟩ :: t) = (((k - 1) * 32 + N) :: T, 0))
    (hn : n' ≠ N) (hn0 : 0 ≤ n') (hn1 : n' ≤ 23) : decR u (((k - 1) * 32 + n') :: T) = ([], 3) := by
  have hb : Byt (((k - 1) * 32 + N) :: T) := by
    have := wItem_byt u (⟨k, N, []⟩ :: t) hto 6 ⟨0, [], false⟩ (by simp [Byt])
    rw [(encR_yes h).2.1] at this
    exact this
  have hc : Byt (((k - 1) * 32 + n') :: T) := by
    intro x hx
    rcases List.mem_cons.1 hx with rfl | hx
    · omega
    · exact hb x (by simp [hx])
  apply decR_of_bad
  have hp := pItem_enc hto h []
  rw [List.append_nil] at hp
  have go : ∀ (m : Int), 0 ≤ m → m ≤ 23 → pItem (((k - 1) * 32 + m) :: T) 7 ⟨0, [], false⟩ = pMany (pItem (((k - 1) * 32 + m) :: T) 6) (if k = 5 then m.toNat else (2 * min m 65).toNat) ⟨1, [⟨k, m, []⟩], false⟩ := by
    intro m m0 m1
    have e := pItem_at (s := (((k - 1) * 32 + m) :: T)) (w := ⟨0, [], false⟩) (M := k - 1) (n := m) (L := []) 6 (by omega) m0 (by omega) (by rw [putL_small m0 (by omega)]; exact ⟨T, rfl⟩) (by simp)
    simp only [List.length_nil, List.nil_append, putL_small m0 (show m < 24 by omega), List.length_singleton] at e
    rw [e]
    unfold pGo
    rw [if_neg (by omega), if_neg (by omega), if_neg (by omega), if_neg (by omega)]
    rcases hk with rfl | rfl
    · rw [if_pos (by omega), if_pos rfl]
      rfl
    · rw [if_neg (by omega), if_pos (by omega), if_neg (by omega)]
      rfl
  rw [go N h0 (by omega)] at hp
  rw [go n' hn0 hn1]
  have hL : ((((k - 1) * 32 + N) :: T).length) = ((((k - 1) * 32 + n') :: T).length) := by simp
  rw [← hL]
  refine pMany_ne (b := []) (c := []) (fun p q s => pItem_sim hb hc 6 p q s) (fun p hp => (pItem_in hp).2) (fun p hp => pItem_end (by rw [← hL]; exact hp)) (m := (if k = 5 then N.toNat else (2 * min N 65).toNat)) (p := ⟨1, [⟨k, N, []⟩], false⟩) ?_ ⟨rfl, rfl, rfl, Nat.le_refl 1⟩ ?_ ?_
  · split <;> omega
  · rw [hp]
  · rw [hp]
end Go.Proofs.YtobjehjfdmelhabDoor.Abs
end
section
set_option linter.unusedVariables false
set_option linter.unusedSimpArgs false
namespace Go.Proofs.YtobjehjfdmelhabDoor.Abs
open Go
attribute [local irreducible] ifB fitP Does Weaker
theorem frzL_app {i : Nat} {zs : List AV} : ∀ a b : List AV, frzL i zs (a ++ b) = frzL i zs a ++ frzL i zs b
  | [], b => rfl
  | x :: a, b => by simp [frzL, frzL_app a b]
theorem frzL_bys {i : Nat} {zs : List AV} : ∀ l : List Int, frzL i zs (bys l) = bys l
  | [] => rfl
  | x :: l => congrArg (AV.int .u8 x :: ·) (frzL_bys l)
theorem frzL_toks {i : Nat} {zs : List AV} : ∀ l : List Tok, frzL i zs (toksC l) = toksC l
  | [] => rfl
  | t :: l => by simp [toksC, frzL, frzV, frzL_toks l]
def PLtt : Nat → Bool × Plan := plans [(5, (false, (takesTo [0, 1, 2, 3, 4, 5, 6, 7, 8, 9, 10, 11, 12, 13, 14, 15] (.all [(16, (takesTo [17] (.all [(18, (.all [(19, (takes [20]))]))])))]))))]
theorem twinToks_ok (l : List Tok) (hl : l.length ≤ 1000000) (hb : ∀ t ∈ l, t.b.length ≤ 1099511627776) : ACall Tryd.prog 16 [.ro l.length (toksC l)] (.own l.length 3 (toksC l)) [] := by
  refine ACall.of_does TTok Tryd.func16 rfl Tryd.call16 rfl (wpc_sound (M := MC) (PL := PLtt) (CU := noCut) TTok mixed _ _ _ ?_)
  conv => whnf
  repeat (first | (refine ifB_t ?_; conv => whnf) | (refine ifB_f ?_; conv => whnf) | (refine ifB_neg (decide_eq_false (by first | omega | rfl | (dsimp only; omega))) ?_; conv => whnf) | (refine ifB_pos (decide_eq_true (by first | omega | rfl | (dsimp only; omega))) ?_; conv => whnf) | (refine fit_i64 ⟨by first | omega | rfl | (dsimp only; omega), by first | omega | rfl | (dsimp only; omega)⟩ ?_; conv => whnf) | (refine fit_u64 ⟨by first | omega | rfl | (dsimp only; omega), by first | omega | rfl | (dsimp only; omega)⟩ ?_; conv => whnf) | (refine fit_u8 ⟨by first | omega | rfl | (dsimp only; omega), by first | omega | rfl | (dsimp only; omega)⟩ ?_; conv => whnf) | (refine ⟨pureL_bys _, ?_⟩; conv => whnf) | (refine ⟨ones_bys _, ?_⟩; conv => whnf) | (refine ⟨pureL_cutB _ _ _ _, ?_⟩; conv => whnf) | (refine Or.inl ⟨⟨rfl, ?_⟩, ?_⟩; (focus (first | rfl | (simp; done) | (rw [toksC_length]; omega))); conv => whnf) | (refine ⟨rfl, ?_⟩; conv => whnf) | (refine ⟨_, rfl, ?_⟩; conv => whnf) | (refine ⟨⟨rfl, rfl⟩, ?_⟩; conv => whnf) | (refine ⟨⟨rfl, rfl, rfl, ?_, pureL_bys _⟩, ?_⟩; (focus (simp; done)); conv => whnf) | (refine ⟨⟨rfl, rfl, ?_, pureL_bys _⟩, ?_⟩; (focus (simp; done)); conv => whnf) | (refine ⟨⟨rfl, rfl, rfl, ?_, pureL_toks _⟩, ?_⟩; (focus (rw [toksC_length]; omega)); conv => whnf) | (refine ⟨⟨rfl, rfl, ?_, pureL_toks _⟩, ?_⟩; (focus (rw [toksC_length]; omega)); conv => whnf) | (refine ⟨⟨rfl, rfl, ?_⟩, ?_⟩; (focus (first | assumption | exact pureL_bys _ | exact pureL_toks _)); conv => whnf) | (refine ⟨⟨rfl, rfl, ?_⟩, ?_⟩; (focus (first | exact Nat.le_of_ble_eq_true rfl | (simp; done))); conv => whnf) | (refine And.intro (by first | omega | rfl | (dsimp only; omega)) ?_; conv => whnf) | (refine ⟨⟨rfl, ?_⟩, ?_⟩; (focus (first | (simp only [okB]; omega) | (simp [okB]; omega))); conv => whnf) | (refine ⟨⟨?_, ?_, ?_⟩, ?_⟩; (focus omega); (focus (first | omega | (simp; done) | (simp; omega))); (focus (first | (simp; done) | (simp; omega) | (rw [toksC_length]; simp; omega))); conv => whnf) | (refine ⟨roLoad_ok rfl ?_, ?_⟩; (focus (simp [toksC_length]; omega)); conv => whnf) | (refine ⟨⟨?_, ?_⟩, ?_⟩; (focus (simp; done)); (focus (first | (simp only [okB]; omega) | (simp [okB]; omega))); conv => whnf) | (refine And.intro ?_ ?_; (focus (first | (simp only [pureL, pureV, pureL_bys, Bool.and_true, Bool.and_self]; done) | (simp only [pureL, pureV, pureL_bys, pureL_toks, Bool.and_true, Bool.and_self]; done))); conv => whnf) | (refine ⟨⟨rfl, rfl, ?_, ?_⟩, ?_⟩; (focus (first | (simp; done) | (simp; omega))); (focus (first | (simp [limB]; done) | (simp [limB]; omega))); conv => whnf) | (refine ⟨⟨rfl, ?_, ?_, ?_⟩, ?_⟩; (focus (first | (simp; done) | (simp; omega))); (focus (first | exact Or.inl rfl | exact Or.inr (by omega))); (focus (first | (simp [limB]; done) | (simp [limB]; omega))); conv => whnf) | (refine And.intro ?_ ?_; (focus (first | (simp [limB]; done) | (simp [limB]; omega))); conv => whnf) | (refine ⟨ones_toks _, ?_⟩; conv => whnf) | (refine And.intro ?_ ?_; (focus (simp [pureL, pureV, pureL_bys, pureL_toks, pureL_app]; done)); conv => whnf) | (refine fit_i64 ⟨by first | (simp; done) | (simp; omega), by first | (simp; done) | (simp; omega)⟩ ?_; conv => whnf) | (refine ifB_neg (decide_eq_false (by first | (simp; done) | (simp; omega))) ?_; conv => whnf) | (refine ifB_pos (decide_eq_true (by first | (simp; done) | (simp; omega))) ?_; conv => whnf) | (refine Or.inl ⟨⟨rfl, ?_⟩, ?_⟩; (focus (first | (simp [toksC_length]; done) | (simp [toksC_length]; omega))); conv => whnf) | (refine ⟨⟨rfl, rfl, ?_, ?_⟩, ?_⟩; (focus (first | (simp [toksC_length]; done) | (simp [toksC_length]; omega))); (focus (first | (simp [limB]; done) | (simp [limB]; omega))); conv => whnf) | (refine ⟨⟨rfl, ?_, ?_, ?_⟩, ?_⟩; (focus (first | (simp [toksC_length]; done) | (simp [toksC_length]; omega))); (focus (first | exact Or.inl rfl | exact Or.inr (by omega))); (focus (first | (simp [limB]; done) | (simp [limB]; omega))); conv => whnf) | (refine And.intro ?_ ?_; (focus (first | (simp [toksC_length]; done) | (simp [toksC_length]; omega))); conv => whnf))
  refine Does.loop (fun c : Nat => mkSt [(0, .ro l.length (toksC l)), (3, .sl 1 0 c 3 false), (4, .int .i64 c)] [(1, toksC (l.take c))] 2 32) (fun c => c ≤ l.length) (fun c => l.length - c) ?_ 0 (Nat.zero_le _) ?_
  · intro c hc
    rcases Nat.lt_or_ge c l.length with c1 | c1
    · have ht := twin_ok l[c].b (by have := hb _ (List.getElem_mem c1); omega)
      have hlt : (toksC (l.take c)).length = c * 3 := by rw [toksC_length]; simp; omega
      refine wpc_sound (M := MC) (PL := PLtt) (CU := noCut) TTok mixed _ _ _ ?_
      conv => whnf
      repeat (first | (refine ifB_t ?_; conv => whnf) | (refine ifB_f ?_; conv => whnf) | (refine ifB_neg (decide_eq_false (by first | omega | rfl | (dsimp only; omega))) ?_; conv => whnf) | (refine ifB_pos (decide_eq_true (by first | omega | rfl | (dsimp only; omega))) ?_; conv => whnf) | (refine fit_i64 ⟨by first | omega | rfl | (dsimp only; omega), by first | omega | rfl | (dsimp only; omega)⟩ ?_; conv => whnf) | (refine fit_u64 ⟨by first | omega | rfl | (dsimp only; omega), by first | omega | rfl | (dsimp only; omega)⟩ ?_; conv => whnf) | (refine fit_u8 ⟨by first | omega | rfl | (dsimp only; omega), by first | omega | rfl | (dsimp only; omega)⟩ ?_; conv => whnf) | (refine ⟨pureL_bys _, ?_⟩; conv => whnf) | (refine ⟨ones_bys _, ?_⟩; conv => whnf) | (refine ⟨pureL_cutB _ _ _ _, ?_⟩; conv => whnf) | (refine Or.inl ⟨⟨rfl, ?_⟩, ?_⟩; (focus (first | rfl | (simp; done) | (rw [toksC_length]; omega))); conv => whnf) | (refine ⟨rfl, ?_⟩; conv => whnf) | (refine ⟨_, rfl, ?_⟩; conv => whnf) | (refine ⟨⟨rfl, rfl⟩, ?_⟩; conv => whnf) | (refine ⟨⟨rfl, rfl, rfl, ?_, pureL_bys _⟩, ?_⟩; (focus (simp; done)); conv => whnf) | (refine ⟨⟨rfl, rfl, ?_, pureL_bys _⟩, ?_⟩; (focus (simp; done)); conv => whnf) | (refine ⟨⟨rfl, rfl, rfl, ?_, pureL_toks _⟩, ?_⟩; (focus (rw [toksC_length]; omega)); conv => whnf) | (refine ⟨⟨rfl, rfl, ?_, pureL_toks _⟩, ?_⟩; (focus (rw [toksC_length]; omega)); conv => whnf) | (refine ⟨⟨rfl, rfl, ?_⟩, ?_⟩; (focus (first | assumption | exact pureL_bys _ | exact pureL_toks _)); conv => whnf) | (refine ⟨⟨rfl, rfl, ?_⟩, ?_⟩; (focus (first | exact Nat.le_of_ble_eq_true rfl | (simp; done))); conv => whnf) | (refine And.intro (by first | omega | rfl | (dsimp only; omega)) ?_; conv => whnf) | (refine ⟨⟨rfl, ?_⟩, ?_⟩; (focus (first | (simp only [okB]; omega) | (simp [okB]; omega))); conv => whnf) | (refine ⟨⟨?_, ?_, ?_⟩, ?_⟩; (focus omega); (focus (first | omega | (simp; done) | (simp; omega))); (focus (first | (simp; done) | (simp; omega) | (rw [toksC_length]; simp; omega))); conv => whnf) | (refine ⟨roLoad_ok rfl ?_, ?_⟩; (focus (simp [toksC_length]; omega)); conv => whnf) | (refine ⟨⟨?_, ?_⟩, ?_⟩; (focus (simp; done)); (focus (first | (simp only [okB]; omega) | (simp [okB]; omega))); conv => whnf) | (refine And.intro ?_ ?_; (focus (first | (simp only [pureL, pureV, pureL_bys, Bool.and_true, Bool.and_self]; done) | (simp only [pureL, pureV, pureL_bys, pureL_toks, Bool.and_true, Bool.and_self]; done))); conv => whnf) | (refine ⟨⟨rfl, rfl, ?_, ?_⟩, ?_⟩; (focus (first | (simp; done) | (simp; omega))); (focus (first | (simp [limB]; done) | (simp [limB]; omega))); conv => whnf) | (refine ⟨⟨rfl, ?_, ?_, ?_⟩, ?_⟩; (focus (first | (simp; done) | (simp; omega))); (focus (first | exact Or.inl rfl | exact Or.inr (by omega))); (focus (first | (simp [limB]; done) | (simp [limB]; omega))); conv => whnf) | (refine And.intro ?_ ?_; (focus (first | (simp [limB]; done) | (simp [limB]; omega))); conv => whnf) | (refine ⟨ones_toks _, ?_⟩; conv => whnf) | (refine And.intro ?_ ?_; (focus (simp [pureL, pureV, pureL_bys, pureL_toks, pureL_app]; done)); conv => whnf) | (refine fit_i64 ⟨by first | (simp; done) | (simp; omega), by first | (simp; done) | (simp; omega)⟩ ?_; conv => whnf) | (refine ifB_neg (decide_eq_false (by first | (simp; done) | (simp; omega))) ?_; conv => whnf) | (refine ifB_pos (decide_eq_true (by first | (simp; done) | (simp; omega))) ?_; conv => whnf) | (refine Or.inl ⟨⟨rfl, ?_⟩, ?_⟩; (focus (first | (simp [toksC_length]; done) | (simp [toksC_length]; omega))); conv => whnf) | (refine ⟨⟨rfl, rfl, ?_, ?_⟩, ?_⟩; (focus (first | (simp [toksC_length]; done) | (simp [toksC_length]; omega))); (focus (first | (simp [limB]; done) | (simp [limB]; omega))); conv => whnf) | (refine ⟨⟨rfl, ?_, ?_, ?_⟩, ?_⟩; (focus (first | (simp [toksC_length]; done) | (simp [toksC_length]; omega))); (focus (first | exact Or.inl rfl | exact Or.inr (by omega))); (focus (first | (simp [limB]; done) | (simp [limB]; omega))); conv => whnf) | (refine And.intro ?_ ?_; (focus (first | (simp [toksC_length]; done) | (simp [toksC_length]; omega))); conv => whnf))
      refine ⟨by kernel_rfl, ?_⟩
      conv => whnf
      repeat (first | (refine ifB_t ?_; conv => whnf) | (refine ifB_f ?_; conv => whnf) | (refine ifB_neg (decide_eq_false (by first | omega | rfl | (dsimp only; omega))) ?_; conv => whnf) | (refine ifB_pos (decide_eq_true (by first | omega | rfl | (dsimp only; omega))) ?_; conv => whnf) | (refine fit_i64 ⟨by first | omega | rfl | (dsimp only; omega), by first | omega | rfl | (dsimp only; omega)⟩ ?_; conv => whnf) | (refine fit_u64 ⟨by first | omega | rfl | (dsimp only; omega), by first | omega | rfl | (dsimp only; omega)⟩ ?_; conv => whnf) | (refine fit_u8 ⟨by first | omega | rfl | (dsimp only; omega), by first | omega | rfl | (dsimp only; omega)⟩ ?_; conv => whnf) | (refine ⟨pureL_bys _, ?_⟩; conv => whnf) | (refine ⟨ones_bys _, ?_⟩; conv => whnf) | (refine ⟨pureL_cutB _ _ _ _, ?_⟩; conv => whnf) | (refine Or.inl ⟨⟨rfl, ?_⟩, ?_⟩; (focus (first | rfl | (simp; done) | (rw [toksC_length]; omega))); conv => whnf) | (refine ⟨rfl, ?_⟩; conv => whnf) | (refine ⟨_, rfl, ?_⟩; conv => whnf) | (refine ⟨⟨rfl, rfl⟩, ?_⟩; conv => whnf) | (refine ⟨⟨rfl, rfl, rfl, ?_, pureL_bys _⟩, ?_⟩; (focus (simp; done)); conv => whnf) | (refine ⟨⟨rfl, rfl, ?_, pureL_bys _⟩, ?_⟩; (focus (simp; done)); conv => whnf) | (refine ⟨⟨rfl, rfl, rfl, ?_, pureL_toks _⟩, ?_⟩; (focus (rw [toksC_length]; omega)); conv => whnf) | (refine ⟨⟨rfl, rfl, ?_, pureL_toks _⟩, ?_⟩; (focus (rw [toksC_length]; omega)); conv => whnf) | (refine ⟨⟨rfl, rfl, ?_⟩, ?_⟩; (focus (first | assumption | exact pureL_bys _ | exact pureL_toks _)); conv => whnf) | (refine ⟨⟨rfl, rfl, ?_⟩, ?_⟩; (focus (first | exact Nat.le_of_ble_eq_true rfl | (simp; done))); conv => whnf) | (refine And.intro (by first | omega | rfl | (dsimp only; omega)) ?_; conv => whnf) | (refine ⟨⟨rfl, ?_⟩, ?_⟩; (focus (first | (simp only [okB]; omega) | (simp [okB]; omega))); conv => whnf) | (refine ⟨⟨?_, ?_, ?_⟩, ?_⟩; (focus omega); (focus (first | omega | (simp; done) | (simp; omega))); (focus (first | (simp; done) | (simp; omega) | (rw [toksC_length]; simp; omega))); conv => whnf) | (refine ⟨roLoad_ok rfl ?_, ?_⟩; (focus (simp [toksC_length]; omega)); conv => whnf) | (refine ⟨⟨?_, ?_⟩, ?_⟩; (focus (simp; done)); (focus (first | (simp only [okB]; omega) | (simp [okB]; omega))); conv => whnf) | (refine And.intro ?_ ?_; (focus (first | (simp only [pureL, pureV, pureL_bys, Bool.and_true, Bool.and_self]; done) | (simp only [pureL, pureV, pureL_bys, pureL_toks, Bool.and_true, Bool.and_self]; done))); conv => whnf) | (refine ⟨⟨rfl, rfl, ?_, ?_⟩, ?_⟩; (focus (first | (simp; done) | (simp; omega))); (focus (first | (simp [limB]; done) | (simp [limB]; omega))); conv => whnf) | (refine ⟨⟨rfl, ?_, ?_, ?_⟩, ?_⟩; (focus (first | (simp; done) | (simp; omega))); (focus (first | exact Or.inl rfl | exact Or.inr (by omega))); (focus (first | (simp [limB]; done) | (simp [limB]; omega))); conv => whnf) | (refine And.intro ?_ ?_; (focus (first | (simp [limB]; done) | (simp [limB]; omega))); conv => whnf) | (refine ⟨ones_toks _, ?_⟩; conv => whnf) | (refine And.intro ?_ ?_; (focus (simp [pureL, pureV, pureL_bys, pureL_toks, pureL_app]; done)); conv => whnf) | (refine fit_i64 ⟨by first | (simp; done) | (simp; omega), by first | (simp; done) | (simp; omega)⟩ ?_; conv => whnf) | (refine ifB_neg (decide_eq_false (by first | (simp; done) | (simp; omega))) ?_; conv => whnf) | (refine ifB_pos (decide_eq_true (by first | (simp; done) | (simp; omega))) ?_; conv => whnf) | (refine Or.inl ⟨⟨rfl, ?_⟩, ?_⟩; (focus (first | (simp [toksC_length]; done) | (simp [toksC_length]; omega))); conv => whnf) | (refine ⟨⟨rfl, rfl, ?_, ?_⟩, ?_⟩; (focus (first | (simp [toksC_length]; done) | (simp [toksC_length]; omega))); (focus (first | (simp [limB]; done) | (simp [limB]; omega))); conv => whnf) | (refine ⟨⟨rfl, ?_, ?_, ?_⟩, ?_⟩; (focus (first | (simp [toksC_length]; done) | (simp [toksC_length]; omega))); (focus (first | exact Or.inl rfl | exact Or.inr (by omega))); (focus (first | (simp [limB]; done) | (simp [limB]; omega))); conv => whnf) | (refine And.intro ?_ ?_; (focus (first | (simp [toksC_length]; done) | (simp [toksC_length]; omega))); conv => whnf))
      refine ⟨_, tok_k c1 (by simp; omega), ?_⟩
      conv => whnf
      repeat (first | (refine ifB_t ?_; conv => whnf) | (refine ifB_f ?_; conv => whnf) | (refine ifB_neg (decide_eq_false (by first | omega | rfl | (dsimp only; omega))) ?_; conv => whnf) | (refine ifB_pos (decide_eq_true (by first | omega | rfl | (dsimp only; omega))) ?_; conv => whnf) | (refine fit_i64 ⟨by first | omega | rfl | (dsimp only; omega), by first | omega | rfl | (dsimp only; omega)⟩ ?_; conv => whnf) | (refine fit_u64 ⟨by first | omega | rfl | (dsimp only; omega), by first | omega | rfl | (dsimp only; omega)⟩ ?_; conv => whnf) | (refine fit_u8 ⟨by first | omega | rfl | (dsimp only; omega), by first | omega | rfl | (dsimp only; omega)⟩ ?_; conv => whnf) | (refine ⟨pureL_bys _, ?_⟩; conv => whnf) | (refine ⟨ones_bys _, ?_⟩; conv => whnf) | (refine ⟨pureL_cutB _ _ _ _, ?_⟩; conv => whnf) | (refine Or.inl ⟨⟨rfl, ?_⟩, ?_⟩; (focus (first | rfl | (simp; done) | (rw [toksC_length]; omega))); conv => whnf) | (refine ⟨rfl, ?_⟩; conv => whnf) | (refine ⟨_, rfl, ?_⟩; conv => whnf) | (refine ⟨⟨rfl, rfl⟩, ?_⟩; conv => whnf) | (refine ⟨⟨rfl, rfl, rfl, ?_, pureL_bys _⟩, ?_⟩; (focus (simp; done)); conv => whnf) | (refine ⟨⟨rfl, rfl, ?_, pureL_bys _⟩, ?_⟩; (focus (simp; done)); conv => whnf) | (refine ⟨⟨rfl, rfl, rfl, ?_, pureL_toks _⟩, ?_⟩; (focus (rw [toksC_length]; omega)); conv => whnf) | (refine ⟨⟨rfl, rfl, ?_, pureL_toks _⟩, ?_⟩; (focus (rw [toksC_length]; omega)); conv => whnf) | (refine ⟨⟨rfl, rfl, ?_⟩, ?_⟩; (focus (first | assumption | exact pureL_bys _ | exact pureL_toks _)); conv => whnf) | (refine ⟨⟨rfl, rfl, ?_⟩, ?_⟩; (focus (first | exact Nat.le_of_ble_eq_true rfl | (simp; done))); conv => whnf) | (refine And.intro (by first | omega | rfl | (dsimp only; omega)) ?_; conv => whnf) | (refine ⟨⟨rfl, ?_⟩, ?_⟩; (focus (first | (simp only [okB]; omega) | (simp [okB]; omega))); conv => whnf) | (refine ⟨⟨?_, ?_, ?_⟩, ?_⟩; (focus omega); (focus (first | omega | (simp; done) | (simp; omega))); (focus (first | (simp; done) | (simp; omega) | (rw [toksC_length]; simp; omega))); conv => whnf) | (refine ⟨roLoad_ok rfl ?_, ?_⟩; (focus (simp [toksC_length]; omega)); conv => whnf) | (refine ⟨⟨?_, ?_⟩, ?_⟩; (focus (simp; done)); (focus (first | (simp only [okB]; omega) | (simp [okB]; omega))); conv => whnf) | (refine And.intro ?_ ?_; (focus (first | (simp only [pureL, pureV, pureL_bys, Bool.and_true, Bool.and_self]; done) | (simp only [pureL, pureV, pureL_bys, pureL_toks, Bool.and_true, Bool.and_self]; done))); conv => whnf) | (refine ⟨⟨rfl, rfl, ?_, ?_⟩, ?_⟩; (focus (first | (simp; done) | (simp; omega))); (focus (first | (simp [limB]; done) | (simp [limB]; omega))); conv => whnf) | (refine ⟨⟨rfl, ?_, ?_, ?_⟩, ?_⟩; (focus (first | (simp; done) | (simp; omega))); (focus (first | exact Or.inl rfl | exact Or.inr (by omega))); (focus (first | (simp [limB]; done) | (simp [limB]; omega))); conv => whnf) | (refine And.intro ?_ ?_; (focus (first | (simp [limB]; done) | (simp [limB]; omega))); conv => whnf) | (refine ⟨ones_toks _, ?_⟩; conv => whnf) | (refine And.intro ?_ ?_; (focus (simp [pureL, pureV, pureL_bys, pureL_toks, pureL_app]; done)); conv => whnf) | (refine fit_i64 ⟨by first | (simp; done) | (simp; omega), by first | (simp; done) | (simp; omega)⟩ ?_; conv => whnf) | (refine ifB_neg (decide_eq_false (by first | (simp; done) | (simp; omega))) ?_; conv => whnf) | (refine ifB_pos (decide_eq_true (by first | (simp; done) | (simp; omega))) ?_; conv => whnf) | (refine Or.inl ⟨⟨rfl, ?_⟩, ?_⟩; (focus (first | (simp [toksC_length]; done) | (simp [toksC_length]; omega))); conv => whnf) | (refine ⟨⟨rfl, rfl, ?_, ?_⟩, ?_⟩; (focus (first | (simp [toksC_length]; done) | (simp [toksC_length]; omega))); (focus (first | (simp [limB]; done) | (simp [limB]; omega))); conv => whnf) | (refine ⟨⟨rfl, ?_, ?_, ?_⟩, ?_⟩; (focus (first | (simp [toksC_length]; done) | (simp [toksC_length]; omega))); (focus (first | exact Or.inl rfl | exact Or.inr (by omega))); (focus (first | (simp [limB]; done) | (simp [limB]; omega))); conv => whnf) | (refine And.intro ?_ ?_; (focus (first | (simp [toksC_length]; done) | (simp [toksC_length]; omega))); conv => whnf))
      refine ⟨_, tok_n c1 (by simp; omega), ?_⟩
      conv => whnf
      repeat (first | (refine ifB_t ?_; conv => whnf) | (refine ifB_f ?_; conv => whnf) | (refine ifB_neg (decide_eq_false (by first | omega | rfl | (dsimp only; omega))) ?_; conv => whnf) | (refine ifB_pos (decide_eq_true (by first | omega | rfl | (dsimp only; omega))) ?_; conv => whnf) | (refine fit_i64 ⟨by first | omega | rfl | (dsimp only; omega), by first | omega | rfl | (dsimp only; omega)⟩ ?_; conv => whnf) | (refine fit_u64 ⟨by first | omega | rfl | (dsimp only; omega), by first | omega | rfl | (dsimp only; omega)⟩ ?_; conv => whnf) | (refine fit_u8 ⟨by first | omega | rfl | (dsimp only; omega), by first | omega | rfl | (dsimp only; omega)⟩ ?_; conv => whnf) | (refine ⟨pureL_bys _, ?_⟩; conv => whnf) | (refine ⟨ones_bys _, ?_⟩; conv => whnf) | (refine ⟨pureL_cutB _ _ _ _, ?_⟩; conv => whnf) | (refine Or.inl ⟨⟨rfl, ?_⟩, ?_⟩; (focus (first | rfl | (simp; done) | (rw [toksC_length]; omega))); conv => whnf) | (refine ⟨rfl, ?_⟩; conv => whnf) | (refine ⟨_, rfl, ?_⟩; conv => whnf) | (refine ⟨⟨rfl, rfl⟩, ?_⟩; conv => whnf) | (refine ⟨⟨rfl, rfl, rfl, ?_, pureL_bys _⟩, ?_⟩; (focus (simp; done)); conv => whnf) | (refine ⟨⟨rfl, rfl, ?_, pureL_bys _⟩, ?_⟩; (focus (simp; done)); conv => whnf) | (refine ⟨⟨rfl, rfl, rfl, ?_, pureL_toks _⟩, ?_⟩; (focus (rw [toksC_length]; omega)); conv => whnf) | (refine ⟨⟨rfl, rfl, ?_, pureL_toks _⟩, ?_⟩; (focus (rw [toksC_length]; omega)); conv => whnf) | (refine ⟨⟨rfl, rfl, ?_⟩, ?_⟩; (focus (first | assumption | exact pureL_bys _ | exact pureL_toks _)); conv => whnf) | (refine ⟨⟨rfl, rfl, ?_⟩, ?_⟩; (focus (first | exact Nat.le_of_ble_eq_true rfl | (simp; done))); conv => whnf) | (refine And.intro (by first | omega | rfl | (dsimp only; omega)) ?_; conv => whnf) | (refine ⟨⟨rfl, ?_⟩, ?_⟩; (focus (first | (simp only [okB]; omega) | (simp [okB]; omega))); conv => whnf) | (refine ⟨⟨?_, ?_, ?_⟩, ?_⟩; (focus omega); (focus (first | omega | (simp; done) | (simp; omega))); (focus (first | (simp; done) | (simp; omega) | (rw [toksC_length]; simp; omega))); conv => whnf) | (refine ⟨roLoad_ok rfl ?_, ?_⟩; (focus (simp [toksC_length]; omega)); conv => whnf) | (refine ⟨⟨?_, ?_⟩, ?_⟩; (focus (simp; done)); (focus (first | (simp only [okB]; omega) | (simp [okB]; omega))); conv => whnf) | (refine And.intro ?_ ?_; (focus (first | (simp only [pureL, pureV, pureL_bys, Bool.and_true, Bool.and_self]; done) | (simp only [pureL, pureV, pureL_bys, pureL_toks, Bool.and_true, Bool.and_self]; done))); conv => whnf) | (refine ⟨⟨rfl, rfl, ?_, ?_⟩, ?_⟩; (focus (first | (simp; done) | (simp; omega))); (focus (first | (simp [limB]; done) | (simp [limB]; omega))); conv => whnf) | (refine ⟨⟨rfl, ?_, ?_, ?_⟩, ?_⟩; (focus (first | (simp; done) | (simp; omega))); (focus (first | exact Or.inl rfl | exact Or.inr (by omega))); (focus (first | (simp [limB]; done) | (simp [limB]; omega))); conv => whnf) | (refine And.intro ?_ ?_; (focus (first | (simp [limB]; done) | (simp [limB]; omega))); conv => whnf) | (refine ⟨ones_toks _, ?_⟩; conv => whnf) | (refine And.intro ?_ ?_; (focus (simp [pureL, pureV, pureL_bys, pureL_toks, pureL_app]; done)); conv => whnf) | (refine fit_i64 ⟨by first | (simp; done) | (simp; omega), by first | (simp; done) | (simp; omega)⟩ ?_; conv => whnf) | (refine ifB_neg (decide_eq_false (by first | (simp; done) | (simp; omega))) ?_; conv => whnf) | (refine ifB_pos (decide_eq_true (by first | (simp; done) | (simp; omega))) ?_; conv => whnf) | (refine Or.inl ⟨⟨rfl, ?_⟩, ?_⟩; (focus (first | (simp [toksC_length]; done) | (simp [toksC_length]; omega))); conv => whnf) | (refine ⟨⟨rfl, rfl, ?_, ?_⟩, ?_⟩; (focus (first | (simp [toksC_length]; done) | (simp [toksC_length]; omega))); (focus (first | (simp [limB]; done) | (simp [limB]; omega))); conv => whnf) | (refine ⟨⟨rfl, ?_, ?_, ?_⟩, ?_⟩; (focus (first | (simp [toksC_length]; done) | (simp [toksC_length]; omega))); (focus (first | exact Or.inl rfl | exact Or.inr (by omega))); (focus (first | (simp [limB]; done) | (simp [limB]; omega))); conv => whnf) | (refine And.intro ?_ ?_; (focus (first | (simp [toksC_length]; done) | (simp [toksC_length]; omega))); conv => whnf))
      refine ⟨_, tok_b c1 (by simp; omega), ?_⟩
      conv => whnf
      repeat (first | (refine ifB_t ?_; conv => whnf) | (refine ifB_f ?_; conv => whnf) | (refine ifB_neg (decide_eq_false (by first | omega | rfl | (dsimp only; omega))) ?_; conv => whnf) | (refine ifB_pos (decide_eq_true (by first | omega | rfl | (dsimp only; omega))) ?_; conv => whnf) | (refine fit_i64 ⟨by first | omega | rfl | (dsimp only; omega), by first | omega | rfl | (dsimp only; omega)⟩ ?_; conv => whnf) | (refine fit_u64 ⟨by first | omega | rfl | (dsimp only; omega), by first | omega | rfl | (dsimp only; omega)⟩ ?_; conv => whnf) | (refine fit_u8 ⟨by first | omega | rfl | (dsimp only; omega), by first | omega | rfl | (dsimp only; omega)⟩ ?_; conv => whnf) | (refine ⟨pureL_bys _, ?_⟩; conv => whnf) | (refine ⟨ones_bys _, ?_⟩; conv => whnf) | (refine ⟨pureL_cutB _ _ _ _, ?_⟩; conv => whnf) | (refine Or.inl ⟨⟨rfl, ?_⟩, ?_⟩; (focus (first | rfl | (simp; done) | (rw [toksC_length]; omega))); conv => whnf) | (refine ⟨rfl, ?_⟩; conv => whnf) | (refine ⟨_, rfl, ?_⟩; conv => whnf) | (refine ⟨⟨rfl, rfl⟩, ?_⟩; conv => whnf) | (refine ⟨⟨rfl, rfl, rfl, ?_, pureL_bys _⟩, ?_⟩; (focus (simp; done)); conv => whnf) | (refine ⟨⟨rfl, rfl, ?_, pureL_bys _⟩, ?_⟩; (focus (simp; done)); conv => whnf) | (refine ⟨⟨rfl, rfl, rfl, ?_, pureL_toks _⟩, ?_⟩; (focus (rw [toksC_length]; omega)); conv => whnf) | (refine ⟨⟨rfl, rfl, ?_, pureL_toks _⟩, ?_⟩; (focus (rw [toksC_length]; omega)); conv => whnf) | (refine ⟨⟨rfl, rfl, ?_⟩, ?_⟩; (focus (first | assumption | exact pureL_bys _ | exact pureL_toks _)); conv => whnf) | (refine ⟨⟨rfl, rfl, ?_⟩, ?_⟩; (focus (first | exact Nat.le_of_ble_eq_true rfl | (simp; done))); conv => whnf) | (refine And.intro (by first | omega | rfl | (dsimp only; omega)) ?_; conv => whnf) | (refine ⟨⟨rfl, ?_⟩, ?_⟩; (focus (first | (simp only [okB]; omega) | (simp [okB]; omega))); conv => whnf) | (refine ⟨⟨?_, ?_, ?_⟩, ?_⟩; (focus omega); (focus (first | omega | (simp; done) | (simp; omega))); (focus (first | (simp; done) | (simp; omega) | (rw [toksC_length]; simp; omega))); conv => whnf) | (refine ⟨roLoad_ok rfl ?_, ?_⟩; (focus (simp [toksC_length]; omega)); conv => whnf) | (refine ⟨⟨?_, ?_⟩, ?_⟩; (focus (simp; done)); (focus (first | (simp only [okB]; omega) | (simp [okB]; omega))); conv => whnf) | (refine And.intro ?_ ?_; (focus (first | (simp only [pureL, pureV, pureL_bys, Bool.and_true, Bool.and_self]; done) | (simp only [pureL, pureV, pureL_bys, pureL_toks, Bool.and_true, Bool.and_self]; done))); conv => whnf) | (refine ⟨⟨rfl, rfl, ?_, ?_⟩, ?_⟩; (focus (first | (simp; done) | (simp; omega))); (focus (first | (simp [limB]; done) | (simp [limB]; omega))); conv => whnf) | (refine ⟨⟨rfl, ?_, ?_, ?_⟩, ?_⟩; (focus (first | (simp; done) | (simp; omega))); (focus (first | exact Or.inl rfl | exact Or.inr (by omega))); (focus (first | (simp [limB]; done) | (simp [limB]; omega))); conv => whnf) | (refine And.intro ?_ ?_; (focus (first | (simp [limB]; done) | (simp [limB]; omega))); conv => whnf) | (refine ⟨ones_toks _, ?_⟩; conv => whnf) | (refine And.intro ?_ ?_; (focus (simp [pureL, pureV, pureL_bys, pureL_toks, pureL_app]; done)); conv => whnf) | (refine fit_i64 ⟨by first | (simp; done) | (simp; omega), by first | (simp; done) | (simp; omega)⟩ ?_; conv => whnf) | (refine ifB_neg (decide_eq_false (by first | (simp; done) | (simp; omega))) ?_; conv => whnf) | (refine ifB_pos (decide_eq_true (by first | (simp; done) | (simp; omega))) ?_; conv => whnf) | (refine Or.inl ⟨⟨rfl, ?_⟩, ?_⟩; (focus (first | (simp [toksC_length]; done) | (simp [toksC_length]; omega))); conv => whnf) | (refine ⟨⟨rfl, rfl, ?_, ?_⟩, ?_⟩; (focus (first | (simp [toksC_length]; done) | (simp [toksC_length]; omega))); (focus (first | (simp [limB]; done) | (simp [limB]; omega))); conv => whnf) | (refine ⟨⟨rfl, ?_, ?_, ?_⟩, ?_⟩; (focus (first | (simp [toksC_length]; done) | (simp [toksC_length]; omega))); (focus (first | exact Or.inl rfl | exact Or.inr (by omega))); (focus (first | (simp [limB]; done) | (simp [limB]; omega))); conv => whnf) | (refine And.intro ?_ ?_; (focus (first | (simp [toksC_length]; done) | (simp [toksC_length]; omega))); conv => whnf))
      refine ⟨_, _, ht, by first | rfl | simp [noRoIf, noRoL, noRoV, noRoL_bys], ?_⟩
      conv => whnf
      repeat (first | (refine ifB_t ?_; conv => whnf) | (refine ifB_f ?_; conv => whnf) | (refine ifB_neg (decide_eq_false (by first | omega | rfl | (dsimp only; omega))) ?_; conv => whnf) | (refine ifB_pos (decide_eq_true (by first | omega | rfl | (dsimp only; omega))) ?_; conv => whnf) | (refine fit_i64 ⟨by first | omega | rfl | (dsimp only; omega), by first | omega | rfl | (dsimp only; omega)⟩ ?_; conv => whnf) | (refine fit_u64 ⟨by first | omega | rfl | (dsimp only; omega), by first | omega | rfl | (dsimp only; omega)⟩ ?_; conv => whnf) | (refine fit_u8 ⟨by first | omega | rfl | (dsimp only; omega), by first | omega | rfl | (dsimp only; omega)⟩ ?_; conv => whnf) | (refine ⟨pureL_bys _, ?_⟩; conv => whnf) | (refine ⟨ones_bys _, ?_⟩; conv => whnf) | (refine ⟨pureL_cutB _ _ _ _, ?_⟩; conv => whnf) | (refine Or.inl ⟨⟨rfl, ?_⟩, ?_⟩; (focus (first | rfl | (simp; done) | (rw [toksC_length]; omega))); conv => whnf) | (refine ⟨rfl, ?_⟩; conv => whnf) | (refine ⟨⟨rfl, rfl⟩, ?_⟩; conv => whnf) | (refine ⟨⟨rfl, rfl, rfl, ?_, pureL_bys _⟩, ?_⟩; (focus (simp; done)); conv => whnf) | (refine ⟨⟨rfl, rfl, ?_, pureL_bys _⟩, ?_⟩; (focus (simp; done)); conv => whnf) | (refine ⟨⟨rfl, rfl, rfl, ?_, pureL_toks _⟩, ?_⟩; (focus (rw [toksC_length]; omega)); conv => whnf) | (refine ⟨⟨rfl, rfl, ?_, pureL_toks _⟩, ?_⟩; (focus (rw [toksC_length]; omega)); conv => whnf) | (refine ⟨⟨rfl, rfl, ?_⟩, ?_⟩; (focus (first | assumption | exact pureL_bys _ | exact pureL_toks _)); conv => whnf) | (refine ⟨⟨rfl, rfl, ?_⟩, ?_⟩; (focus (first | exact Nat.le_of_ble_eq_true rfl | (simp; done))); conv => whnf) | (refine And.intro (by first | omega | rfl | (dsimp only; omega)) ?_; conv => whnf) | (refine ⟨⟨rfl, ?_⟩, ?_⟩; (focus (first | (simp only [okB]; omega) | (simp [okB]; omega))); conv => whnf) | (refine ⟨⟨?_, ?_, ?_⟩, ?_⟩; (focus omega); (focus (first | omega | (simp; done) | (simp; omega))); (focus (first | (simp; done) | (simp; omega) | (rw [toksC_length]; simp; omega))); conv => whnf) | (refine ⟨roLoad_ok rfl ?_, ?_⟩; (focus (simp [toksC_length]; omega)); conv => whnf) | (refine ⟨⟨?_, ?_⟩, ?_⟩; (focus (simp; done)); (focus (first | (simp only [okB]; omega) | (simp [okB]; omega))); conv => whnf) | (refine And.intro ?_ ?_; (focus (first | (simp only [pureL, pureV, pureL_bys, Bool.and_true, Bool.and_self]; done) | (simp only [pureL, pureV, pureL_bys, pureL_toks, Bool.and_true, Bool.and_self]; done))); conv => whnf) | (refine ⟨⟨rfl, rfl, ?_, ?_⟩, ?_⟩; (focus (first | (simp; done) | (simp; omega))); (focus (first | (simp [limB]; done) | (simp [limB]; omega))); conv => whnf) | (refine ⟨⟨rfl, ?_, ?_, ?_⟩, ?_⟩; (focus (first | (simp; done) | (simp; omega))); (focus (first | exact Or.inl rfl | exact Or.inr (by omega))); (focus (first | (simp [limB]; done) | (simp [limB]; omega))); conv => whnf) | (refine And.intro ?_ ?_; (focus (first | (simp [limB]; done) | (simp [limB]; omega))); conv => whnf) | (refine ⟨ones_toks _, ?_⟩; conv => whnf) | (refine And.intro ?_ ?_; (focus (simp [pureL, pureV, pureL_bys, pureL_toks, pureL_app]; done)); conv => whnf) | (refine fit_i64 ⟨by first | (simp; done) | (simp; omega), by first | (simp; done) | (simp; omega)⟩ ?_; conv => whnf) | (refine ifB_neg (decide_eq_false (by first | (simp; done) | (simp; omega))) ?_; conv => whnf) | (refine ifB_pos (decide_eq_true (by first | (simp; done) | (simp; omega))) ?_; conv => whnf) | (refine Or.inl ⟨⟨rfl, ?_⟩, ?_⟩; (focus (first | (simp [toksC_length]; done) | (simp [toksC_length]; omega))); conv => whnf) | (refine ⟨⟨rfl, rfl, ?_, ?_⟩, ?_⟩; (focus (first | (simp [toksC_length]; done) | (simp [toksC_length]; omega))); (focus (first | (simp [limB]; done) | (simp [limB]; omega))); conv => whnf) | (refine ⟨⟨rfl, ?_, ?_, ?_⟩, ?_⟩; (focus (first | (simp [toksC_length]; done) | (simp [toksC_length]; omega))); (focus (first | exact Or.inl rfl | exact Or.inr (by omega))); (focus (first | (simp [limB]; done) | (simp [limB]; omega))); conv => whnf) | (refine And.intro ?_ ?_; (focus (first | (simp [toksC_length]; done) | (simp [toksC_length]; omega))); conv => whnf))
      refine ⟨c + 1, by omega, by omega, Weaker.trans (Weaker.freeze 2 rfl) (weaker_of [(1, 4)] rfl rfl ⟨⟨rfl, rfl, pureL_toks _⟩, ⟨rfl, rfl, rfl, rfl, id⟩, ⟨rfl, rfl⟩, trivial⟩ ⟨lesP_toks ?_, trivial⟩)⟩
      rw [frzL_app, frzL_toks, take_tok c1, toksC_append]
      have e : ((bys l[c].b).drop 0).take (l[c].b.length * 1) = bys l[c].b := by rw [List.drop_zero, Nat.mul_one]; exact List.take_of_length_le (by simp)
      simp only [frzL, frzV, toksC, e, show Nat.beq 2 2 = true from rfl, cond_true]
    · obtain rfl : c = l.length := by omega
      rw [List.take_length]
      refine wpc_sound (M := MC) (PL := PLtt) (CU := noCut) TTok mixed _ _ _ ?_
      conv => whnf
      repeat (first | (refine ifB_t ?_; conv => whnf) | (refine ifB_f ?_; conv => whnf) | (refine ifB_neg (decide_eq_false (by first | omega | rfl | (dsimp only; omega))) ?_; conv => whnf) | (refine ifB_pos (decide_eq_true (by first | omega | rfl | (dsimp only; omega))) ?_; conv => whnf) | (refine fit_i64 ⟨by first | omega | rfl | (dsimp only; omega), by first | omega | rfl | (dsimp only; omega)⟩ ?_; conv => whnf) | (refine fit_u64 ⟨by first | omega | rfl | (dsimp only; omega), by first | omega | rfl | (dsimp only; omega)⟩ ?_; conv => whnf) | (refine fit_u8 ⟨by first | omega | rfl | (dsimp only; omega), by first | omega | rfl | (dsimp only; omega)⟩ ?_; conv => whnf) | (refine ⟨pureL_bys _, ?_⟩; conv => whnf) | (refine ⟨ones_bys _, ?_⟩; conv => whnf) | (refine ⟨pureL_cutB _ _ _ _, ?_⟩; conv => whnf) | (refine Or.inl ⟨⟨rfl, ?_⟩, ?_⟩; (focus (first | rfl | (simp; done) | (rw [toksC_length]; omega))); conv => whnf) | (refine ⟨rfl, ?_⟩; conv => whnf) | (refine ⟨_, rfl, ?_⟩; conv => whnf) | (refine ⟨⟨rfl, rfl⟩, ?_⟩; conv => whnf) | (refine ⟨⟨rfl, rfl, rfl, ?_, pureL_bys _⟩, ?_⟩; (focus (simp; done)); conv => whnf) | (refine ⟨⟨rfl, rfl, ?_, pureL_bys _⟩, ?_⟩; (focus (simp; done)); conv => whnf) | (refine ⟨⟨rfl, rfl, rfl, ?_, pureL_toks _⟩, ?_⟩; (focus (rw [toksC_length]; omega)); conv => whnf) | (refine ⟨⟨rfl, rfl, ?_, pureL_toks _⟩, ?_⟩; (focus (rw [toksC_length]; omega)); conv => whnf) | (refine ⟨⟨rfl, rfl, ?_⟩, ?_⟩; (focus (first | assumption | exact pureL_bys _ | exact pureL_toks _)); conv => whnf) | (refine ⟨⟨rfl, rfl, ?_⟩, ?_⟩; (focus (first | exact Nat.le_of_ble_eq_true rfl | (simp; done))); conv => whnf) | (refine And.intro (by first | omega | rfl | (dsimp only; omega)) ?_; conv => whnf) | (refine ⟨⟨rfl, ?_⟩, ?_⟩; (focus (first | (simp only [okB]; omega) | (simp [okB]; omega))); conv => whnf) | (refine ⟨⟨?_, ?_, ?_⟩, ?_⟩; (focus omega); (focus (first | omega | (simp; done) | (simp; omega))); (focus (first | (simp; done) | (simp; omega) | (rw [toksC_length]; simp; omega))); conv => whnf) | (refine ⟨roLoad_ok rfl ?_, ?_⟩; (focus (simp [toksC_length]; omega)); conv => whnf) | (refine ⟨⟨?_, ?_⟩, ?_⟩; (focus (simp; done)); (focus (first | (simp only [okB]; omega) | (simp [okB]; omega))); conv => whnf) | (refine And.intro ?_ ?_; (focus (first | (simp only [pureL, pureV, pureL_bys, Bool.and_true, Bool.and_self]; done) | (simp only [pureL, pureV, pureL_bys, pureL_toks, Bool.and_true, Bool.and_self]; done))); conv => whnf) | (refine ⟨⟨rfl, rfl, ?_, ?_⟩, ?_⟩; (focus (first | (simp; done) | (simp; omega))); (focus (first | (simp [limB]; done) | (simp [limB]; omega))); conv => whnf) | (refine ⟨⟨rfl, ?_, ?_, ?_⟩, ?_⟩; (focus (first | (simp; done) | (simp; omega))); (focus (first | exact Or.inl rfl | exact Or.inr (by omega))); (focus (first | (simp [limB]; done) | (simp [limB]; omega))); conv => whnf) | (refine And.intro ?_ ?_; (focus (first | (simp [limB]; done) | (simp [limB]; omega))); conv => whnf) | (refine ⟨ones_toks _, ?_⟩; conv => whnf) | (refine And.intro ?_ ?_; (focus (simp [pureL, pureV, pureL_bys, pureL_toks, pureL_app]; done)); conv => whnf) | (refine fit_i64 ⟨by first | (simp; done) | (simp; omega), by first | (simp; done) | (simp; omega)⟩ ?_; conv => whnf) | (refine ifB_neg (decide_eq_false (by first | (simp; done) | (simp; omega))) ?_; conv => whnf) | (refine ifB_pos (decide_eq_true (by first | (simp; done) | (simp; omega))) ?_; conv => whnf) | (refine Or.inl ⟨⟨rfl, ?_⟩, ?_⟩; (focus (first | (simp [toksC_length]; done) | (simp [toksC_length]; omega))); conv => whnf) | (refine ⟨⟨rfl, rfl, ?_, ?_⟩, ?_⟩; (focus (first | (simp [toksC_length]; done) | (simp [toksC_length]; omega))); (focus (first | (simp [limB]; done) | (simp [limB]; omega))); conv => whnf) | (refine ⟨⟨rfl, ?_, ?_, ?_⟩, ?_⟩; (focus (first | (simp [toksC_length]; done) | (simp [toksC_length]; omega))); (focus (first | exact Or.inl rfl | exact Or.inr (by omega))); (focus (first | (simp [limB]; done) | (simp [limB]; omega))); conv => whnf) | (refine And.intro ?_ ?_; (focus (first | (simp [toksC_length]; done) | (simp [toksC_length]; omega))); conv => whnf))
      rfl
  · exact weaker_of [] rfl rfl ⟨⟨rfl, rfl, pureL_toks _⟩, rfl, ⟨rfl, rfl⟩, trivial⟩ ⟨rfl, trivial⟩
theorem check_ok (l : List Tok) (hl : ToksOk l) (hlb : ∀ t ∈ l, t.b.length ≤ 1099511627776) : ACall Tryd.prog 17 [.ro l.length (toksC l)] (.int .i64 (encR validR l).2) [] := by
  have e := encode_ok l hl hlb
  refine ACall.of_does TTok Tryd.func17 rfl Tryd.call17 rfl (wpc_sound (M := MC) (PL := PL0) (CU := noCut) TTok mixed _ _ _ ?_)
  conv => whnf
  repeat (first | (refine ifB_t ?_; conv => whnf) | (refine ifB_f ?_; conv => whnf) | (refine ifB_neg (decide_eq_false (by first | omega | rfl | (dsimp only; omega))) ?_; conv => whnf) | (refine ifB_pos (decide_eq_true (by first | omega | rfl | (dsimp only; omega))) ?_; conv => whnf) | (refine fit_i64 ⟨by first | omega | rfl | (dsimp only; omega), by first | omega | rfl | (dsimp only; omega)⟩ ?_; conv => whnf) | (refine fit_u64 ⟨by first | omega | rfl | (dsimp only; omega), by first | omega | rfl | (dsimp only; omega)⟩ ?_; conv => whnf) | (refine fit_u8 ⟨by first | omega | rfl | (dsimp only; omega), by first | omega | rfl | (dsimp only; omega)⟩ ?_; conv => whnf) | (refine ⟨pureL_bys _, ?_⟩; conv => whnf) | (refine ⟨ones_bys _, ?_⟩; conv => whnf) | (refine ⟨pureL_cutB _ _ _ _, ?_⟩; conv => whnf) | (refine Or.inl ⟨⟨rfl, ?_⟩, ?_⟩; (focus (first | rfl | (simp; done) | (rw [toksC_length]; omega))); conv => whnf) | (refine ⟨rfl, ?_⟩; conv => whnf) | (refine ⟨_, rfl, ?_⟩; conv => whnf) | (refine ⟨⟨rfl, rfl⟩, ?_⟩; conv => whnf) | (refine ⟨⟨rfl, rfl, rfl, ?_, pureL_bys _⟩, ?_⟩; (focus (simp; done)); conv => whnf) | (refine ⟨⟨rfl, rfl, ?_, pureL_bys _⟩, ?_⟩; (focus (simp; done)); conv => whnf) | (refine ⟨⟨rfl, rfl, rfl, ?_, pureL_toks _⟩, ?_⟩; (focus (rw [toksC_length]; omega)); conv => whnf) | (refine ⟨⟨rfl, rfl, ?_, pureL_toks _⟩, ?_⟩; (focus (rw [toksC_length]; omega)); conv => whnf) | (refine ⟨⟨rfl, rfl, ?_⟩, ?_⟩; (focus (first | assumption | exact pureL_bys _ | exact pureL_toks _)); conv => whnf) | (refine ⟨⟨rfl, rfl, ?_⟩, ?_⟩; (focus (first | exact Nat.le_of_ble_eq_true rfl | (simp; done))); conv => whnf) | (refine And.intro (by first | omega | rfl | (dsimp only; omega)) ?_; conv => whnf) | (refine ⟨⟨rfl, ?_⟩, ?_⟩; (focus (first | (simp only [okB]; omega) | (simp [okB]; omega))); conv => whnf) | (refine ⟨⟨?_, ?_, ?_⟩, ?_⟩; (focus omega); (focus (first | omega | (simp; done) | (simp; omega))); (focus (first | (simp; done) | (simp; omega) | (rw [toksC_length]; simp; omega))); conv => whnf) | (refine ⟨roLoad_ok rfl ?_, ?_⟩; (focus (simp [toksC_length]; omega)); conv => whnf) | (refine ⟨⟨?_, ?_⟩, ?_⟩; (focus (simp; done)); (focus (first | (simp only [okB]; omega) | (simp [okB]; omega))); conv => whnf) | (refine And.intro ?_ ?_; (focus (first | (simp only [pureL, pureV, pureL_bys, Bool.and_true, Bool.and_self]; done) | (simp only [pureL, pureV, pureL_bys, pureL_toks, Bool.and_true, Bool.and_self]; done))); conv => whnf) | (refine ⟨⟨rfl, rfl, ?_, ?_⟩, ?_⟩; (focus (first | (simp; done) | (simp; omega))); (focus (first | (simp [limB]; done) | (simp [limB]; omega))); conv => whnf) | (refine ⟨⟨rfl, ?_, ?_, ?_⟩, ?_⟩; (focus (first | (simp; done) | (simp; omega))); (focus (first | exact Or.inl rfl | exact Or.inr (by omega))); (focus (first | (simp [limB]; done) | (simp [limB]; omega))); conv => whnf) | (refine And.intro ?_ ?_; (focus (first | (simp [limB]; done) | (simp [limB]; omega))); conv => whnf) | (refine ⟨ones_toks _, ?_⟩; conv => whnf) | (refine And.intro ?_ ?_; (focus (simp [pureL, pureV, pureL_bys, pureL_toks, pureL_app]; done)); conv => whnf) | (refine fit_i64 ⟨by first | (simp; done) | (simp; omega), by first | (simp; done) | (simp; omega)⟩ ?_; conv => whnf) | (refine ifB_neg (decide_eq_false (by first | (simp; done) | (simp; omega))) ?_; conv => whnf) | (refine ifB_pos (decide_eq_true (by first | (simp; done) | (simp; omega))) ?_; conv => whnf) | (refine Or.inl ⟨⟨rfl, ?_⟩, ?_⟩; (focus (first | (simp [toksC_length]; done) | (simp [toksC_length]; omega))); conv => whnf) | (refine ⟨⟨rfl, rfl, ?_, ?_⟩, ?_⟩; (focus (first | (simp [toksC_length]; done) | (simp [toksC_length]; omega))); (focus (first | (simp [limB]; done) | (simp [limB]; omega))); conv => whnf) | (refine ⟨⟨rfl, ?_, ?_, ?_⟩, ?_⟩; (focus (first | (simp [toksC_length]; done) | (simp [toksC_length]; omega))); (focus (first | exact Or.inl rfl | exact Or.inr (by omega))); (focus (first | (simp [limB]; done) | (simp [limB]; omega))); conv => whnf) | (refine And.intro ?_ ?_; (focus (first | (simp [toksC_length]; done) | (simp [toksC_length]; omega))); conv => whnf))
  refine ⟨_, _, e, by first | rfl | simp [noRoIf, noRoL, noRoV, noRoL_bys], ?_⟩
  conv => whnf
  repeat (first | (refine ifB_t ?_; conv => whnf) | (refine ifB_f ?_; conv => whnf) | (refine ifB_neg (decide_eq_false (by first | omega | rfl | (dsimp only; omega))) ?_; conv => whnf) | (refine ifB_pos (decide_eq_true (by first | omega | rfl | (dsimp only; omega))) ?_; conv => whnf) | (refine fit_i64 ⟨by first | omega | rfl | (dsimp only; omega), by first | omega | rfl | (dsimp only; omega)⟩ ?_; conv => whnf) | (refine fit_u64 ⟨by first | omega | rfl | (dsimp only; omega), by first | omega | rfl | (dsimp only; omega)⟩ ?_; conv => whnf) | (refine fit_u8 ⟨by first | omega | rfl | (dsimp only; omega), by first | omega | rfl | (dsimp only; omega)⟩ ?_; conv => whnf) | (refine ⟨pureL_bys _, ?_⟩; conv => whnf) | (refine ⟨ones_bys _, ?_⟩; conv => whnf) | (refine ⟨pureL_cutB _ _ _ _, ?_⟩; conv => whnf) | (refine Or.inl ⟨⟨rfl, ?_⟩, ?_⟩; (focus (first | rfl | (simp; done) | (rw [toksC_length]; omega))); conv => whnf) | (refine ⟨rfl, ?_⟩; conv => whnf) | (refine ⟨_, rfl, ?_⟩; conv => whnf) | (refine ⟨⟨rfl, rfl⟩, ?_⟩; conv => whnf) | (refine ⟨⟨rfl, rfl, rfl, ?_, pureL_bys _⟩, ?_⟩; (focus (simp; done)); conv => whnf) | (refine ⟨⟨rfl, rfl, ?_, pureL_bys _⟩, ?_⟩; (focus (simp; done)); conv => whnf) | (refine ⟨⟨rfl, rfl, rfl, ?_, pureL_toks _⟩, ?_⟩; (focus (rw [toksC_length]; omega)); conv => whnf) | (refine ⟨⟨rfl, rfl, ?_, pureL_toks _⟩, ?_⟩; (focus (rw [toksC_length]; omega)); conv => whnf) | (refine ⟨⟨rfl, rfl, ?_⟩, ?_⟩; (focus (first | assumption | exact pureL_bys _ | exact pureL_toks _)); conv => whnf) | (refine ⟨⟨rfl, rfl, ?_⟩, ?_⟩; (focus (first | exact Nat.le_of_ble_eq_true rfl | (simp; done))); conv => whnf) | (refine And.intro (by first | omega | rfl | (dsimp only; omega)) ?_; conv => whnf) | (refine ⟨⟨rfl, ?_⟩, ?_⟩; (focus (first | (simp only [okB]; omega) | (simp [okB]; omega))); conv => whnf) | (refine ⟨⟨?_, ?_, ?_⟩, ?_⟩; (focus omega); (focus (first | omega | (simp; done) | (simp; omega))); (focus (first | (simp; done) | (simp; omega) | (rw [toksC_length]; simp; omega))); conv => whnf) | (refine ⟨roLoad_ok rfl ?_, ?_⟩; (focus (simp [toksC_length]; omega)); conv => whnf) | (refine ⟨⟨?_, ?_⟩, ?_⟩; (focus (simp; done)); (focus (first | (simp only [okB]; omega) | (simp [okB]; omega))); conv => whnf) | (refine And.intro ?_ ?_; (focus (first | (simp only [pureL, pureV, pureL_bys, Bool.and_true, Bool.and_self]; done) | (simp only [pureL, pureV, pureL_bys, pureL_toks, Bool.and_true, Bool.and_self]; done))); conv => whnf) | (refine ⟨⟨rfl, rfl, ?_, ?_⟩, ?_⟩; (focus (first | (simp; done) | (simp; omega))); (focus (first | (simp [limB]; done) | (simp [limB]; omega))); conv => whnf) | (refine ⟨⟨rfl, ?_, ?_, ?_⟩, ?_⟩; (focus (first | (simp; done) | (simp; omega))); (focus (first | exact Or.inl rfl | exact Or.inr (by omega))); (focus (first | (simp [limB]; done) | (simp [limB]; omega))); conv => whnf) | (refine And.intro ?_ ?_; (focus (first | (simp [limB]; done) | (simp [limB]; omega))); conv => whnf) | (refine ⟨ones_toks _, ?_⟩; conv => whnf) | (refine And.intro ?_ ?_; (focus (simp [pureL, pureV, pureL_bys, pureL_toks, pureL_app]; done)); conv => whnf) | (refine fit_i64 ⟨by first | (simp; done) | (simp; omega), by first | (simp; done) | (simp; omega)⟩ ?_; conv => whnf) | (refine ifB_neg (decide_eq_false (by first | (simp; done) | (simp; omega))) ?_; conv => whnf) | (refine ifB_pos (decide_eq_true (by first | (simp; done) | (simp; omega))) ?_; conv => whnf) | (refine Or.inl ⟨⟨rfl, ?_⟩, ?_⟩; (focus (first | (simp [toksC_length]; done) | (simp [toksC_length]; omega))); conv => whnf) | (refine ⟨⟨rfl, rfl, ?_, ?_⟩, ?_⟩; (focus (first | (simp [toksC_length]; done) | (simp [toksC_length]; omega))); (focus (first | (simp [limB]; done) | (simp [limB]; omega))); conv => whnf) | (refine ⟨⟨rfl, ?_, ?_, ?_⟩, ?_⟩; (focus (first | (simp [toksC_length]; done) | (simp [toksC_length]; omega))); (focus (first | exact Or.inl rfl | exact Or.inr (by omega))); (focus (first | (simp [limB]; done) | (simp [limB]; omega))); conv => whnf) | (refine And.intro ?_ ?_; (focus (first | (simp [toksC_length]; done) | (simp [toksC_length]; omega))); conv => whnf))
  rfl
end Go.Proofs.YtobjehjfdmelhabDoor.Abs
end
