/- Texts EQ to SW, merged. -/
import Derived.Test.YtdmkpmijcgiggaaGreatDoorRows
import Derived.Test.YtdmkpmijcgiggaaGreatDoorProg
import Derived.Lib.LaidU8T
import Derived.PinnedBridge
import Derived.Test.YtdmkpmijcgiggaaGreatDoorU13
set_option linter.unusedVariables false
set_option linter.unusedSimpArgs false
namespace Go.Proofs.YtdmkpmijcgiggaaGreatDoor.Abs
open Go
section
--KR
attribute [local irreducible] ifB fitP Does Weaker
def PLeb : Nat → Bool × Plan := plans [(1, (false, (takesTo [2] (.all [(0, (.all [(1, (.all [(3, (.all [(4, (takes [5]))]))])), (3, (.all [(1, (.all [(4, (takes [5]))]))]))]))]))))]
set_option maxRecDepth 20000 in
set_option maxHeartbeats 4000000 in
theorem refebytes_ok (e : Ent) (he : EntS e) : ACall Tryz.prog 35 [.agg (entC e)] (.own (encR validR (entTs e)).1.length 1 (bys (encR validR (entTs e)).1)) [] := by
 have ht := entTs_ok e he
 have hb := refEncode_ok (entTs e) ht.1 (fun t h => by have := ht.2 t h; omega)
 generalize encR validR (entTs e) = o at hb ⊢
 obtain ⟨o, er⟩ := o
 dsimp only at hb ⊢
 refine ACall.of_does TTok Tryz.func35 rfl Tryz.call35 rfl (wpc_sound (M := MF) (PL := PLeb) (CU := cutAt [100001]) TTok mixed _ _ _ ?_)
 conv => whnf
 repeat ((refine ⟨rfl, ?_⟩); conv => whnf)
 refine Does.freeze 0 rfl (Does.tidy [(1, .rop (entC e))] [] 1 22 rfl rfl rfl (by kernel_rfl) (by kernel_rfl) ?_)
 refine wpc_sound (M := MF) (PL := PLeb) (CU := noCut) TTok mixed _ _ _ ?_
 conv => whnf
 refine ⟨by kernel_rfl, ?_⟩
 conv => whnf
 repeat ((first | refine ⟨rfl, ?_⟩ | refine ⟨_, rfl, ?_⟩); conv => whnf)
 refine ⟨_, _, refarray_ok 7, by first | rfl | simp [noRoIf, noRoL, noRoV, noRoL_bys], ?_⟩
 conv => whnf
 refine ⟨?_, ?_⟩
 ·conv => whnf
  repeat ((first | refine ⟨entC_pure _, ?_⟩ | refine ⟨rfl, ?_⟩ | refine ⟨⟨rfl, rfl⟩, ?_⟩); conv => whnf)
  conv => whnf
  refine ⟨_, _, six_ok e he, by first | rfl | simp [noRoIf, noRoL, noRoV, noRoL_bys], ?_⟩
  conv => whnf
  conv => whnf
  refine Or.inl ⟨⟨rfl, rfl, by rw [toksC_length]; rfl⟩, ?_⟩
  conv => whnf
  repeat ((first | (refine ⟨⟨by first | (simp only [List.drop_zero, List.length_drop, hds_len]; omega) | exact Nat.le_of_ble_eq_true (by kernel_rfl), okB_none _⟩, ?_⟩) | refine ⟨rfl, ?_⟩ | (refine ⟨⟨rfl, ?_, ?_, ?_⟩, ?_⟩; (focus (first | (simp; done) | (simp; omega))); (focus (first | exact Or.inl rfl | exact Or.inr (by omega))); (focus (first | (simp [limB, lenB, offB]; done) | (simp [limB, lenB, offB]; omega))))); conv => whnf)
  refine ⟨_, _, (refbytes_ok e.sig).arg1 he.sig.2.symm (cut64 he.sig.2 _), by first | rfl | simp [noRoIf, noRoL, noRoV, noRoL_bys], ?_⟩
  conv => whnf
  repeat ((first | (refine Or.inl ⟨⟨rfl, ?_⟩, ?_⟩; (focus (first | rfl | (simp; done) | (rw [toksC_length]; omega)))) | refine ⟨rfl, ?_⟩ | refine ⟨⟨rfl, rfl⟩, ?_⟩); conv => whnf)
  refine ⟨⟨rfl, rfl, by kernel_rfl, by simp [limB]⟩, ?_⟩
  conv => whnf
  repeat ((first | (refine Or.inl ⟨⟨rfl, ?_⟩, ?_⟩; (focus (first | rfl | (simp; done) | (rw [toksC_length]; omega)))) | refine ⟨rfl, ?_⟩ | (refine And.intro ?_ ?_; (focus (simp [pureL, pureV, pureL_bys, pureL_toks, pureL_app]; done)))); conv => whnf)
  refine ⟨_, _, hb.arg1 rfl (by kernel_rfl), by first | rfl | simp [noRoIf, noRoL, noRoV, noRoL_bys], ?_⟩
  conv => whnf
  repeat ((refine ⟨⟨rfl, rfl, rfl, ?_, pureL_bys _⟩, ?_⟩; (focus (simp; done))); conv => whnf)
  rfl
 ·conv => whnf
  repeat ((first | refine ⟨entC_pure _, ?_⟩ | refine ⟨rfl, ?_⟩); conv => whnf)
  refine ⟨_, _, six_ok e he, by first | rfl | simp [noRoIf, noRoL, noRoV, noRoL_bys], ?_⟩
  conv => whnf
  repeat ((refine ⟨⟨rfl, rfl⟩, ?_⟩); conv => whnf)
  conv => whnf
  conv => whnf
  refine Or.inl ⟨⟨rfl, rfl, by rw [toksC_length]; rfl⟩, ?_⟩
  conv => whnf
  repeat ((first | (refine ⟨⟨by first | (simp only [List.drop_zero, List.length_drop, hds_len]; omega) | exact Nat.le_of_ble_eq_true (by kernel_rfl), okB_none _⟩, ?_⟩) | refine ⟨rfl, ?_⟩ | (refine ⟨⟨rfl, ?_, ?_, ?_⟩, ?_⟩; (focus (first | (simp; done) | (simp; omega))); (focus (first | exact Or.inl rfl | exact Or.inr (by omega))); (focus (first | (simp [limB, lenB, offB]; done) | (simp [limB, lenB, offB]; omega))))); conv => whnf)
  refine ⟨_, _, (refbytes_ok e.sig).arg1 he.sig.2.symm (cut64 he.sig.2 _), by first | rfl | simp [noRoIf, noRoL, noRoV, noRoL_bys], ?_⟩
  conv => whnf
  repeat ((first | (refine Or.inl ⟨⟨rfl, ?_⟩, ?_⟩; (focus (first | rfl | (simp; done) | (rw [toksC_length]; omega)))) | refine ⟨rfl, ?_⟩ | refine ⟨⟨rfl, rfl⟩, ?_⟩); conv => whnf)
  refine ⟨⟨rfl, rfl, by kernel_rfl, by simp [limB]⟩, ?_⟩
  conv => whnf
  repeat ((first | (refine Or.inl ⟨⟨rfl, ?_⟩, ?_⟩; (focus (first | rfl | (simp; done) | (rw [toksC_length]; omega)))) | refine ⟨rfl, ?_⟩ | (refine And.intro ?_ ?_; (focus (simp [pureL, pureV, pureL_bys, pureL_toks, pureL_app]; done)))); conv => whnf)
  refine ⟨_, _, hb.arg1 rfl (by kernel_rfl), by first | rfl | simp [noRoIf, noRoL, noRoV, noRoL_bys], ?_⟩
  conv => whnf
  repeat ((refine ⟨⟨rfl, rfl, rfl, ?_, pureL_bys _⟩, ?_⟩; (focus (simp; done))); conv => whnf)
  rfl
end
section
--KR
attribute [local irreducible] ifB fitP Does Weaker
def tok0 : Tok := ⟨0, 0, []⟩
def likeAt (l : List Tok) (ks ss : List Int) (i : Nat) : Bool := decide ((l.getD i tok0).k = ks.getD i 0) && !(decide (0 ≤ ss.getD i 0) && ((decide ((l.getD i tok0).k = 3) && decide (((l.getD i tok0).b.length : Int) ≠ ss.getD i 0)) || (decide ((l.getD i tok0).k = 5) && decide ((l.getD i tok0).n ≠ ss.getD i 0))))
def likeR (l : List Tok) (ks ss : List Int) : Bool := decide (l.length = ks.length) && (List.range l.length).all (likeAt l ks ss)
theorem likeR_no {l : List Tok} {ks ss : List Int} {c : Nat} (hc : c < l.length) (h : likeAt l ks ss c = false) : likeR l ks ss = false := by
 unfold likeR
 rw [Bool.and_eq_false_iff]
 right
 rw [Bool.eq_false_iff]
 intro hh
 rw [List.all_eq_true] at hh
 have := hh c (by simpa using hc)
 rw [h] at this
 cases this
theorem range_snoc' {p : Nat → Bool} {c : Nat} (h : (List.range c).all p = true) (k : p c = true) : (List.range (c + 1)).all p = true := by
 rw [List.range_succ, List.all_append, h]; simp [k]
theorem get_intsD {l : List Int} {c m : Nat} (h : c < l.length) (hm : m = c) : ((ints l).drop m)[0]? = some (.int .i64 (l.getD c 0)) := by
 subst hm
 simp [ints, h, List.getD_eq_getElem?_getD]
def PLlike : Nat → Bool × Plan := plans [(6, (true, takes [0, 1, 2, 3, 4, 5, 6, 7, 8, 9, 10, 11, 12, 13, 14, 15, 16, 17, 18, 19, 20, 21, 22, 23, 24, 25, 26, 27, 28, 29, 30, 31, 32, 33, 34, 35, 36, 37, 38, 39, 40, 41, 42, 43, 44, 45, 46, 47, 48, 49, 50, 51, 52, 53, 54, 55, 56, 57]))]
set_option maxHeartbeats 4000000 in
theorem like_ok (l : List Tok) (ks ss : List Int) (hs : ss.length = ks.length) (hn : l.length ≤ 1000000) (hk : ks.length ≤ 1000000) : ACall Tryz.prog 66 [.ro l.length (toksC l), .ro ks.length (ints ks), .ro ss.length (ints ss)] (.bool (likeR l ks ss)) [] := by
 refine ACall.of_does TTok Tryz.func66 rfl Tryz.call66 rfl (wpc_sound (M := MF) (PL := PLlike) (CU := noCut) TTok mixed _ _ _ ?_)
 conv => whnf
 refine ifB_dec (fun c0 => ?_) (fun c0 => ?_)
 ·have : likeR l ks ss = false := by unfold likeR; rw [df (show ¬ l.length = ks.length by omega)]; rfl
  rw [this]
  conv => whnf
  repeat ((refine ⟨rfl, ?_⟩); conv => whnf)
  rfl
 conv => whnf
 refine Does.loop (fun c : Nat => mkSt [(0, .ro l.length (toksC l)), (1, .ro ks.length (ints ks)), (2, .ro ss.length (ints ss)), (7, .int .i64 c)] [] 0 77)
  (fun c => c ≤ l.length ∧ (List.range c).all (likeAt l ks ss) = true) (fun c => l.length - c) ?_ 0 ⟨Nat.zero_le _, rfl⟩ ?_
 ·rintro c ⟨hc, hx⟩
  rcases Nat.lt_or_ge c l.length with c1 | c1
  ·have c2 : c < ks.length := by omega
   have c3 : c < ss.length := by omega
   have e : likeAt l ks ss c = (decide (l[c].k = ks.getD c 0) && !(decide (0 ≤ ss.getD c 0) && ((decide (l[c].k = 3) && decide ((l[c].b.length : Int) ≠ ss.getD c 0)) || (decide (l[c].k = 5) && decide (l[c].n ≠ ss.getD c 0))))) := by
    unfold likeAt; rw [List.getD_eq_getElem?_getD (l := l) (i := c), List.getElem?_eq_getElem c1]; rfl
   have gk : ∀ m, m = c → ((ints ks).drop m)[0]? = some (.int .i64 (ks.getD c 0)) := fun m hm => get_intsD c2 hm
   have gs : ∀ m, m = c → ((ints ss).drop m)[0]? = some (.int .i64 (ss.getD c 0)) := fun m hm => get_intsD c3 hm
   refine wpc_sound (M := MF) (PL := PLlike) (CU := noCut) TTok mixed _ _ _ ?_
   conv => whnf
   repeat ((refine ifB_pos (decide_eq_true (by first | omega | rfl | (dsimp only; omega))) ?_); conv => whnf)
   refine ⟨by kernel_rfl, ?_⟩
   generalize ks.getD c 0 = kc at e gk
   generalize ss.getD c 0 = sc at e gs
   by_cases k1 : l[c].k = kc
   ·rw [dt k1] at e
    by_cases k2 : 0 ≤ sc
    ·rw [dt k2] at e
     by_cases k3 : l[c].k = 3
     ·rw [dt k3] at e
      by_cases k4 : (l[c].b.length : Int) ≠ sc
      ·rw [dt k4] at e
       conv => whnf
       repeat' (first | (refine ifB_t ?_; (conv => whnf)) | (refine ifB_f ?_; (conv => whnf)) | (refine ifB_neg (decide_eq_false (by first | omega | rfl | (dsimp only; omega))) ?_; (conv => whnf)) | (refine ifB_pos (decide_eq_true (by first | omega | rfl | (dsimp only; omega))) ?_; (conv => whnf)) | (refine ⟨⟨?_, ?_, ?_⟩, ?_⟩; (focus omega); (focus (first | omega | (simp; done) | (simp; omega))); (focus (first | (simp; done) | (simp; omega) | (rw [toksC_length]; simp; omega))); (conv => whnf)) | (refine ⟨_, tok_k c1 (by simp; omega), ?_⟩; conv => whnf) | (refine ⟨_, tok_n c1 (by simp; omega), ?_⟩; conv => whnf) | (refine ⟨_, tok_b c1 (by simp; omega), ?_⟩; conv => whnf) | (refine ⟨_, gk _ (by simp), ?_⟩; conv => whnf) | (refine ⟨_, gs _ (by simp), ?_⟩; conv => whnf) | (refine ⟨⟨by omega, by omega, by rw [toksC_length]; simp; omega⟩, ?_⟩; conv => whnf) | (refine ⟨⟨by omega, by omega, by simp; omega⟩, ?_⟩; conv => whnf) | (rw [likeR_no c1 e]; exact ⟨rfl, rfl⟩) | (rw [likeR_no c1 e]; rfl) | (refine ⟨_, rfl, ?_⟩; conv => whnf) | (refine And.intro ?_ ?_ <;> conv => whnf))
      ·rw [df k4] at e
       rw [df (show ¬ l[c].k = 5 by omega)] at e
       conv => whnf
       repeat' (first | (refine ifB_t ?_; (conv => whnf)) | (refine ifB_f ?_; (conv => whnf)) | (refine ifB_neg (decide_eq_false (by first | omega | rfl | (dsimp only; omega))) ?_; (conv => whnf)) | (refine ifB_pos (decide_eq_true (by first | omega | rfl | (dsimp only; omega))) ?_; (conv => whnf)) | (refine fit_i64 ⟨by first | omega | rfl | (dsimp only; omega), by first | omega | rfl | (dsimp only; omega)⟩ ?_; (conv => whnf)) | (refine ⟨⟨?_, ?_, ?_⟩, ?_⟩; (focus omega); (focus (first | omega | (simp; done) | (simp; omega))); (focus (first | (simp; done) | (simp; omega) | (rw [toksC_length]; simp; omega))); (conv => whnf)) | (refine ⟨_, tok_k c1 (by simp; omega), ?_⟩; conv => whnf) | (refine ⟨_, tok_n c1 (by simp; omega), ?_⟩; conv => whnf) | (refine ⟨_, tok_b c1 (by simp; omega), ?_⟩; conv => whnf) | (refine ⟨_, gk _ (by simp), ?_⟩; conv => whnf) | (refine ⟨_, gs _ (by simp), ?_⟩; conv => whnf) | (refine ⟨⟨by omega, by omega, by rw [toksC_length]; simp; omega⟩, ?_⟩; conv => whnf) | (refine ⟨⟨by omega, by omega, by simp; omega⟩, ?_⟩; conv => whnf) | (exact ⟨c + 1, ⟨by omega, range_snoc' hx e⟩, by omega, weaker_of [] rfl rfl ⟨⟨rfl, rfl, pureL_toks _⟩, ⟨rfl, rfl, pureL_ints _⟩, ⟨rfl, rfl, pureL_ints _⟩, ⟨rfl, by simp⟩, trivial⟩ trivial⟩) | (refine ⟨_, rfl, ?_⟩; conv => whnf) | (refine And.intro ?_ ?_ <;> conv => whnf))
     ·rw [df k3] at e
      by_cases k5 : l[c].k = 5
      ·rw [dt k5] at e
       by_cases k6 : l[c].n ≠ sc
       ·rw [dt k6] at e
        conv => whnf
        repeat' (first | (refine ifB_t ?_; (conv => whnf)) | (refine ifB_f ?_; (conv => whnf)) | (refine ifB_neg (decide_eq_false (by first | omega | rfl | (dsimp only; omega))) ?_; (conv => whnf)) | (refine ifB_pos (decide_eq_true (by first | omega | rfl | (dsimp only; omega))) ?_; (conv => whnf)) | (refine ⟨⟨?_, ?_, ?_⟩, ?_⟩; (focus omega); (focus (first | omega | (simp; done) | (simp; omega))); (focus (first | (simp; done) | (simp; omega) | (rw [toksC_length]; simp; omega))); (conv => whnf)) | (refine ⟨_, tok_k c1 (by simp; omega), ?_⟩; conv => whnf) | (refine ⟨_, tok_n c1 (by simp; omega), ?_⟩; conv => whnf) | (refine ⟨_, tok_b c1 (by simp; omega), ?_⟩; conv => whnf) | (refine ⟨_, gk _ (by simp), ?_⟩; conv => whnf) | (refine ⟨_, gs _ (by simp), ?_⟩; conv => whnf) | (refine ⟨⟨by omega, by omega, by rw [toksC_length]; simp; omega⟩, ?_⟩; conv => whnf) | (refine ⟨⟨by omega, by omega, by simp; omega⟩, ?_⟩; conv => whnf) | (rw [likeR_no c1 e]; exact ⟨rfl, rfl⟩) | (rw [likeR_no c1 e]; rfl) | (refine ⟨_, rfl, ?_⟩; conv => whnf) | (refine And.intro ?_ ?_ <;> conv => whnf))
       ·rw [df k6] at e
        conv => whnf
        repeat' (first | (refine ifB_t ?_; (conv => whnf)) | (refine ifB_f ?_; (conv => whnf)) | (refine ifB_neg (decide_eq_false (by first | omega | rfl | (dsimp only; omega))) ?_; (conv => whnf)) | (refine ifB_pos (decide_eq_true (by first | omega | rfl | (dsimp only; omega))) ?_; (conv => whnf)) | (refine fit_i64 ⟨by first | omega | rfl | (dsimp only; omega), by first | omega | rfl | (dsimp only; omega)⟩ ?_; (conv => whnf)) | (refine ⟨⟨?_, ?_, ?_⟩, ?_⟩; (focus omega); (focus (first | omega | (simp; done) | (simp; omega))); (focus (first | (simp; done) | (simp; omega) | (rw [toksC_length]; simp; omega))); (conv => whnf)) | (refine ⟨_, tok_k c1 (by simp; omega), ?_⟩; conv => whnf) | (refine ⟨_, tok_n c1 (by simp; omega), ?_⟩; conv => whnf) | (refine ⟨_, tok_b c1 (by simp; omega), ?_⟩; conv => whnf) | (refine ⟨_, gk _ (by simp), ?_⟩; conv => whnf) | (refine ⟨_, gs _ (by simp), ?_⟩; conv => whnf) | (refine ⟨⟨by omega, by omega, by rw [toksC_length]; simp; omega⟩, ?_⟩; conv => whnf) | (refine ⟨⟨by omega, by omega, by simp; omega⟩, ?_⟩; conv => whnf) | (exact ⟨c + 1, ⟨by omega, range_snoc' hx e⟩, by omega, weaker_of [] rfl rfl ⟨⟨rfl, rfl, pureL_toks _⟩, ⟨rfl, rfl, pureL_ints _⟩, ⟨rfl, rfl, pureL_ints _⟩, ⟨rfl, by simp⟩, trivial⟩ trivial⟩) | (refine ⟨_, rfl, ?_⟩; conv => whnf) | (refine And.intro ?_ ?_ <;> conv => whnf))
      ·rw [df k5] at e
       conv => whnf
       repeat' (first | (refine ifB_t ?_; (conv => whnf)) | (refine ifB_f ?_; (conv => whnf)) | (refine ifB_neg (decide_eq_false (by first | omega | rfl | (dsimp only; omega))) ?_; (conv => whnf)) | (refine ifB_pos (decide_eq_true (by first | omega | rfl | (dsimp only; omega))) ?_; (conv => whnf)) | (refine fit_i64 ⟨by first | omega | rfl | (dsimp only; omega), by first | omega | rfl | (dsimp only; omega)⟩ ?_; (conv => whnf)) | (refine ⟨⟨?_, ?_, ?_⟩, ?_⟩; (focus omega); (focus (first | omega | (simp; done) | (simp; omega))); (focus (first | (simp; done) | (simp; omega) | (rw [toksC_length]; simp; omega))); (conv => whnf)) | (refine ⟨_, tok_k c1 (by simp; omega), ?_⟩; conv => whnf) | (refine ⟨_, tok_n c1 (by simp; omega), ?_⟩; conv => whnf) | (refine ⟨_, tok_b c1 (by simp; omega), ?_⟩; conv => whnf) | (refine ⟨_, gk _ (by simp), ?_⟩; conv => whnf) | (refine ⟨_, gs _ (by simp), ?_⟩; conv => whnf) | (refine ⟨⟨by omega, by omega, by rw [toksC_length]; simp; omega⟩, ?_⟩; conv => whnf) | (refine ⟨⟨by omega, by omega, by simp; omega⟩, ?_⟩; conv => whnf) | (exact ⟨c + 1, ⟨by omega, range_snoc' hx e⟩, by omega, weaker_of [] rfl rfl ⟨⟨rfl, rfl, pureL_toks _⟩, ⟨rfl, rfl, pureL_ints _⟩, ⟨rfl, rfl, pureL_ints _⟩, ⟨rfl, by simp⟩, trivial⟩ trivial⟩) | (refine ⟨_, rfl, ?_⟩; conv => whnf) | (refine And.intro ?_ ?_ <;> conv => whnf))
    ·rw [df k2] at e
     conv => whnf
     repeat' (first | (refine ifB_f ?_; (conv => whnf)) | (refine ifB_neg (decide_eq_false (by first | omega | rfl | (dsimp only; omega))) ?_; (conv => whnf)) | (refine fit_i64 ⟨by first | omega | rfl | (dsimp only; omega), by first | omega | rfl | (dsimp only; omega)⟩ ?_; (conv => whnf)) | (refine ⟨⟨?_, ?_, ?_⟩, ?_⟩; (focus omega); (focus (first | omega | (simp; done) | (simp; omega))); (focus (first | (simp; done) | (simp; omega) | (rw [toksC_length]; simp; omega))); (conv => whnf)) | (refine ⟨_, tok_k c1 (by simp; omega), ?_⟩; conv => whnf) | (refine ⟨_, tok_n c1 (by simp; omega), ?_⟩; conv => whnf) | (refine ⟨_, tok_b c1 (by simp; omega), ?_⟩; conv => whnf) | (refine ⟨_, gk _ (by simp), ?_⟩; conv => whnf) | (refine ⟨_, gs _ (by simp), ?_⟩; conv => whnf) | (refine ⟨⟨by omega, by omega, by rw [toksC_length]; simp; omega⟩, ?_⟩; conv => whnf) | (refine ⟨⟨by omega, by omega, by simp; omega⟩, ?_⟩; conv => whnf) | (exact ⟨c + 1, ⟨by omega, range_snoc' hx e⟩, by omega, weaker_of [] rfl rfl ⟨⟨rfl, rfl, pureL_toks _⟩, ⟨rfl, rfl, pureL_ints _⟩, ⟨rfl, rfl, pureL_ints _⟩, ⟨rfl, by simp⟩, trivial⟩ trivial⟩) | (refine ⟨_, rfl, ?_⟩; conv => whnf) | (refine And.intro ?_ ?_ <;> conv => whnf))
   ·rw [df k1] at e
    conv => whnf
    repeat' (first | (refine ifB_t ?_; (conv => whnf)) | (refine ifB_pos (decide_eq_true (by first | omega | rfl | (dsimp only; omega))) ?_; (conv => whnf)) | (refine ⟨⟨?_, ?_, ?_⟩, ?_⟩; (focus omega); (focus (first | omega | (simp; done) | (simp; omega))); (focus (first | (simp; done) | (simp; omega) | (rw [toksC_length]; simp; omega))); (conv => whnf)) | (refine ⟨_, tok_k c1 (by simp; omega), ?_⟩; conv => whnf) | (refine ⟨_, tok_n c1 (by simp; omega), ?_⟩; conv => whnf) | (refine ⟨_, tok_b c1 (by simp; omega), ?_⟩; conv => whnf) | (refine ⟨_, gk _ (by simp), ?_⟩; conv => whnf) | (refine ⟨_, gs _ (by simp), ?_⟩; conv => whnf) | (refine ⟨⟨by omega, by omega, by rw [toksC_length]; simp; omega⟩, ?_⟩; conv => whnf) | (refine ⟨⟨by omega, by omega, by simp; omega⟩, ?_⟩; conv => whnf) | (rw [likeR_no c1 e]; exact ⟨rfl, rfl⟩) | (rw [likeR_no c1 e]; rfl) | (refine ⟨_, rfl, ?_⟩; conv => whnf) | (refine And.intro ?_ ?_ <;> conv => whnf))
  ·obtain rfl : c = l.length := by omega
   refine wpc_sound (M := MF) (PL := PLlike) (CU := noCut) TTok mixed _ _ _ ?_
   have : likeR l ks ss = true := by unfold likeR; rw [hx, dt (show l.length = ks.length by omega)]; rfl
   rw [this]
   conv => whnf
   repeat ((first | (refine ifB_neg (decide_eq_false (by first | omega | rfl | (dsimp only; omega))) ?_) | refine ⟨rfl, ?_⟩); conv => whnf)
   rfl
 ·exact weaker_of [] rfl rfl ⟨⟨rfl, rfl, pureL_toks _⟩, ⟨rfl, rfl, pureL_ints _⟩, ⟨rfl, rfl, pureL_ints _⟩, ⟨rfl, rfl⟩, trivial⟩ trivial
end
section
--KR
attribute [local irreducible] ifB fitP Does Weaker demsP
def kEnt : List Int := [5, 1, 3, 1, 3, 1, 5, 1, 4, 3, 3]
def sEnt : List Int := [7, -1, 32, -1, 32, -1, 3, -1, -1, -1, 64]
theorem like_entTs {e : Ent} (he : EntS e) : likeR (entTs e) kEnt sEnt = true := by
 have h1 := he.au.2
 have h2 := he.prev.2
 have h3 := he.sig.2
 unfold likeR
 rw [show (entTs e).length = 11 from rfl]
 simp [List.range_succ, likeAt, entTs, entT, kEnt, sEnt, h1, h2, h3]
theorem like_inv {l : List Tok} (h : likeR l kEnt sEnt = true) : ∃ t0 t1 t2 t3 t4 t5 t6 t7 t8 t9 t10 : Tok, l = [t0, t1, t2, t3, t4, t5, t6, t7, t8, t9, t10] ∧ (t0.k = 5 ∧ t0.n = 7) ∧ t1.k = 1 ∧ (t2.k = 3 ∧ t2.b.length = 32) ∧ t3.k = 1 ∧ (t4.k = 3 ∧ t4.b.length = 32) ∧ t5.k = 1 ∧ (t6.k = 5 ∧ t6.n = 3) ∧ t7.k = 1 ∧ t8.k = 4 ∧ t9.k = 3 ∧ (t10.k = 3 ∧ t10.b.length = 64) := by
 unfold likeR at h
 rw [Bool.and_eq_true] at h
 obtain ⟨h1, h2⟩ := h
 have h1 := of_decide_eq_true h1
 match l, h1 with
 | [t0, t1, t2, t3, t4, t5, t6, t7, t8, t9, t10], _ =>
  refine ⟨t0, t1, t2, t3, t4, t5, t6, t7, t8, t9, t10, rfl, ?_⟩
  rw [List.all_eq_true] at h2
  have g := fun i (hi : i < 11) => h2 i (List.mem_range.2 hi)
  have g0 := g 0 (by decide); have g1 := g 1 (by decide); have g2 := g 2 (by decide); have g3 := g 3 (by decide); have g4 := g 4 (by decide); have g5 := g 5 (by decide)
  have g6 := g 6 (by decide); have g7 := g 7 (by decide); have g8 := g 8 (by decide); have g9 := g 9 (by decide); have g10 := g 10 (by decide)
  simp [likeAt, kEnt, sEnt] at g0 g1 g2 g3 g4 g5 g6 g7 g8 g9 g10
  have a0 := g0.1; have a2 := g2.1; have a4 := g4.1; have a6 := g6.1; have a10 := g10.1
  rw [a0] at g0; rw [a2] at g2; rw [a4] at g4; rw [a6] at g6; rw [a10] at g10
  simp at g0 g2 g4 g6 g10
  exact ⟨⟨a0, g0⟩, g1, ⟨a2, by omega⟩, g3, ⟨a4, by omega⟩, g5, ⟨a6, g6⟩, g7, g8, g9, ⟨a10, by omega⟩⟩
theorem rdEnt_no {b : List Int} (h : ∀ e, EntS e → encR validR (entTs e) ≠ (b, 0)) (hb : Byt b) (hl : b.length ≤ 1000000000) : rdEnt b = (ent0, 3) := by
 rcases rdEnt_or b with h' | h'
 ·exact h'
 ·exact absurd (rdEnt_inv h').1 (h _ (rdEnt_entS hb hl).1)
theorem rdEnt_like {b : List Int} {l : List Tok} (hd : decR validR b = (l, 0)) (hb : Byt b) (hl : b.length ≤ 1000000000) (h : likeR l kEnt sEnt = false) : rdEnt b = (ent0, 3) := by
 refine rdEnt_no (fun e he hx => ?_) hb hl
 have := decR_enc (entTs_ok e he).1 hx
 rw [hd] at this
 injection this with this _
 rw [this, like_entTs he] at h
 cases h
theorem rdEnt_yes {b : List Int} {t0 t1 t2 t3 t4 t5 t6 t7 t8 t9 t10 : Tok} (hd : decR validR b = ([t0, t1, t2, t3, t4, t5, t6, t7, t8, t9, t10], 0)) (h0 : t0.k = 5 ∧ t0.n = 7) (h1 : t1.k = 1) (h2 : t2.k = 3 ∧ t2.b.length = 32) (h3 : t3.k = 1) (h4 : t4.k = 3 ∧ t4.b.length = 32) (h5 : t5.k = 1) (h6 : t6.k = 5 ∧ t6.n = 3) (h7 : t7.k = 1) (h8 : t8.k = 4) (h9 : t9.k = 3) (h10 : t10.k = 3 ∧ t10.b.length = 64) :
  rdEnt b = if t1.n ≠ 1 then (ent0, 3) else if entR ⟨t2.b, t3.n, t4.b, t5.n, t7.n, t8.b, t9.b, t10.b⟩ = true then (⟨t2.b, t3.n, t4.b, t5.n, t7.n, t8.b, t9.b, t10.b⟩, 0) else (ent0, 3) := by
 have ho : rOpen b = ⟨[t0, t1, t2, t3, t4, t5, t6, t7, t8, t9, t10], false⟩ := by unfold rOpen; rw [hd]; rfl
 split
 ·rename_i c
  rcases rdEnt_or b with h' | h'
  ·exact h'
  ·exfalso
   unfold rdEnt at h'
   obtain ⟨u2, u3, u4, u5, u6, u7, u8, u9, u10, e, _⟩ := rdE_inv h'
   obtain ⟨v0, v1, q, e1, _, _, _, n1, _⟩ := rWant_inv (m := 7) (f := 1) (r := rOpen b) (by rw [e])
   rw [ho] at e1
   injection e1 with e1 _
   injection e1 with _ e1
   injection e1 with e1 _
   subst e1
   exact c n1
 ·rename_i c
  unfold rdEnt
  rw [ho, rWant_cons h0.1 h0.2 h1 (Classical.not_not.1 c), rdE_cons h2.1 h2.2 h3 h4.1 h4.2 h5 h6.1 h7 h8 h9 h10.1 h10.2, if_neg (by rw [h6.2]; simp)]
theorem set_at {a m b l : List AV} {k : Nat} (hk : a.length = k) (hm : m.length = l.length) : setN (a ++ (m ++ b)) k l = a ++ (l ++ b) := by
 rw [setN_eq _ _ _ (by simp only [List.length_append]; omega)]
 rw [List.take_append_of_le_length (by omega), List.take_of_length_le (by omega), ← hk]
 rw [List.drop_append, List.drop_eq_nil_of_le (by omega), List.nil_append]
 rw [show a.length + l.length - a.length = m.length by omega, List.drop_append, List.drop_eq_nil_of_le (Nat.le_refl _)]
 simp
theorem bys_min {l : List Int} {n : Nat} (h : l.length = n) : (bys l).take (Nat.min l.length n * 1) = bys l := by
 rw [h, Nat.mul_one, show Nat.min n n = n from Nat.min_self n]; exact List.take_of_length_le (by simp [h])
theorem set_au {e : Ent} {l : List Int} (h : e.au.length = 32) (hl : l.length = 32) : setN (entC e) 0 ((bys l).take (Nat.min l.length 32 * 1)) = entC ⟨l, e.seq, e.prev, e.stamp, e.kind, e.key, e.val, e.sig⟩ := by
 rw [bys_min hl]
 unfold entC
 rw [c32_eq h, c32_eq hl]
 exact set_at (a := []) rfl (by simp [h, hl])
theorem set_prev {e : Ent} {l : List Int} (h0 : e.au.length = 32) (h : e.prev.length = 32) (hl : l.length = 32) : setN (entC e) 33 ((bys l).take (Nat.min l.length 32 * 1)) = entC ⟨e.au, e.seq, l, e.stamp, e.kind, e.key, e.val, e.sig⟩ := by
 rw [bys_min hl]
 unfold entC
 dsimp only
 rw [c32_eq h0, c32_eq h0, c32_eq h, c32_eq hl]
 have := set_at (a := bys e.au ++ [.int .i64 e.seq]) (m := bys e.prev) (b := .int .i64 e.stamp :: .int .i64 e.kind :: .str e.key :: .ro e.val.length (bys e.val) :: c64 e.sig []) (l := bys l) (k := 33) (by simp [h0]) (by simp [h, hl])
 simpa using this
theorem set_sig {e : Ent} {l : List Int} (h0 : e.au.length = 32) (h1 : e.prev.length = 32) (h : e.sig.length = 64) (hl : l.length = 64) : setN (entC e) 69 ((bys l).take (Nat.min l.length 64 * 1)) = entC ⟨e.au, e.seq, e.prev, e.stamp, e.kind, e.key, e.val, l⟩ := by
 rw [bys_min hl]
 unfold entC
 dsimp only
 rw [c32_eq h0, c32_eq h1, c64_eq h, c64_eq hl, c32_eq h0, c32_eq h1]
 have := set_at (a := bys e.au ++ [.int .i64 e.seq] ++ bys e.prev ++ [.int .i64 e.stamp, .int .i64 e.kind, .str e.key, .ro e.val.length (bys e.val)]) (m := bys e.sig) (b := []) (l := bys l) (k := 69) (by simp [h0, h1]) (by simp [h, hl])
 simpa using this
def PLre : Nat → Bool × Plan := plans [(4, (false, (takesTo [0, 1, 2, 3, 4, 5, 6, 7, 8, 9, 10, 11, 12, 13, 14, 15, 17, 18, 19, 20] (.all [(16, (takesTo [21, 22] (.all [(23, (.all [(24, .done)]))]))), (23, (.all [(16, (takesTo [21, 22] (.all [(24, .done)])))]))])))), (5, (false, (takesTo [0, 1, 2, 3, 4, 5] (.all [(6, .done)])))), (6, (false, (takesTo [0, 1, 2, 3, 4, 5] (.all [(6, .done)])))), (7, (false, (takesTo [0, 1, 2, 3, 4, 5] (.all [(6, .done)]))))]
theorem ent_bool_dems {H : Heap} {e : Ent} {n : Bool} {zs : List AV} {K : List Nat → Prop} (hz : zs = entC e) (h : K []) : demsP H [.tuple [.agg (entC e), .bool n]] [.tuple [.agg zs, .bool n]] K := by
 subst hz
 simp only [demsP, demP]
 refine ent_dems e ?_
 simpa only [and_self, true_and, List.nil_append] using h
theorem ent0_bool_dems {H : Heap} {n : Bool} {zs : List AV} {K : List Nat → Prop} (hz : zs = zeroE) (h : K []) : demsP H [.tuple [.agg (entC ent0), .bool n]] [.tuple [.agg zs, .bool n]] K := by
 subst hz
 simp only [demsP, demP]
 refine ent0_dems ?_
 simpa only [and_self, true_and, List.nil_append] using h
def MF2 : FuncId → List Mode := orElse [(66, [.bw, .bw, .bw])] MF
set_option maxRecDepth 20000 in
set_option maxHeartbeats 4000000 in
theorem refread_ok (b : List Int) (hb : Byt b) (hl : b.length ≤ 1000000000) : ACall Tryz.prog 28 [.ro b.length (bys b)] (.tuple [.agg (entC (rdEnt b).1), .bool (decide ((rdEnt b).2 = 0))]) [] := by
 have hd := refDecode_ok b hb (by omega)
 refine ACall.of_does TTok Tryz.func28 rfl Tryz.call28 rfl (wpc_sound (M := MF2) (PL := PLre) (CU := cutAt [100002, 100004, 100005, 100006, 100007, 100008, 100010]) TTok mixed _ _ _ ?_)
 rcases decR_or validR b with hq | ⟨l, hq, _, hp⟩
 ·have hr : rdEnt b = (ent0, 3) := rdEnt_no (fun e he hx => by rw [decR_enc (entTs_ok e he).1 hx] at hq; cases hq) hb hl
  rw [hq] at hd
  rw [hr]
  conv => whnf
  repeat ((first | refine ⟨pureL_bys _, ?_⟩ | refine ⟨rfl, ?_⟩); conv => whnf)
  refine ⟨_, _, hd, by first | rfl | simp [noRoIf, noRoL, noRoV, noRoL_bys], ?_⟩
  conv => whnf
  refine wpc_sound (M := MF2) (PL := PLre) (CU := noCut) TTok mixed _ _ _ ?_
  conv => whnf
  repeat ((first | refine ifB_t ?_ | refine ⟨(⟨by kernel_rfl, by kernel_rfl, Nat.le_of_ble_eq_true (by kernel_rfl)⟩ : AV.ones _ = true ∧ _ ∧ _), ?_⟩ | refine ⟨_, rfl, ?_⟩); conv => whnf)
  refine ent0_bool_dems (by kernel_rfl) ?_
  rfl
 have hto := pItem_toks b hb 7 ⟨0, [], false⟩ ⟨by simp [ToksOk], by simp⟩
 rw [hp] at hto
 have hlen : l.length ≤ 600 := by
  have := rOpen_len b
  unfold rOpen at this
  rw [hq] at this
  exact this
 rw [hq] at hd
 have hlk := like_ok l kEnt sEnt rfl (by omega) (by decide)
 conv => whnf
 repeat ((first | refine ⟨pureL_bys _, ?_⟩ | refine ⟨rfl, ?_⟩); conv => whnf)
 refine ⟨_, _, hd, by first | rfl | simp [noRoIf, noRoL, noRoV, noRoL_bys], ?_⟩
 conv => whnf
 refine Does.freeze 1 rfl (Does.tidy [(2, .ptr 0 0), (4, .ro l.length (List.take (l.length * 3) (List.drop 0 (toksC l)))), (5, .bool true)] [(0, zeroE)] 2 78 rfl rfl rfl (by kernel_rfl) (by kernel_rfl) ?_)
 rw [whole_toks]
 refine wpc_sound (M := MF2) (PL := PLre) (CU := noCut) TTok mixed _ _ _ ?_
 cases c1 : likeR l kEnt sEnt <;> rw [c1] at hlk
 ·rw [rdEnt_like hq hb hl c1]
  conv => whnf
  repeat ((first | refine ifB_f ?_ | (refine Or.inl ⟨⟨rfl, ?_⟩, ?_⟩; (focus (first | rfl | (simp; done) | (rw [toksC_length]; omega)))) | refine ⟨rfl, ?_⟩ | (refine And.intro ?_ ?_; (focus (first | (simp only [pureL, pureV, pureL_bys, Bool.and_true, Bool.and_self]; done) | (simp only [pureL, pureV, pureL_bys, pureL_toks, Bool.and_true, Bool.and_self]; done))))); conv => whnf)
  refine ⟨_, _, hlk, by first | rfl | simp [noRoIf, noRoL, noRoV, noRoL_bys], ?_⟩
  conv => whnf
  repeat ((first | refine ifB_t ?_ | refine ifB_f ?_ | refine ⟨(⟨by kernel_rfl, by kernel_rfl, Nat.le_of_ble_eq_true (by kernel_rfl)⟩ : AV.ones _ = true ∧ _ ∧ _), ?_⟩ | refine ⟨_, rfl, ?_⟩); conv => whnf)
  refine ent0_bool_dems (by kernel_rfl) ?_
  rfl
 obtain ⟨t0, t1, t2, t3, t4, t5, t6, t7, t8, t9, t10, rfl, h0, h1, h2, h3, h4, h5, h6, h7, h8, h9, h10⟩ := like_inv c1
 rw [rdEnt_yes hq h0 h1 h2 h3 h4 h5 h6 h7 h8 h9 h10]
 conv => whnf
 repeat ((first | refine ifB_f ?_ | (refine Or.inl ⟨⟨rfl, ?_⟩, ?_⟩; (focus (first | rfl | (simp; done) | (rw [toksC_length]; omega)))) | refine ⟨rfl, ?_⟩ | (refine And.intro ?_ ?_; (focus (first | (simp only [pureL, pureV, pureL_bys, Bool.and_true, Bool.and_self]; done) | (simp only [pureL, pureV, pureL_bys, pureL_toks, Bool.and_true, Bool.and_self]; done))))); conv => whnf)
 refine ⟨_, _, hlk, by first | rfl | simp [noRoIf, noRoL, noRoV, noRoL_bys], ?_⟩
 conv => whnf
 repeat ((refine ifB_f ?_); conv => whnf)
 have T := fun t (ht : t ∈ [t0, t1, t2, t3, t4, t5, t6, t7, t8, t9, t10]) => hto.1 t ht
 have B := fun t (ht : t ∈ [t0, t1, t2, t3, t4, t5, t6, t7, t8, t9, t10]) => hto.2 t ht
 simp only [List.mem_cons, List.not_mem_nil, or_false, forall_eq_or_imp, forall_eq] at T B
 obtain ⟨T0, T1, T2, T3, T4, T5, T6, T7, T8, T9, T10⟩ := T
 obtain ⟨B0, B1, B2, B3, B4, B5, B6, B7, B8, B9, B10⟩ := B
 have he : EntS ⟨t2.b, t3.n, t4.b, t5.n, t7.n, t8.b, t9.b, t10.b⟩ := { au := ⟨T2.2.2, h2.2⟩, seq := T3.2.1, prev := ⟨T4.2.2, h4.2⟩, stamp := T5.2.1, kind := T7.2.1, key := ⟨T8.2.2, by dsimp only; omega⟩, val := ⟨T9.2.2, by dsimp only; omega⟩, sig := ⟨T10.2.2, h10.2⟩, key' := by dsimp only; omega, val' := by dsimp only; omega }
 have hE := refentry_ok _ he
 have cs : ∀ x ∈ t8.b, 0 ≤ x ∧ x < 256 := fun x hx => T8.2.2 x hx
 refine Does.tidy [(2, .ptr 0 0), (4, .ro 11 (toksC [t0, t1, t2, t3, t4, t5, t6, t7, t8, t9, t10]))] [(0, zeroE), (2, ints kEnt), (3, ints sEnt)] 4 78 rfl rfl rfl (by kernel_rfl) (by kernel_rfl) ?_
 clear hd hlk hto hp c1
 refine wpc_sound (M := MF2) (PL := PLre) (CU := noCut) TTok mixed _ _ _ ?_
 conv => whnf
 refine ⟨by kernel_rfl, ?_⟩
 conv => whnf
 repeat ((first | refine ⟨rfl, ?_⟩ | refine ⟨_, rfl, ?_⟩ | (refine And.intro ?_ ?_; (focus (first | (simp [toksC_length]; done) | (simp [toksC_length]; omega))))); conv => whnf)
 refine ⟨?_, ?_⟩
 all_goals
  conv => whnf
  repeat ((first | refine ⟨rfl, ?_⟩ | (refine And.intro ?_ ?_; (focus (first | (simp [limB, lenB, offB]; done) | (simp [limB, lenB, offB]; omega))))); conv => whnf)
  refine ⟨t8.b, ⟨rfl, cs⟩, ?_⟩
  conv => whnf
  repeat ((first | refine ⟨(⟨by kernel_rfl, by kernel_rfl, Nat.le_of_ble_eq_true (by kernel_rfl)⟩ : AV.ones _ = true ∧ _ ∧ _), ?_⟩ | refine ⟨rfl, ?_⟩ | refine ⟨⟨rfl, rfl⟩, ?_⟩); conv => whnf)
  refine Does.tidy [(2, .ptr 0 0), (4, .ro 11 (toksC [t0, t1, t2, t3, t4, t5, t6, t7, t8, t9, t10])), (6, .ptr 4 0)] [(0, zeroE), (2, ints kEnt), (3, ints sEnt), (4, entC ⟨z32, t3.n, z32, t5.n, t7.n, t8.b, t9.b, z64⟩)] 5 78 rfl rfl rfl (by kernel_rfl) (by kernel_rfl) ?_
  refine wpc_sound (M := MF2) (PL := PLre) (CU := noCut) TTok mixed _ _ _ ?_
  conv => whnf
  refine ⟨by kernel_rfl, ?_⟩
  conv => whnf
  repeat ((first | (refine ⟨⟨by first | (simp only [List.drop_zero, List.length_drop, hds_len]; omega) | exact Nat.le_of_ble_eq_true (by kernel_rfl), okB_none _⟩, ?_⟩) | refine ⟨rfl, ?_⟩ | refine ⟨_, rfl, ?_⟩ | (refine And.intro ?_ ?_; (focus (first | (simp [limB, lenB, offB]; done) | (simp [limB, lenB, offB]; omega)))) | (refine And.intro ?_ ?_; (focus (first | (simp [toksC_length]; done) | (simp [toksC_length]; omega))))); conv => whnf)
  refine ⟨⟨ones_bys _, rfl, by rw [entC_length]; decide⟩, ?_⟩
  conv => whnf
  refine Does.tidy [(2, .ptr 0 0), (4, .ro 11 (toksC [t0, t1, t2, t3, t4, t5, t6, t7, t8, t9, t10])), (6, .ptr 4 0)] [(0, zeroE), (2, ints kEnt), (3, ints sEnt), (4, entC (⟨t2.b, t3.n, z32, t5.n, t7.n, t8.b, t9.b, z64⟩ : Ent))] 5 78 rfl rfl rfl (by kernel_rfl) (by rw [← set_au (e := (⟨z32, t3.n, z32, t5.n, t7.n, t8.b, t9.b, z64⟩ : Ent)) (l := t2.b) rfl h2.2]; kernel_rfl) ?_
  refine wpc_sound (M := MF2) (PL := PLre) (CU := noCut) TTok mixed _ _ _ ?_
  conv => whnf
  refine ⟨by kernel_rfl, ?_⟩
  conv => whnf
  repeat ((first | (refine ⟨⟨by first | (simp only [List.drop_zero, List.length_drop, hds_len]; omega) | exact Nat.le_of_ble_eq_true (by kernel_rfl), okB_none _⟩, ?_⟩) | refine ⟨rfl, ?_⟩ | refine ⟨_, rfl, ?_⟩ | (refine And.intro ?_ ?_; (focus (first | (simp [limB, lenB, offB]; done) | (simp [limB, lenB, offB]; omega)))) | (refine And.intro ?_ ?_; (focus (first | (simp [toksC_length]; done) | (simp [toksC_length]; omega))))); conv => whnf)
  refine ⟨⟨ones_bys _, rfl, by rw [entC_length]; decide⟩, ?_⟩
  conv => whnf
  refine Does.tidy [(2, .ptr 0 0), (4, .ro 11 (toksC [t0, t1, t2, t3, t4, t5, t6, t7, t8, t9, t10])), (6, .ptr 4 0)] [(0, zeroE), (2, ints kEnt), (3, ints sEnt), (4, entC (⟨t2.b, t3.n, t4.b, t5.n, t7.n, t8.b, t9.b, z64⟩ : Ent))] 5 78 rfl rfl rfl (by kernel_rfl) (by rw [← set_prev (e := (⟨t2.b, t3.n, z32, t5.n, t7.n, t8.b, t9.b, z64⟩ : Ent)) (l := t4.b) h2.2 rfl h4.2]; kernel_rfl) ?_
  refine wpc_sound (M := MF2) (PL := PLre) (CU := noCut) TTok mixed _ _ _ ?_
  conv => whnf
  refine ⟨by kernel_rfl, ?_⟩
  conv => whnf
  repeat ((first | (refine ⟨⟨by first | (simp only [List.drop_zero, List.length_drop, hds_len]; omega) | exact Nat.le_of_ble_eq_true (by kernel_rfl), okB_none _⟩, ?_⟩) | refine ⟨rfl, ?_⟩ | refine ⟨_, rfl, ?_⟩ | (refine And.intro ?_ ?_; (focus (first | (simp [limB, lenB, offB]; done) | (simp [limB, lenB, offB]; omega)))) | (refine And.intro ?_ ?_; (focus (first | (simp [toksC_length]; done) | (simp [toksC_length]; omega))))); conv => whnf)
  refine ⟨⟨ones_bys _, rfl, by rw [entC_length]; decide⟩, ?_⟩
  conv => whnf
  refine Does.tidy [(2, .ptr 0 0), (4, .ro 11 (toksC [t0, t1, t2, t3, t4, t5, t6, t7, t8, t9, t10])), (6, .ptr 4 0)] [(0, zeroE), (2, ints kEnt), (3, ints sEnt), (4, entC (⟨t2.b, t3.n, t4.b, t5.n, t7.n, t8.b, t9.b, t10.b⟩ : Ent))] 5 78 rfl rfl rfl (by kernel_rfl) (by rw [← set_sig (e := (⟨t2.b, t3.n, t4.b, t5.n, t7.n, t8.b, t9.b, z64⟩ : Ent)) (l := t10.b) h2.2 h4.2 rfl h10.2]; kernel_rfl) ?_
  generalize (⟨t2.b, t3.n, t4.b, t5.n, t7.n, t8.b, t9.b, t10.b⟩ : Ent) = e at he hE ⊢
  refine wpc_sound (M := MF2) (PL := PLre) (CU := noCut) TTok mixed _ _ _ ?_
  by_cases c2 : t1.n ≠ 1
  ·rw [if_pos c2]
   conv => whnf
   repeat ((first | refine ifB_t ?_ | (refine ifB_pos (decide_eq_true (by first | omega | rfl | (dsimp only; omega))) ?_) | refine ⟨(⟨by kernel_rfl, by kernel_rfl, Nat.le_of_ble_eq_true (by kernel_rfl)⟩ : AV.ones _ = true ∧ _ ∧ _), ?_⟩ | refine ⟨_, rfl, ?_⟩ | (refine And.intro ?_ ?_; (focus (first | (simp [toksC_length]; done) | (simp [toksC_length]; omega))))); conv => whnf)
   refine ent0_bool_dems (by kernel_rfl) ?_
   rfl
  rw [if_neg c2]
  conv => whnf
  repeat ((first | refine ifB_f ?_ | (refine ifB_neg (decide_eq_false (by first | omega | rfl | (dsimp only; omega))) ?_) | refine ⟨entC_pure _, ?_⟩ | refine ⟨rfl, ?_⟩ | refine ⟨_, rfl, ?_⟩ | (refine And.intro ?_ ?_; (focus (first | (simp [toksC_length]; done) | (simp [toksC_length]; omega))))); conv => whnf)
  cases c3 : entR e <;> rw [c3] at hE
  ·refine ⟨_, _, hE, by first | rfl | simp [noRoIf, noRoL, noRoV, noRoL_bys], ?_⟩
   conv => whnf
   repeat ((first | refine ifB_t ?_ | refine ifB_f ?_ | refine ⟨(⟨by kernel_rfl, by kernel_rfl, Nat.le_of_ble_eq_true (by kernel_rfl)⟩ : AV.ones _ = true ∧ _ ∧ _), ?_⟩ | refine ⟨_, rfl, ?_⟩); conv => whnf)
   refine ent0_bool_dems (by kernel_rfl) ?_
   rfl
  ·refine ⟨_, _, hE, by first | rfl | simp [noRoIf, noRoL, noRoV, noRoL_bys], ?_⟩
   conv => whnf
   repeat ((refine ifB_f ?_); conv => whnf)
   refine Does.tidy [(2, .ptr 0 0), (6, .ptr 4 0)] [(0, zeroE), (2, ints kEnt), (3, ints sEnt), (4, entC e)] 5 78 rfl rfl rfl (by kernel_rfl) (by kernel_rfl) ?_
   refine wpc_sound (M := MF2) (PL := PLre) (CU := noCut) TTok mixed _ _ _ ?_
   conv => whnf
   refine ⟨entC e, by kernel_rfl, ?_⟩
   conv => whnf
   refine ⟨(⟨by kernel_rfl, by kernel_rfl, Nat.le_of_ble_eq_true (by kernel_rfl)⟩ : AV.ones _ = true ∧ _ ∧ _), ?_⟩
   conv => whnf
   refine ⟨entC e, by kernel_rfl, ?_⟩
   conv => whnf
   refine ent_bool_dems (by kernel_rfl) ?_
   rfl
end
section
--KR
attribute [local irreducible] ifB fitP Does Weaker
def heavyE (e : Ent) : Bool := decide (100 < e.key.length) || decide (300 < e.val.length)
def heavyEs (l : List Ent) : Bool := decide (300 < l.length) || l.any heavyE
theorem heavyEs_no {l : List Ent} (h : heavyEs l = false) : l.length ≤ 300 ∧ ∀ e ∈ l, e.key.length ≤ 100 ∧ e.val.length ≤ 300 := by
 unfold heavyEs at h
 simp only [Bool.or_eq_false_iff, decide_eq_false_iff_not, Nat.not_lt, List.any_eq_false, heavyE, Bool.or_eq_true, decide_eq_true_eq, not_or] at h
 exact ⟨h.1, fun e he => by have := h.2 e he; omega⟩
theorem ent_key {l : List Ent} {j m : Nat} (h : j < l.length) (hm : m = 133 * j) : (List.drop 1 (List.drop 66 (List.drop m (rowsC entC l))))[0]? = some (.str l[j].key) := by
 rw [rowsC_at entC_length h hm]; rfl
theorem ent_val {l : List Ent} {j m : Nat} (h : j < l.length) (hm : m = 133 * j) : (List.drop 2 (List.drop 66 (List.drop m (rowsC entC l))))[0]? = some (.ro l[j].val.length (bys l[j].val)) := by
 rw [rowsC_at entC_length h hm]; rfl
set_option maxHeartbeats 1000000 in
theorem heavy11_ok (l : List Ent) : ACall Tryz.prog 15 [.ro l.length (rowsC entC l)] (.bool (heavyEs l)) [] := by
 refine ACall.of_does TTok Tryz.func15 rfl Tryz.call15 rfl (wpc_sound (M := MK) (PL := PL0) (CU := noCut) TTok mixed _ _ _ ?_)
 conv => whnf
 refine ifB_dec (fun c0 => ?_) (fun c0 => ?_)
 ·have : heavyEs l = true := by unfold heavyEs; rw [dt (show 300 < l.length by omega)]; rfl
  rw [this]
  conv => whnf
  repeat ((refine ⟨rfl, ?_⟩); conv => whnf)
  rfl
 have e0 : heavyEs l = l.any heavyE := by unfold heavyEs; rw [df (show ¬ 300 < l.length by omega)]; rfl
 conv => whnf
 refine Does.loop (fun c : Nat => mkSt [(0, .ro l.length (rowsC entC l)), (3, .int .i64 c)] [] 0 31)
  (fun c => c ≤ l.length ∧ (l.drop c).any heavyE = l.any heavyE) (fun c => l.length - c) ?_ 0 ⟨Nat.zero_le _, by rw [List.drop_zero]⟩ ?_
 ·rintro c ⟨hc, hx⟩
  rcases Nat.lt_or_ge c l.length with c1 | c1
  ·have gk : ∀ m, m = 133 * c → (List.drop 1 (List.drop 66 (List.drop m (rowsC entC l))))[0]? = some (.str l[c].key) := fun m hm => ent_key c1 hm
   have gv : ∀ m, m = 133 * c → (List.drop 2 (List.drop 66 (List.drop m (rowsC entC l))))[0]? = some (.ro l[c].val.length (bys l[c].val)) := fun m hm => ent_val c1 hm
   rw [List.drop_eq_getElem_cons c1, List.any_cons] at hx
   generalize l[c] = q at gk gv hx
   refine wpc_sound (M := MK) (PL := PL0) (CU := noCut) TTok mixed _ _ _ ?_
   by_cases k1 : 100 < q.key.length
   ·rw [show heavyE q = true by unfold heavyE; rw [dt k1]; rfl, Bool.true_or] at hx
    rw [e0, ← hx]
    conv => whnf
    repeat ((first | (refine ifB_pos (decide_eq_true (by first | omega | rfl | (dsimp only; omega))) ?_) | (refine ⟨⟨?_, ?_, ?_⟩, ?_⟩; (focus omega); (focus (first | omega | (simp; done) | (simp; omega))); (focus (first | (rw [prfs_len]; simp; omega) | (rw [ents_len]; simp; omega) | (rw [hds_len]; simp; omega) | (rw [lets_len]; simp; omega))))); conv => whnf)
    conv => whnf
    repeat' (first | (refine ifB_t ?_; (conv => whnf)) | (refine ifB_pos (decide_eq_true (by first | omega | rfl | (dsimp only; omega))) ?_; (conv => whnf)) | (refine ⟨rfl, ?_⟩; (conv => whnf)) | (refine ⟨_, gk _ (by simp; omega), ?_⟩; conv => whnf) | (refine ⟨_, gv _ (by simp; omega), ?_⟩; conv => whnf) | (rfl) | (refine ⟨_, rfl, ?_⟩; conv => whnf) | (refine And.intro ?_ ?_ <;> conv => whnf))
   ·by_cases k2 : 300 < q.val.length
    ·rw [show heavyE q = true by unfold heavyE; rw [dt k2, Bool.or_true], Bool.true_or] at hx
     rw [e0, ← hx]
     conv => whnf
     repeat ((first | (refine ifB_pos (decide_eq_true (by first | omega | rfl | (dsimp only; omega))) ?_) | (refine ⟨⟨?_, ?_, ?_⟩, ?_⟩; (focus omega); (focus (first | omega | (simp; done) | (simp; omega))); (focus (first | (rw [prfs_len]; simp; omega) | (rw [ents_len]; simp; omega) | (rw [hds_len]; simp; omega) | (rw [lets_len]; simp; omega))))); conv => whnf)
     conv => whnf
     repeat' (first | (refine ifB_f ?_; (conv => whnf)) | (refine ifB_neg (decide_eq_false (by first | omega | rfl | (dsimp only; omega))) ?_; (conv => whnf)) | (refine ifB_pos (decide_eq_true (by first | omega | rfl | (dsimp only; omega))) ?_; (conv => whnf)) | (refine ⟨rfl, ?_⟩; (conv => whnf)) | (refine ⟨⟨?_, ?_, ?_⟩, ?_⟩; (focus omega); (focus (first | omega | (simp; done) | (simp; omega))); (focus (first | (rw [prfs_len]; simp; omega) | (rw [ents_len]; simp; omega) | (rw [hds_len]; simp; omega) | (rw [lets_len]; simp; omega))); (conv => whnf)) | (refine ⟨_, gk _ (by simp; omega), ?_⟩; conv => whnf) | (refine ⟨_, gv _ (by simp; omega), ?_⟩; conv => whnf) | (rfl) | (refine ⟨_, rfl, ?_⟩; conv => whnf) | (refine And.intro ?_ ?_ <;> conv => whnf))
    ·rw [show heavyE q = false by unfold heavyE; rw [df k1, df k2]; rfl, Bool.false_or] at hx
     conv => whnf
     repeat ((first | (refine ifB_pos (decide_eq_true (by first | omega | rfl | (dsimp only; omega))) ?_) | (refine ⟨⟨?_, ?_, ?_⟩, ?_⟩; (focus omega); (focus (first | omega | (simp; done) | (simp; omega))); (focus (first | (rw [prfs_len]; simp; omega) | (rw [ents_len]; simp; omega) | (rw [hds_len]; simp; omega) | (rw [lets_len]; simp; omega))))); conv => whnf)
     conv => whnf
     repeat' (first | (refine ifB_f ?_; (conv => whnf)) | (refine ifB_neg (decide_eq_false (by first | omega | rfl | (dsimp only; omega))) ?_; (conv => whnf)) | (refine fit_i64 ⟨by first | omega | rfl | (dsimp only; omega), by first | omega | rfl | (dsimp only; omega)⟩ ?_; (conv => whnf)) | (refine ⟨⟨?_, ?_, ?_⟩, ?_⟩; (focus omega); (focus (first | omega | (simp; done) | (simp; omega))); (focus (first | (rw [prfs_len]; simp; omega) | (rw [ents_len]; simp; omega) | (rw [hds_len]; simp; omega) | (rw [lets_len]; simp; omega))); (conv => whnf)) | (refine ⟨_, gk _ (by simp; omega), ?_⟩; conv => whnf) | (refine ⟨_, gv _ (by simp; omega), ?_⟩; conv => whnf) | (exact ⟨c + 1, ⟨by omega, hx⟩, by omega, weaker_of [] rfl rfl ⟨⟨rfl, rfl, ents_pure _⟩, ⟨rfl, rfl⟩, trivial⟩ trivial⟩) | (refine ⟨_, rfl, ?_⟩; conv => whnf) | (refine And.intro ?_ ?_ <;> conv => whnf))
  ·obtain rfl : c = l.length := by omega
   rw [List.drop_length] at hx
   rw [e0, ← hx]
   refine wpc_sound (M := MK) (PL := PL0) (CU := noCut) TTok mixed _ _ _ ?_
   conv => whnf
   repeat ((first | (refine ifB_neg (decide_eq_false (by first | omega | rfl | (dsimp only; omega))) ?_) | refine ⟨rfl, ?_⟩); conv => whnf)
   rfl
 ·exact weaker_of [] rfl rfl ⟨⟨rfl, rfl, ents_pure _⟩, ⟨rfl, rfl⟩, trivial⟩ trivial
end
section
--KR
attribute [local irreducible] ifB fitP Does Weaker
def MRow : FuncId → List Mode := orElse [(29, [.bw, .bw]), (15, [.bw]), (30, []), (21, []), (48, [.rd, .rd, .rd]), (32, [.rd, .rd]), (34, [.rd]), (38, [.rd]), (17, [.rd, .rd]), (49, [.rd, .rd]), (44, [.rd]), (41, [.bw]), (18, [.rd, .rd]), (19, [.rd, .rd]), (16, [.rd]), (999999, [.rd]), (22, [.rd, .rd])] MF2
theorem entV_les {o : Nat → Option Nat} {e : Ent} (h : e.val = []) : lesP o (entC e) (entV e .nil) := by
 unfold entC entV
 rw [h]
 exact c32_les ⟨⟨rfl, rfl⟩, c32_les ⟨⟨rfl, rfl⟩, ⟨rfl, rfl⟩, rfl, ⟨rfl, rfl⟩, c64_les trivial⟩⟩
set_option maxRecDepth 20000 in
set_option maxHeartbeats 2000000 in
theorem wakes11_of (w : Ent) (b : List Int) (hl : b.length = 143) (h1 : ACall Tryz.prog 48 [.int .i64 2, .agg (c32 wkS []), .agg (entV wkE .nil)] (.tuple [.agg (entC w), .int .i64 0]) [])
  (h2 : ACall Tryz.prog 24 [.agg (entC w)] (.tuple [.ro b.length (bys b), .int .i64 0]) []) (h3 : ACall Tryz.prog 27 [.ro b.length (bys b)] (.tuple [.agg (entC w), .int .i64 0]) [])
  (h4 : ACall Tryz.prog 18 [.agg (entC w), .agg (entC w)] (.bool true) []) (h5 : ACall Tryz.prog 32 [.int .i64 2, .agg (entC w)] (.bool true) []) : ACall Tryz.prog 30 [] (.bool true) [] := by
 refine ACall.of_does TTok Tryz.func30 rfl Tryz.call30 rfl (wpc_sound (M := MRow) (PL := PL0) (CU := cutAt [100002, 100004]) TTok mixed _ _ _ ?_)
 conv => whnf
 repeat ((first | refine ⟨rfl, ?_⟩ | refine ⟨⟨rfl, rfl⟩, ?_⟩); conv => whnf)
 refine ⟨_, _, h1, by first | rfl | simp [noRoIf, noRoL, noRoV, noRoL_bys], ?_⟩
 conv => whnf
 repeat ((first | refine ⟨(⟨by kernel_rfl, by kernel_rfl, Nat.le_of_ble_eq_true (by kernel_rfl)⟩ : AV.ones _ = true ∧ _ ∧ _), ?_⟩ | refine ⟨rfl, ?_⟩); conv => whnf)
 refine Does.freeze 0 rfl (Does.tidy [(1, .rop (entC w)), (2, .int .i64 0)] [] 1 48 rfl rfl rfl (by kernel_rfl) (by kernel_rfl) ?_)
 refine wpc_sound (M := MRow) (PL := PL0) (CU := cutAt [100004]) TTok mixed _ _ _ ?_
 conv => whnf
 repeat ((first | refine ⟨entC_pure _, ?_⟩ | refine ⟨rfl, ?_⟩ | refine ⟨_, rfl, ?_⟩); conv => whnf)
 refine ⟨_, _, h2, by first | rfl | simp [noRoIf, noRoL, noRoV, noRoL_bys], ?_⟩
 conv => whnf
 repeat ((first | refine ⟨pureL_bys _, ?_⟩ | refine ⟨rfl, ?_⟩); conv => whnf)
 refine ⟨_, _, h3, by first | rfl | simp [noRoIf, noRoL, noRoV, noRoL_bys], ?_⟩
 conv => whnf
 repeat ((first | refine ⟨(⟨by kernel_rfl, by kernel_rfl, Nat.le_of_ble_eq_true (by kernel_rfl)⟩ : AV.ones _ = true ∧ _ ∧ _), ?_⟩ | refine ⟨rfl, ?_⟩); conv => whnf)
 refine Does.freeze 1 rfl (Does.tidy [(1, .rop (entC w)), (2, .int .i64 0), (3, .ro b.length (bys b)), (4, .int .i64 0), (5, .rop (entC w)), (6, .int .i64 0)] [] 2 48 rfl rfl rfl (by kernel_rfl) (by kernel_rfl) ?_)
 refine wpc_sound (M := MRow) (PL := PL0) (CU := noCut) TTok mixed _ _ _ ?_
 conv => whnf
 repeat ((first | refine ifB_t ?_ | (refine ifB_pos (decide_eq_true (by first | omega | rfl | (dsimp only; omega))) ?_) | refine ⟨entC_pure _, ?_⟩ | refine ⟨rfl, ?_⟩ | refine ⟨_, rfl, ?_⟩); conv => whnf)
 rw [dt (show (b.length : Int) = 143 by omega)]
 conv => whnf
 refine ⟨_, _, h4, by first | rfl | simp [noRoIf, noRoL, noRoV, noRoL_bys], ?_⟩
 conv => whnf
 repeat ((first | refine ifB_t ?_ | refine ⟨entC_pure _, ?_⟩ | refine ⟨rfl, ?_⟩ | refine ⟨_, rfl, ?_⟩); conv => whnf)
 refine ⟨_, _, h5, by first | rfl | simp [noRoIf, noRoL, noRoV, noRoL_bys], ?_⟩
 conv => whnf
 repeat ((first | refine ifB_t ?_ | refine ⟨rfl, ?_⟩); conv => whnf)
 rfl
theorem wake_sign {s : List Int} {e : Ent} (hv : e.val = []) {r : AV} (h : ACall Tryz.prog 48 [.int .i64 2, .agg (c32 s []), .agg (entC e)] r []) : ACall Tryz.prog 48 [.int .i64 2, .agg (c32 s []), .agg (entV e .nil)] r [] :=
 h.les (by simp [pureL, pureV, c32_pure, entV, c64_pure]) (by simp [pureL, pureV, c32_pure, entC_pure]) ⟨⟨rfl, rfl⟩, c32_les trivial, entV_les hv, trivial⟩
theorem wakes11_ok : ACall Tryz.prog 30 [] (.bool true) [] := by
 have h1 := wake_sign rfl (esign_ok wkS wkE wkS_byt rfl wkE_S wkE_R)
 have hS := signE_S wkS wkE_S
 have hL := wkE_len
 have hv : verE (signE wkS wkE) = true := (signE_ver wkS wkE).trans wkE_R
 generalize signE wkS wkE = w at h1 hS hL hv
 have h2 := (ebytes_ok _ hS).roRes2 (.inl ⟨_, _, rfl⟩)
 have hb := entB_byt hS
 have h3 := eread_ok _ hb.1 (by omega)
 rw [rdEnt_bytes hS hL.2] at h3
 have h4 := kent_ok _ _ hS hS
 rw [dt rfl] at h4
 have h5 := everify_ok _ hS
 rw [hv] at h5
 rw [hL.2] at h2
 exact wakes11_of w _ hL.1 h1 h2 h3 h4 h5
end
section
--KR
attribute [local irreducible] ifB fitP Does Weaker
set_option maxRecDepth 20000 in
set_option maxHeartbeats 4000000 in
theorem entryReads_ok (b : List Int) (hb : Byt b ∧ b.length ≤ 9223372036854775807) : ACall Tryz.prog 6 [.ro b.length (bys b)] (.bool true) [] := by
 refine ACall.of_does TTok Tryz.func6 rfl Tryz.call6 rfl (wpc_sound (M := MRow) (PL := PL0) (CU := cutAt [100005, 100006]) TTok mixed _ _ _ ?_)
 by_cases hl : b.length ≤ 1000
 case neg =>
  conv => whnf
  repeat ((first | (refine ifB_pos (decide_eq_true (by first | omega | rfl | (dsimp only; omega))) ?_) | refine ⟨rfl, ?_⟩); conv => whnf)
  rfl
 have tw := (twin_ok b (by omega)).roRes
 have h1 := eread_ok b hb.1 (by omega)
 have h2 := refread_ok b hb.1 (by omega)
 have hS := (rdEnt_entS hb.1 (show b.length ≤ 1000000000 by omega)).1
 have kk := kent_ok _ _ hS hS
 rw [dt rfl] at kk
 have bb := bytes_ok b b (by omega)
 rw [dt rfl] at bb
 have ho := rdEnt_or b
 have e1 := (ebytes_ok _ hS).roRes2 (.inl ⟨_, _, rfl⟩)
 have hi : (rdEnt b).2 = 0 → entB (rdEnt b).1 = (b, 0) := fun e => entB_read e
 clear hS
 generalize rdEnt b = q at *
 obtain ⟨m, er⟩ := q
 dsimp only at h1 h2 kk e1 hi
 conv => whnf
 repeat ((first | (refine ifB_neg (decide_eq_false (by first | omega | rfl | (dsimp only; omega))) ?_) | refine ⟨pureL_bys _, ?_⟩ | refine ⟨rfl, ?_⟩); conv => whnf)
 refine ⟨_, _, tw, by first | rfl | simp [noRoIf, noRoL, noRoV, noRoL_bys], ?_⟩
 conv => whnf
 repeat ((first | refine ⟨pureL_bys _, ?_⟩ | refine ⟨rfl, ?_⟩); conv => whnf)
 refine ⟨_, _, h1, by first | rfl | simp [noRoIf, noRoL, noRoV, noRoL_bys], ?_⟩
 conv => whnf
 repeat ((first | refine ⟨(⟨by kernel_rfl, by kernel_rfl, Nat.le_of_ble_eq_true (by kernel_rfl)⟩ : AV.ones _ = true ∧ _ ∧ _), ?_⟩ | refine ⟨rfl, ?_⟩); conv => whnf)
 refine Does.freeze 0 rfl (Does.tidy [(0, .ro b.length (bys b)), (3, .ro b.length (bys b)), (4, .rop (entC m)), (5, .int .i64 er)] [] 1 66 rfl rfl rfl (by kernel_rfl) (by kernel_rfl) ?_)
 refine wpc_sound (M := MRow) (PL := PL0) (CU := cutAt [100006]) TTok mixed _ _ _ ?_
 conv => whnf
 repeat ((first | refine ⟨pureL_bys _, ?_⟩ | refine ⟨rfl, ?_⟩); conv => whnf)
 refine ⟨_, _, h2, by first | rfl | simp [noRoIf, noRoL, noRoV, noRoL_bys], ?_⟩
 conv => whnf
 repeat ((first | refine ⟨(⟨by kernel_rfl, by kernel_rfl, Nat.le_of_ble_eq_true (by kernel_rfl)⟩ : AV.ones _ = true ∧ _ ∧ _), ?_⟩ | refine ⟨rfl, ?_⟩); conv => whnf)
 refine Does.freeze 1 rfl (Does.tidy [(0, .ro b.length (bys b)), (3, .ro b.length (bys b)), (4, .rop (entC m)), (5, .int .i64 er), (6, .rop (entC m)), (7, .bool (decide (er = 0)))] [] 2 66 rfl rfl rfl (by kernel_rfl) (by kernel_rfl) ?_)
 refine wpc_sound (M := MRow) (PL := PL0) (CU := noCut) TTok mixed _ _ _ ?_
 rcases ho with e | e
 ·obtain rfl : er = 3 := congrArg Prod.snd e
  clear e1 hi
  conv => whnf
  repeat ((first | refine ifB_t ?_ | refine ifB_f ?_ | refine ⟨entC_pure _, ?_⟩ | refine ⟨rfl, ?_⟩ | refine ⟨_, rfl, ?_⟩); conv => whnf)
  refine ⟨_, _, kk, by first | rfl | simp [noRoIf, noRoL, noRoV, noRoL_bys], ?_⟩
  conv => whnf
  repeat ((first | refine ifB_f ?_ | refine ⟨pureL_bys _, ?_⟩ | refine ⟨rfl, ?_⟩); conv => whnf)
  refine ⟨_, _, bb, by first | rfl | simp [noRoIf, noRoL, noRoV, noRoL_bys], ?_⟩
  conv => whnf
  repeat ((first | refine ifB_t ?_ | refine ifB_f ?_ | refine ⟨rfl, ?_⟩); conv => whnf)
  refine ⟨_, _, wakes11_ok, by first | rfl | simp [noRoIf, noRoL, noRoV, noRoL_bys], ?_⟩
  conv => whnf
  repeat ((refine ⟨rfl, ?_⟩); conv => whnf)
  rfl
 ·obtain rfl : er = 0 := e
  rw [hi rfl] at e1
  conv => whnf
  repeat ((first | refine ifB_f ?_ | refine ⟨entC_pure _, ?_⟩ | refine ⟨rfl, ?_⟩ | refine ⟨_, rfl, ?_⟩); conv => whnf)
  refine ⟨_, _, kk, by first | rfl | simp [noRoIf, noRoL, noRoV, noRoL_bys], ?_⟩
  conv => whnf
  repeat ((first | refine ifB_f ?_ | refine ⟨pureL_bys _, ?_⟩ | refine ⟨rfl, ?_⟩); conv => whnf)
  refine ⟨_, _, bb, by first | rfl | simp [noRoIf, noRoL, noRoV, noRoL_bys], ?_⟩
  conv => whnf
  repeat ((first | refine ifB_f ?_ | refine ⟨entC_pure _, ?_⟩ | refine ⟨rfl, ?_⟩ | refine ⟨_, rfl, ?_⟩); conv => whnf)
  refine ⟨_, _, e1, by first | rfl | simp [noRoIf, noRoL, noRoV, noRoL_bys], ?_⟩
  conv => whnf
  repeat ((first | refine ifB_t ?_ | refine ⟨pureL_bys _, ?_⟩ | refine ⟨rfl, ?_⟩); conv => whnf)
  refine ⟨_, _, bb, by first | rfl | simp [noRoIf, noRoL, noRoV, noRoL_bys], ?_⟩
  conv => whnf
  repeat ((first | refine ifB_t ?_ | refine ⟨rfl, ?_⟩); conv => whnf)
  refine ⟨_, _, wakes11_ok, by first | rfl | simp [noRoIf, noRoL, noRoV, noRoL_bys], ?_⟩
  conv => whnf
  repeat ((first | refine ifB_t ?_ | refine ⟨rfl, ?_⟩); conv => whnf)
  rfl
end
section

open Go Go.Shelf Go.Lib
theorem first_eq : ∀ c : Fin 256, firstT c.val = utf8First.getD c.val 0 := by decide +kernel
theorem acc_eq : ∀ i : Fin 16, accLo i.val = utf8Ranges.getD (2 * i.val) 0 ∧ accHi i.val = utf8Ranges.getD (2 * i.val + 1) 0 := by decide +kernel
theorem tabOk_of {W : World} (h : Lib.Utf8Tabs 1 2 W) : TabOk (env0 W) := by
 obtain ⟨h1, h2⟩ := h
 have l1 : utf8First.length = 256 := by decide +kernel
 have l2 : utf8Ranges.length = 32 := by decide +kernel
 have s0 : 1 < W.heap.size := World.block_lt_of_cell? _ _ (h1 0 (by omega))
 have s1 : 2 < W.heap.size := World.block_lt_of_cell? _ _ (h2 0 (by omega)).1
 intro g k l hg
 unfold tabs at hg
 by_cases g0 : g = 1
 ·subst g0
  simp only [Nat.beq_refl, cond_true, Option.some.injEq, Prod.mk.injEq] at hg
  obtain ⟨rfl, rfl⟩ := hg
  refine ⟨s0, fun hv => hv, fun j x hx => ?_⟩
  have hj : j < 256 := by rw [← l1]; exact (List.getElem?_eq_some_iff.1 hx).1
  have := h1 j hj
  have e := first_eq ⟨j, hj⟩
  simp only at e
  rw [e, List.getD_eq_getElem?_getD, hx] at this
  exact this
 ·have hb : Nat.beq g 1 = false := by
   cases hh : Nat.beq g 1
   ·rfl
   ·exact absurd (Nat.eq_of_beq_eq_true hh) g0
  rw [hb, cond_false] at hg
  by_cases g1 : g = 2
  ·subst g1
   simp only [Nat.beq_refl, cond_true, Option.some.injEq, Prod.mk.injEq] at hg
   obtain ⟨rfl, rfl⟩ := hg
   refine ⟨s1, fun hv => hv, fun j x hx => ?_⟩
   have hj : j < 32 := by rw [← l2]; exact (List.getElem?_eq_some_iff.1 hx).1
   have e := acc_eq ⟨j / 2, by omega⟩
   obtain ⟨q1, q2⟩ := h2 (j / 2) (by omega)
   simp only at e
   rw [e.1] at q1
   rw [e.2] at q2
   rcases Nat.mod_two_eq_zero_or_one j with hm | hm
   ·have ej : 2 * (j / 2) = j := by omega
    rw [ej, List.getD_eq_getElem?_getD, hx] at q1
    exact q1
   ·have ej : 2 * (j / 2) + 1 = j := by omega
    rw [ej, List.getD_eq_getElem?_getD, hx] at q2
    exact q2
  ·have hb : Nat.beq g 2 = false := by
    cases hh : Nat.beq g 2
    ·rfl
    ·exact absurd (Nat.eq_of_beq_eq_true hh) g1
   rw [hb, cond_false] at hg
   cases hg
def utRen : Ren := ⟨fun x => x, fun n => if n = 5 then 5 else if n = 119 then 166 else if n = 138 then 168 else 169, fun n => if n = 3 then 1 else 2⟩
theorem tabOk_of_laid {W : World} (hL : laidMet Tryz.prog [("unicode/utf8.acceptRanges", Rows.laid_unicode_utf8_acceptRanges), ("unicode/utf8.first", Rows.laid_unicode_utf8_first)] W) : TabOk (env0 W) := by
 have e1 : Rows.laid_unicode_utf8_first = Lib.firstData := Pinned.utf8First_eq
 have e2 : (Rows.laid_unicode_utf8_acceptRanges : DataW Unit) = Lib.acceptData := by kernel_rfl
 rw [e1, e2] at hL
 exact tabOk_of (utf8Tabs_of_readsT (P := Tryz.prog) (ρ := utRen) ⟨by kernel_rfl, by kernel_rfl, by kernel_rfl, by kernel_rfl⟩ ⟨by kernel_rfl, by kernel_rfl, by kernel_rfl, by kernel_rfl, by kernel_rfl, by kernel_rfl, by kernel_rfl⟩
  (Lib.laidMet.reads hL (.tail _ (.head _))) (Lib.laidMet.reads hL (.head _)))
end
section
--KR
attribute [local irreducible] ifB fitP Does Weaker
theorem cmp_neg (x y : List Int) : decide (cmpI x y < 0) = bytesLt x y := by
 unfold cmpI
 cases h : bytesLt x y
 ·simp; split <;> omega
 ·simp
theorem prfR_eq {p : Prf} (hp : PrfS p) : prfR p = (entR p.a && entR p.b && decide (p.a.au = p.b.au) && decide (p.a.seq = p.b.seq) && bytesLt (encR validR (entTs p.a)).1 (encR validR (entTs p.b)).1) := by
 unfold prfR ordR
 rw [← entB_err hp.a, ← entB_err hp.b]
 by_cases c1 : (entB p.a).2 = 0
 ·by_cases c2 : (entB p.b).2 = 0
  ·rw [if_neg (by omega), if_neg (by omega), dt c1, dt c2]
   have x1 : (encR validR (entTs p.a)).1 = (entB p.a).1 := by rw [(entB_right c1).2]
   have x2 : (encR validR (entTs p.b)).1 = (entB p.b).1 := by rw [(entB_right c2).2]
   rw [x1, x2]
   by_cases c3 : p.a.au = p.b.au
   ·by_cases c4 : p.a.seq = p.b.seq
    ·rw [if_neg (fun h => h c3), if_neg (fun h => h c4), dt c3, dt c4, cmp_neg]; rfl
    ·rw [if_neg (fun h => h c3), if_pos c4, dt c3, df c4]; rfl
   ·rw [if_pos c3, df c3]; rfl
  ·rw [if_neg (by omega), if_pos c2, dt c1, df c2]; rfl
 ·rw [if_pos c1, df c1]; rfl
theorem enc_byt {e : Ent} (he : EntS e) : Byt (encR validR (entTs e)).1 := encR_byt _ (entTs_ok e he).1
def PLrp : Nat → Bool × Plan := plans [(1, (false, (takesTo [0, 1] (.all [(2, (takesTo [3, 4, 5] (.all [(6, (takesTo [7, 8, 9, 10, 11, 12, 13, 14, 15, 16, 17, 18, 19, 20, 21, 22, 23, 24, 25, 26, 27, 28, 31, 32] (.all [(29, (.all [(30, (.all [(33, (.all [(34, (takes [35, 36, 37]))]))])), (33, (.all [(30, (.all [(34, (takes [35, 36, 37]))])), (34, (.all [(30, (takes [35, 36, 37]))]))]))]))])))])))]))))]
set_option maxRecDepth 20000 in
set_option maxHeartbeats 4000000 in
theorem refproof_ok (p : Prf) (hp : PrfS p) : ACall Tryz.prog 42 [.agg (prfC p)] (.bool (prfR p)) [] := by
 rw [prfR_eq hp]
 have h1 := refentry_ok p.a hp.a
 have h2 := refentry_ok p.b hp.b
 have h3 := refebytes_ok p.a hp.a
 have h4 := refebytes_ok p.b hp.b
 have b1 := enc_byt hp.a
 have b2 := enc_byt hp.b
 generalize (encR validR (entTs p.a)).1 = x at h3 b1 ⊢
 generalize (encR validR (entTs p.b)).1 = y at h4 b2 ⊢
 refine ACall.of_does TTok Tryz.func42 rfl Tryz.call42 rfl (wpc_sound (M := MF) (PL := PLrp) (CU := cutAt [100001]) TTok mixed _ _ _ ?_)
 conv => whnf
 repeat ((refine ⟨rfl, ?_⟩); conv => whnf)
 refine Does.freeze 0 rfl (Does.tidy [(1, .rop (prfC p))] [] 1 40 rfl rfl rfl (by kernel_rfl) (by kernel_rfl) ?_)
 refine wpc_sound (M := MF) (PL := PLrp) (CU := noCut) TTok mixed _ _ _ ?_
 conv => whnf
 refine ⟨by kernel_rfl, ?_⟩
 cases c1 : entR p.a <;> rw [c1] at h1
 ·conv => whnf
  repeat ((first | refine ⟨entC_pure _, ?_⟩ | refine ⟨rfl, ?_⟩ | refine ⟨_, rfl, ?_⟩); conv => whnf)
  refine ⟨_, _, h1, by first | rfl | simp [noRoIf, noRoL, noRoV, noRoL_bys], ?_⟩
  conv => whnf
  repeat ((first | refine ifB_f ?_ | refine ⟨rfl, ?_⟩); conv => whnf)
  conv => whnf
  repeat' (first | (refine ifB_f ?_; (conv => whnf)) | (refine ⟨rfl, ?_⟩; (conv => whnf)) | (rfl) | (refine ⟨_, rfl, ?_⟩; conv => whnf) | (refine And.intro ?_ ?_ <;> conv => whnf))
 cases c2 : entR p.b <;> rw [c2] at h2
 ·conv => whnf
  repeat ((first | refine ⟨entC_pure _, ?_⟩ | refine ⟨rfl, ?_⟩ | refine ⟨_, rfl, ?_⟩); conv => whnf)
  refine ⟨_, _, h1, by first | rfl | simp [noRoIf, noRoL, noRoV, noRoL_bys], ?_⟩
  conv => whnf
  repeat ((first | refine ifB_t ?_ | refine ⟨entC_pure _, ?_⟩ | refine ⟨rfl, ?_⟩ | refine ⟨_, rfl, ?_⟩); conv => whnf)
  refine ⟨_, _, h2, by first | rfl | simp [noRoIf, noRoL, noRoV, noRoL_bys], ?_⟩
  conv => whnf
  repeat ((first | refine ifB_t ?_ | refine ifB_f ?_ | refine ⟨rfl, ?_⟩); conv => whnf)
  conv => whnf
  repeat' (first | (refine ifB_f ?_; (conv => whnf)) | (refine ⟨rfl, ?_⟩; (conv => whnf)) | (rfl) | (refine ⟨_, rfl, ?_⟩; conv => whnf) | (refine And.intro ?_ ?_ <;> conv => whnf))
 by_cases c3 : p.a.au = p.b.au
 ·rw [dt c3]
  by_cases c4 : p.a.seq = p.b.seq
  ·rw [dt c4]
   conv => whnf
   repeat ((first | refine ⟨entC_pure _, ?_⟩ | refine ⟨rfl, ?_⟩ | refine ⟨_, rfl, ?_⟩); conv => whnf)
   refine ⟨_, _, h1, by first | rfl | simp [noRoIf, noRoL, noRoV, noRoL_bys], ?_⟩
   conv => whnf
   repeat ((first | refine ifB_t ?_ | refine ⟨entC_pure _, ?_⟩ | refine ⟨rfl, ?_⟩ | refine ⟨_, rfl, ?_⟩); conv => whnf)
   refine ⟨_, _, h2, by first | rfl | simp [noRoIf, noRoL, noRoV, noRoL_bys], ?_⟩
   conv => whnf
   repeat ((first | refine ifB_t ?_ | refine ⟨rfl, ?_⟩ | refine ⟨_, rfl, ?_⟩); conv => whnf)
   refine ⟨p.a.au, p.b.au, ⟨rfl, c32_map hp.a.au.2, c32_map hp.b.au.2, hp.a.au.2, hp.b.au.2⟩, ?_⟩
   conv => whnf
   repeat ((first | refine ifB_t ?_ | (refine ifB_pos (decide_eq_true (by first | omega | rfl | (dsimp only; omega))) ?_) | refine ⟨entC_pure _, ?_⟩ | refine ⟨rfl, ?_⟩ | refine ⟨_, rfl, ?_⟩); conv => whnf)
   rw [dt c3]
   conv => whnf
   refine ⟨_, _, h3, by first | rfl | simp [noRoIf, noRoL, noRoV, noRoL_bys], ?_⟩
   conv => whnf
   refine ⟨?_, ?_⟩
   ·conv => whnf
    repeat ((first | refine ifB_t ?_ | (refine Or.inl ⟨⟨rfl, ?_⟩, ?_⟩; (focus (first | rfl | (simp; done) | (rw [toksC_length]; omega))))); conv => whnf)
    refine ⟨x, ⟨by first | rfl | (simp [bys]; done) | exact whole_bys x, b1⟩, ?_⟩
    conv => whnf
    repeat ((first | refine ifB_t ?_ | refine ⟨entC_pure _, ?_⟩ | refine ⟨rfl, ?_⟩); conv => whnf)
    refine ⟨_, _, h4, by first | rfl | simp [noRoIf, noRoL, noRoV, noRoL_bys], ?_⟩
    conv => whnf
    repeat ((first | refine ifB_t ?_ | (refine Or.inl ⟨⟨rfl, ?_⟩, ?_⟩; (focus (first | rfl | (simp; done) | (rw [toksC_length]; omega))))); conv => whnf)
    refine ⟨y, ⟨by first | rfl | (simp [bys]; done) | exact whole_bys y, b2⟩, ?_⟩
    conv => whnf
    repeat ((first | refine ifB_t ?_ | refine ⟨rfl, ?_⟩); conv => whnf)
    rfl
   ·conv => whnf
    repeat ((first | refine ifB_t ?_ | refine ⟨entC_pure _, ?_⟩ | refine ⟨rfl, ?_⟩); conv => whnf)
    refine ⟨_, _, h4, by first | rfl | simp [noRoIf, noRoL, noRoV, noRoL_bys], ?_⟩
    conv => whnf
    refine ⟨?_, ?_⟩
    ·conv => whnf
     repeat ((first | refine ifB_t ?_ | (refine Or.inl ⟨⟨rfl, ?_⟩, ?_⟩; (focus (first | rfl | (simp; done) | (rw [toksC_length]; omega))))); conv => whnf)
     refine ⟨x, ⟨by first | rfl | (simp [bys]; done) | exact whole_bys x, b1⟩, ?_⟩
     conv => whnf
     repeat ((first | refine ifB_t ?_ | (refine Or.inl ⟨⟨rfl, ?_⟩, ?_⟩; (focus (first | rfl | (simp; done) | (rw [toksC_length]; omega))))); conv => whnf)
     refine ⟨y, ⟨by first | rfl | (simp [bys]; done) | exact whole_bys y, b2⟩, ?_⟩
     conv => whnf
     repeat ((first | refine ifB_t ?_ | refine ⟨rfl, ?_⟩); conv => whnf)
     rfl
    ·conv => whnf
     repeat ((first | refine ifB_t ?_ | (refine Or.inl ⟨⟨rfl, ?_⟩, ?_⟩; (focus (first | rfl | (simp; done) | (rw [toksC_length]; omega))))); conv => whnf)
     refine ⟨y, ⟨by first | rfl | (simp [bys]; done) | exact whole_bys y, b2⟩, ?_⟩
     conv => whnf
     repeat ((first | refine ifB_t ?_ | (refine Or.inl ⟨⟨rfl, ?_⟩, ?_⟩; (focus (first | rfl | (simp; done) | (rw [toksC_length]; omega))))); conv => whnf)
     refine ⟨x, ⟨by first | rfl | (simp [bys]; done) | exact whole_bys x, b1⟩, ?_⟩
     conv => whnf
     repeat ((first | refine ifB_t ?_ | refine ⟨rfl, ?_⟩); conv => whnf)
     rfl
  ·rw [df c4]
   conv => whnf
   repeat ((first | refine ⟨entC_pure _, ?_⟩ | refine ⟨rfl, ?_⟩ | refine ⟨_, rfl, ?_⟩); conv => whnf)
   refine ⟨_, _, h1, by first | rfl | simp [noRoIf, noRoL, noRoV, noRoL_bys], ?_⟩
   conv => whnf
   repeat ((first | refine ifB_t ?_ | refine ⟨entC_pure _, ?_⟩ | refine ⟨rfl, ?_⟩ | refine ⟨_, rfl, ?_⟩); conv => whnf)
   refine ⟨_, _, h2, by first | rfl | simp [noRoIf, noRoL, noRoV, noRoL_bys], ?_⟩
   conv => whnf
   repeat ((first | refine ifB_t ?_ | refine ⟨rfl, ?_⟩ | refine ⟨_, rfl, ?_⟩); conv => whnf)
   refine ⟨p.a.au, p.b.au, ⟨rfl, c32_map hp.a.au.2, c32_map hp.b.au.2, hp.a.au.2, hp.b.au.2⟩, ?_⟩
   conv => whnf
   repeat ((first | refine ifB_t ?_ | refine ifB_f ?_ | (refine ifB_neg (decide_eq_false (by first | omega | rfl | (dsimp only; omega))) ?_) | (refine ifB_pos (decide_eq_true (by first | omega | rfl | (dsimp only; omega))) ?_) | refine ⟨rfl, ?_⟩ | refine ⟨_, rfl, ?_⟩); conv => whnf)
   rw [dt c3]
   conv => whnf
   conv => whnf
   repeat' (first | (refine ifB_f ?_; (conv => whnf)) | (refine ⟨rfl, ?_⟩; (conv => whnf)) | (rfl) | (refine ⟨_, rfl, ?_⟩; conv => whnf) | (refine And.intro ?_ ?_ <;> conv => whnf))
 ·rw [df c3]
  conv => whnf
  repeat ((first | refine ⟨entC_pure _, ?_⟩ | refine ⟨rfl, ?_⟩ | refine ⟨_, rfl, ?_⟩); conv => whnf)
  refine ⟨_, _, h1, by first | rfl | simp [noRoIf, noRoL, noRoV, noRoL_bys], ?_⟩
  conv => whnf
  repeat ((first | refine ifB_t ?_ | refine ⟨entC_pure _, ?_⟩ | refine ⟨rfl, ?_⟩ | refine ⟨_, rfl, ?_⟩); conv => whnf)
  refine ⟨_, _, h2, by first | rfl | simp [noRoIf, noRoL, noRoV, noRoL_bys], ?_⟩
  conv => whnf
  repeat ((first | refine ifB_t ?_ | refine ⟨rfl, ?_⟩ | refine ⟨_, rfl, ?_⟩); conv => whnf)
  refine ⟨p.a.au, p.b.au, ⟨rfl, c32_map hp.a.au.2, c32_map hp.b.au.2, hp.a.au.2, hp.b.au.2⟩, ?_⟩
  conv => whnf
  repeat ((first | refine ifB_t ?_ | refine ifB_f ?_ | (refine ifB_neg (decide_eq_false (by first | omega | rfl | (dsimp only; omega))) ?_) | refine ⟨rfl, ?_⟩); conv => whnf)
  rw [df c3]
  conv => whnf
  conv => whnf
  repeat' (first | (refine ifB_f ?_; (conv => whnf)) | (refine ⟨rfl, ?_⟩; (conv => whnf)) | (rfl) | (refine ⟨_, rfl, ?_⟩; conv => whnf) | (refine And.intro ?_ ?_ <;> conv => whnf))
end
section
--KR
attribute [local irreducible] ifB fitP Does Weaker
end
section
--KR
attribute [local irreducible] ifB fitP Does Weaker demsP
def kPrf : List Int := [5, 1, 3, 3]
def sPrf : List Int := [3, -1, -1, -1]
theorem like_prf (x y : List Int) : likeR [⟨5, 3, []⟩, ⟨1, 2, []⟩, ⟨3, 0, x⟩, ⟨3, 0, y⟩] kPrf sPrf = true := by
 unfold likeR
 simp [List.range_succ, likeAt, kPrf, sPrf]
theorem like_inv4 {l : List Tok} (h : likeR l kPrf sPrf = true) : ∃ t0 t1 t2 t3 : Tok, l = [t0, t1, t2, t3] ∧ (t0.k = 5 ∧ t0.n = 3) ∧ t1.k = 1 ∧ t2.k = 3 ∧ t3.k = 3 := by
 unfold likeR at h
 rw [Bool.and_eq_true] at h
 obtain ⟨h1, h2⟩ := h
 have h1 := of_decide_eq_true h1
 match l, h1 with
 | [t0, t1, t2, t3], _ =>
  refine ⟨t0, t1, t2, t3, rfl, ?_⟩
  rw [List.all_eq_true] at h2
  have g := fun i (hi : i < 4) => h2 i (List.mem_range.2 hi)
  have g0 := g 0 (by decide); have g1 := g 1 (by decide); have g2 := g 2 (by decide); have g3 := g 3 (by decide)
  simp [likeAt, kPrf, sPrf] at g0 g1 g2 g3
  have a0 := g0.1
  rw [a0] at g0
  simp at g0
  exact ⟨⟨a0, g0⟩, g1, g2, g3⟩
theorem prfB_dec {p : Prf} (hp : PrfS p) {b : List Int} (h : prfB p = (b, 0)) : decR validR b = ([⟨5, 3, []⟩, ⟨1, 2, []⟩, ⟨3, 0, (entB p.a).1⟩, ⟨3, 0, (entB p.b).1⟩], 0) := by
 unfold prfB at h
 split at h
 ·exact decR_enc (prf_toks hp) h
 ·cases h
theorem rdPrf_or (b : List Int) : rdPrf b = (prf0, 3) ∨ (rdPrf b).2 = 0 := rdP_or _
theorem rdPrf_no {b : List Int} (h : ∀ x y, decR validR b ≠ ([⟨5, 3, []⟩, ⟨1, 2, []⟩, ⟨3, 0, x⟩, ⟨3, 0, y⟩], 0)) (hb : Byt b) (hl : b.length ≤ 1000000000) : rdPrf b = (prf0, 3) := by
 rcases rdPrf_or b with h' | h'
 ·exact h'
 ·exact absurd (prfB_dec (rdPrf_prfS hb hl).1 (rdPrf_inv h').1) (h _ _)
theorem rdPrf_yes {b : List Int} {t0 t1 t2 t3 : Tok} (hd : decR validR b = ([t0, t1, t2, t3], 0)) (h0 : t0.k = 5 ∧ t0.n = 3) (h1 : t1.k = 1) (h2 : t2.k = 3) (h3 : t3.k = 3) :
  rdPrf b = if t1.n ≠ 2 then (prf0, 3) else if (rdEnt t2.b).2 ≠ 0 then (prf0, 3) else if (rdEnt t3.b).2 ≠ 0 then (prf0, 3) else if prfR ⟨(rdEnt t2.b).1, (rdEnt t3.b).1⟩ = true then (⟨(rdEnt t2.b).1, (rdEnt t3.b).1⟩, 0) else (prf0, 3) := by
 have ho : rOpen b = ⟨[t0, t1, t2, t3], false⟩ := by unfold rOpen; rw [hd]; rfl
 split
 ·rename_i c
  rcases rdPrf_or b with h' | h'
  ·exact h'
  ·exfalso
   unfold rdPrf at h'
   obtain ⟨u2, u3, e, _⟩ := rdP_inv h'
   obtain ⟨v0, v1, q, e1, _, _, _, n1, _⟩ := rWant_inv (m := 3) (f := 2) (r := rOpen b) (by rw [e])
   rw [ho] at e1
   injection e1 with e1 _
   injection e1 with _ e1
   injection e1 with e1 _
   subst e1
   exact c n1
 ·rename_i c
  unfold rdPrf
  rw [ho, rWant_cons h0.1 h0.2 h1 (Classical.not_not.1 c), rdP_cons h2 h3]
theorem prf_bool_dems {H : Heap} {p : Prf} {n : Bool} {zs : List AV} {K : List Nat → Prop} (hz : zs = prfC p) (h : K []) : demsP H [.tuple [.agg (prfC p), .bool n]] [.tuple [.agg zs, .bool n]] K := by
 subst hz
 simp only [demsP, demP]
 refine ent_dems' p.a ?_
 refine ent_dems p.b ?_
 simpa only [and_self, true_and, List.nil_append] using h
theorem prf0_bool_dems {H : Heap} {n : Bool} {zs : List AV} {K : List Nat → Prop} (hz : zs = zeroE ++ zeroE) (h : K []) : demsP H [.tuple [.agg (prfC prf0), .bool n]] [.tuple [.agg zs, .bool n]] K := by
 subst hz
 simp only [demsP, demP]
 refine ent0_dems' ?_
 refine ent0_dems ?_
 simpa only [and_self, true_and, List.nil_append] using h
set_option maxRecDepth 20000 in
set_option maxHeartbeats 4000000 in
theorem refpread_ok (b : List Int) (hb : Byt b) (hl : b.length ≤ 1000000000) : ACall Tryz.prog 40 [.ro b.length (bys b)] (.tuple [.agg (prfC (rdPrf b).1), .bool (decide ((rdPrf b).2 = 0))]) [] := by
 have hd := refDecode_ok b hb (by omega)
 refine ACall.of_does TTok Tryz.func40 rfl Tryz.call40 rfl (wpc_sound (M := MF2) (PL := PL0) (CU := cutAt [100002, 100004, 100005, 100006, 100007, 100009]) TTok mixed _ _ _ ?_)
 rcases decR_or validR b with hq | ⟨l, hq, _, hp⟩
 ·have hr : rdPrf b = (prf0, 3) := rdPrf_no (fun x y he => by rw [he] at hq; cases hq) hb hl
  rw [hq] at hd
  rw [hr]
  conv => whnf
  repeat ((first | refine ⟨pureL_bys _, ?_⟩ | refine ⟨rfl, ?_⟩); conv => whnf)
  refine ⟨_, _, hd, by first | rfl | simp [noRoIf, noRoL, noRoV, noRoL_bys], ?_⟩
  conv => whnf
  refine wpc_sound (M := MF2) (PL := PL0) (CU := noCut) TTok mixed _ _ _ ?_
  conv => whnf
  repeat ((first | refine ifB_t ?_ | refine ⟨(⟨by kernel_rfl, by kernel_rfl, Nat.le_of_ble_eq_true (by kernel_rfl)⟩ : AV.ones _ = true ∧ _ ∧ _), ?_⟩ | refine ⟨_, rfl, ?_⟩); conv => whnf)
  refine prf0_bool_dems (by kernel_rfl) ?_
  rfl
 have hto := pItem_toks b hb 7 ⟨0, [], false⟩ ⟨by simp [ToksOk], by simp⟩
 rw [hp] at hto
 have hlen : l.length ≤ 600 := by
  have := rOpen_len b
  unfold rOpen at this
  rw [hq] at this
  exact this
 rw [hq] at hd
 have hlk := like_ok l kPrf sPrf rfl (by omega) (by decide)
 conv => whnf
 repeat ((first | refine ⟨pureL_bys _, ?_⟩ | refine ⟨rfl, ?_⟩); conv => whnf)
 refine ⟨_, _, hd, by first | rfl | simp [noRoIf, noRoL, noRoV, noRoL_bys], ?_⟩
 conv => whnf
 refine Does.freeze 1 rfl (Does.tidy [(2, .ptr 0 0), (4, .ro l.length (List.take (l.length * 3) (List.drop 0 (toksC l)))), (5, .bool true)] [(0, zeroE ++ zeroE)] 2 65 rfl rfl rfl (by kernel_rfl) (by kernel_rfl) ?_)
 rw [whole_toks]
 refine wpc_sound (M := MF2) (PL := PL0) (CU := noCut) TTok mixed _ _ _ ?_
 cases c1 : likeR l kPrf sPrf <;> rw [c1] at hlk
 ·rw [rdPrf_no (fun x y he => by rw [hq] at he; injection he with he _; rw [he, like_prf] at c1; cases c1) hb hl]
  conv => whnf
  repeat ((first | refine ifB_f ?_ | (refine Or.inl ⟨⟨rfl, ?_⟩, ?_⟩; (focus (first | rfl | (simp; done) | (rw [toksC_length]; omega)))) | refine ⟨rfl, ?_⟩ | (refine And.intro ?_ ?_; (focus (first | (simp only [pureL, pureV, pureL_bys, Bool.and_true, Bool.and_self]; done) | (simp only [pureL, pureV, pureL_bys, pureL_toks, Bool.and_true, Bool.and_self]; done))))); conv => whnf)
  refine ⟨_, _, hlk, by first | rfl | simp [noRoIf, noRoL, noRoV, noRoL_bys], ?_⟩
  conv => whnf
  repeat ((first | refine ifB_t ?_ | refine ifB_f ?_ | refine ⟨(⟨by kernel_rfl, by kernel_rfl, Nat.le_of_ble_eq_true (by kernel_rfl)⟩ : AV.ones _ = true ∧ _ ∧ _), ?_⟩ | refine ⟨_, rfl, ?_⟩); conv => whnf)
  refine prf0_bool_dems (by kernel_rfl) ?_
  rfl
 obtain ⟨t0, t1, t2, t3, rfl, h0, h1, h2, h3⟩ := like_inv4 c1
 rw [rdPrf_yes hq h0 h1 h2 h3]
 conv => whnf
 repeat ((first | refine ifB_f ?_ | (refine Or.inl ⟨⟨rfl, ?_⟩, ?_⟩; (focus (first | rfl | (simp; done) | (rw [toksC_length]; omega)))) | refine ⟨rfl, ?_⟩ | (refine And.intro ?_ ?_; (focus (first | (simp only [pureL, pureV, pureL_bys, Bool.and_true, Bool.and_self]; done) | (simp only [pureL, pureV, pureL_bys, pureL_toks, Bool.and_true, Bool.and_self]; done))))); conv => whnf)
 refine ⟨_, _, hlk, by first | rfl | simp [noRoIf, noRoL, noRoV, noRoL_bys], ?_⟩
 conv => whnf
 repeat ((refine ifB_f ?_); conv => whnf)
 have T := fun t (ht : t ∈ [t0, t1, t2, t3]) => hto.1 t ht
 have B := fun t (ht : t ∈ [t0, t1, t2, t3]) => hto.2 t ht
 simp only [List.mem_cons, List.not_mem_nil, or_false, forall_eq_or_imp, forall_eq] at T B
 obtain ⟨T0, T1, T2, T3⟩ := T
 obtain ⟨B0, B1, B2, B3⟩ := B
 have h5 := refread_ok t2.b T2.2.2 (by omega)
 have e5 := (rdEnt_entS T2.2.2 (show t2.b.length ≤ 1000000000 by omega)).1
 generalize rdEnt t2.b = q at h5 e5 ⊢
 obtain ⟨x, e⟩ := q
 have h6 := refread_ok t3.b T3.2.2 (by omega)
 have e6 := (rdEnt_entS T3.2.2 (show t3.b.length ≤ 1000000000 by omega)).1
 generalize rdEnt t3.b = q at h6 e6 ⊢
 obtain ⟨y, f⟩ := q
 dsimp only at h5 e5 h6 e6 ⊢
 have h7 := refproof_ok ⟨x, y⟩ ⟨e5, e6⟩
 refine Does.tidy [(2, .ptr 0 0), (4, .ro 4 (toksC [t0, t1, t2, t3]))] [(0, zeroE ++ zeroE), (2, ints kPrf), (3, ints sPrf)] 4 65 rfl rfl rfl (by kernel_rfl) (by kernel_rfl) ?_
 clear hd hlk hto hp c1
 refine wpc_sound (M := MF2) (PL := PL0) (CU := noCut) TTok mixed _ _ _ ?_
 conv => whnf
 repeat ((first | refine ⟨pureL_bys _, ?_⟩ | refine ⟨rfl, ?_⟩ | refine ⟨_, rfl, ?_⟩ | (refine And.intro ?_ ?_; (focus (first | (simp [toksC_length]; done) | (simp [toksC_length]; omega))))); conv => whnf)
 refine ⟨_, _, h5, by first | rfl | simp [noRoIf, noRoL, noRoV, noRoL_bys], ?_⟩
 conv => whnf
 repeat ((first | refine ⟨(⟨by kernel_rfl, by kernel_rfl, Nat.le_of_ble_eq_true (by kernel_rfl)⟩ : AV.ones _ = true ∧ _ ∧ _), ?_⟩ | refine ⟨rfl, ?_⟩); conv => whnf)
 refine Does.tidy [(2, .ptr 0 0), (4, .ro 4 (toksC [t0, t1, t2, t3])), (6, .ptr 4 0), (7, .bool (decide (e = 0)))] [(0, zeroE ++ zeroE), (2, ints kPrf), (3, ints sPrf), (4, entC x)] 5 65 rfl rfl rfl (by kernel_rfl) (by kernel_rfl) ?_
 refine wpc_sound (M := MF2) (PL := PL0) (CU := noCut) TTok mixed _ _ _ ?_
 conv => whnf
 repeat ((first | refine ⟨pureL_bys _, ?_⟩ | refine ⟨rfl, ?_⟩ | refine ⟨_, rfl, ?_⟩ | (refine And.intro ?_ ?_; (focus (first | (simp [toksC_length]; done) | (simp [toksC_length]; omega))))); conv => whnf)
 refine ⟨_, _, h6, by first | rfl | simp [noRoIf, noRoL, noRoV, noRoL_bys], ?_⟩
 conv => whnf
 repeat ((first | refine ⟨(⟨by kernel_rfl, by kernel_rfl, Nat.le_of_ble_eq_true (by kernel_rfl)⟩ : AV.ones _ = true ∧ _ ∧ _), ?_⟩ | refine ⟨rfl, ?_⟩); conv => whnf)
 refine Does.tidy [(2, .ptr 0 0), (4, .ro 4 (toksC [t0, t1, t2, t3])), (6, .ptr 4 0), (7, .bool (decide (e = 0))), (8, .ptr 5 0), (9, .bool (decide (f = 0)))] [(0, zeroE ++ zeroE), (2, ints kPrf), (3, ints sPrf), (4, entC x), (5, entC y)] 6 65 rfl rfl rfl (by kernel_rfl) (by kernel_rfl) ?_
 clear h5 h6
 refine wpc_sound (M := MF2) (PL := PL0) (CU := noCut) TTok mixed _ _ _ ?_
 conv => whnf
 repeat ((first | refine ⟨(⟨by kernel_rfl, by kernel_rfl, Nat.le_of_ble_eq_true (by kernel_rfl)⟩ : AV.ones _ = true ∧ _ ∧ _), ?_⟩ | refine ⟨rfl, ?_⟩ | refine ⟨_, rfl, ?_⟩ | refine ⟨⟨rfl, rfl⟩, ?_⟩); conv => whnf)
 refine Does.tidy [(2, .ptr 0 0), (4, .ro 4 (toksC [t0, t1, t2, t3])), (7, .bool (decide (e = 0))), (9, .bool (decide (f = 0))), (10, .ptr 6 0)] [(0, zeroE ++ zeroE), (2, ints kPrf), (3, ints sPrf), (4, entC x), (5, entC y), (6, prfC ⟨x, y⟩)] 7 65 rfl rfl rfl (by kernel_rfl) (by kernel_rfl) ?_
 refine wpc_sound (M := MF2) (PL := PL0) (CU := noCut) TTok mixed _ _ _ ?_
 by_cases c1 : t1.n ≠ 2
 ·rw [if_pos c1]
  conv => whnf
  repeat ((first | refine ifB_t ?_ | (refine ifB_pos (decide_eq_true (by first | omega | rfl | (dsimp only; omega))) ?_) | refine ⟨(⟨by kernel_rfl, by kernel_rfl, Nat.le_of_ble_eq_true (by kernel_rfl)⟩ : AV.ones _ = true ∧ _ ∧ _), ?_⟩ | refine ⟨_, rfl, ?_⟩ | (refine And.intro ?_ ?_; (focus (first | (simp [toksC_length]; done) | (simp [toksC_length]; omega))))); conv => whnf)
  refine prf0_bool_dems (by kernel_rfl) ?_
  rfl
 rw [if_neg c1]
 by_cases c2 : e ≠ 0
 ·rw [if_pos c2, df c2]
  conv => whnf
  repeat ((first | refine ifB_t ?_ | refine ifB_f ?_ | (refine ifB_neg (decide_eq_false (by first | omega | rfl | (dsimp only; omega))) ?_) | refine ⟨(⟨by kernel_rfl, by kernel_rfl, Nat.le_of_ble_eq_true (by kernel_rfl)⟩ : AV.ones _ = true ∧ _ ∧ _), ?_⟩ | refine ⟨_, rfl, ?_⟩ | (refine And.intro ?_ ?_; (focus (first | (simp [toksC_length]; done) | (simp [toksC_length]; omega))))); conv => whnf)
  refine prf0_bool_dems (by kernel_rfl) ?_
  rfl
 rw [if_neg c2, dt (Classical.not_not.1 c2)]
 by_cases c3 : f ≠ 0
 ·rw [if_pos c3, df c3]
  conv => whnf
  repeat ((first | refine ifB_t ?_ | refine ifB_f ?_ | (refine ifB_neg (decide_eq_false (by first | omega | rfl | (dsimp only; omega))) ?_) | refine ⟨(⟨by kernel_rfl, by kernel_rfl, Nat.le_of_ble_eq_true (by kernel_rfl)⟩ : AV.ones _ = true ∧ _ ∧ _), ?_⟩ | refine ⟨_, rfl, ?_⟩ | (refine And.intro ?_ ?_; (focus (first | (simp [toksC_length]; done) | (simp [toksC_length]; omega))))); conv => whnf)
  refine prf0_bool_dems (by kernel_rfl) ?_
  rfl
 rw [if_neg c3, dt (Classical.not_not.1 c3)]
 generalize (⟨x, y⟩ : Prf) = p at h7 ⊢
 conv => whnf
 repeat ((first | refine ifB_f ?_ | (refine ifB_neg (decide_eq_false (by first | omega | rfl | (dsimp only; omega))) ?_) | refine ⟨rfl, ?_⟩ | refine ⟨_, rfl, ?_⟩ | (refine And.intro ?_ ?_; (focus (first | (simp only [pureL, pureV, pureL_bys, Bool.and_true, Bool.and_self]; done) | (simp only [pureL, pureV, pureL_bys, pureL_toks, Bool.and_true, Bool.and_self]; done)))) | (refine And.intro ?_ ?_; (focus (first | (simp [toksC_length]; done) | (simp [toksC_length]; omega))))); conv => whnf)
 cases c4 : prfR p <;> rw [c4] at h7
 ·refine ⟨_, _, h7, by first | rfl | simp [noRoIf, noRoL, noRoV, noRoL_bys], ?_⟩
  conv => whnf
  repeat ((first | refine ifB_t ?_ | refine ifB_f ?_ | refine ⟨(⟨by kernel_rfl, by kernel_rfl, Nat.le_of_ble_eq_true (by kernel_rfl)⟩ : AV.ones _ = true ∧ _ ∧ _), ?_⟩ | refine ⟨_, rfl, ?_⟩); conv => whnf)
  refine prf0_bool_dems (by kernel_rfl) ?_
  rfl
 ·refine ⟨_, _, h7, by first | rfl | simp [noRoIf, noRoL, noRoV, noRoL_bys], ?_⟩
  conv => whnf
  repeat ((refine ifB_f ?_); conv => whnf)
  refine Does.tidy [(2, .ptr 0 0), (10, .ptr 6 0)] [(0, zeroE ++ zeroE), (2, ints kPrf), (3, ints sPrf), (4, entC x), (5, entC y), (6, prfC p)] 7 65 rfl rfl rfl (by kernel_rfl) (by kernel_rfl) ?_
  refine wpc_sound (M := MF2) (PL := PL0) (CU := noCut) TTok mixed _ _ _ ?_
  conv => whnf
  refine ⟨prfC p, by kernel_rfl, ?_⟩
  conv => whnf
  refine ⟨(⟨by kernel_rfl, by kernel_rfl, Nat.le_of_ble_eq_true (by kernel_rfl)⟩ : AV.ones _ = true ∧ _ ∧ _), ?_⟩
  conv => whnf
  refine ⟨prfC p, by kernel_rfl, ?_⟩
  conv => whnf
  refine prf_bool_dems (by kernel_rfl) ?_
  rfl
end
section

theorem rdEnt_non {b : List Int} (h : decR validR b = ([], 3)) : rdEnt b = (ent0, 3) := by
 unfold rdEnt rOpen
 rw [h]
 rfl
theorem entB_cut {e : Ent} (he : EntS e) (h : (entB e).2 = 0) (n : Nat) (hn : n < (entB e).1.length) : rdEnt ((entB e).1.take n) = (ent0, 3) :=
 rdEnt_non (decR_cut (entTs_ok e he).1 (entB_byt he).1 (entB_right h).2 n hn)
theorem entB_inj {m k : Ent} (hm : EntS m) (hk : EntS k) (h1 : (entB m).2 = 0) (h2 : (entB k).2 = 0) : decide ((entB m).1 = (entB k).1) = decide (m = k) := by
 have a := rdEnt_bytes hm h1
 have b := rdEnt_bytes hk h2
 by_cases c : m = k
 ·rw [c]; simp
 ·rw [decide_eq_false c, decide_eq_false]
  intro e
  rw [e, b] at a
  exact c (by injection a with a _; exact a.symm)
theorem entB_pos {e : Ent} (he : EntS e) (h : (entB e).2 = 0) : 0 < (entB e).1.length := enc_pos (entTs_ok e he).1 (entB_right h).2
theorem rdPrf_non {b : List Int} (h : decR validR b = ([], 3)) : rdPrf b = (prf0, 3) := by
 unfold rdPrf rOpen
 rw [h]
 rfl
def prfTk (p : Prf) : List Tok := [⟨5, 3, []⟩, ⟨1, 2, []⟩, ⟨3, 0, (entB p.a).1⟩, ⟨3, 0, (entB p.b).1⟩]
theorem prfB_right {p : Prf} (h : (prfB p).2 = 0) : prfR p = true ∧ encR validR (prfTk p) = ((prfB p).1, 0) := by
 unfold prfB at h ⊢
 split at h
 ·rename_i k
  rw [if_pos k]
  refine ⟨k, ?_⟩
  unfold prfTk
  generalize encR validR _ = q at h ⊢
  obtain ⟨a, b⟩ := q
  exact congrArg (Prod.mk a) h
 ·cases h
theorem prfB_cut {p : Prf} (hp : PrfS p) (h : (prfB p).2 = 0) (n : Nat) (hn : n < (prfB p).1.length) : rdPrf ((prfB p).1.take n) = (prf0, 3) :=
 rdPrf_non (decR_cut (prf_toks hp) (prfB_byt hp).1 (prfB_right h).2 n hn)
theorem prfB_more {p : Prf} (hp : PrfS p) (h : (prfB p).2 = 0) (x : Int) : rdPrf ((prfB p).1 ++ [x]) = (prf0, 3) :=
 rdPrf_non (decR_more (prf_toks hp) (prfB_right h).2 [x] (by simp))
end
section

theorem arr32_of_ty {n : Nat} {y : List AV} (h : TyL TT (n + 2) 22 y) : ∃ l : List Int, y = bys l ∧ Byt l ∧ l.length = 32 := by
 obtain ⟨es, rfl, hl, he⟩ := h
 obtain ⟨l, h1, h2, h3⟩ := bytes_of_ty ⟨_, show TT 5 = some _ from rfl, rfl⟩ es he
 exact ⟨l, h1, h3, by rw [h2, hl]⟩
theorem arr64_of_ty {n : Nat} {y : List AV} (h : TyL TT (n + 2) 26 y) : ∃ l : List Int, y = bys l ∧ Byt l ∧ l.length = 64 := by
 obtain ⟨es, rfl, hl, he⟩ := h
 obtain ⟨l, h1, h2, h3⟩ := bytes_of_ty ⟨_, show TT 5 = some _ from rfl, rfl⟩ es he
 exact ⟨l, h1, h3, by rw [h2, hl]⟩
theorem ent_of_ty {n : Nat} {y : List AV} (h : TyL TT (n + 4) 28 y) : ∃ e : Ent, y = entC e ∧ EntOk e := by
 obtain ⟨ys, rfl, a, r, rfl, ha, b, r', rfl, ⟨sq, rfl, s1, s2⟩, c, r2, rfl, hc, d, r3, rfl, ⟨st, rfl, t1, t2⟩, o, r4, rfl, ⟨os, rfl, o1, q1, rfl, ⟨kd, rfl, k1, k2⟩, o2, q2, rfl, ⟨ky, rfl, y1, y2⟩, o3, q3, rfl, hv, rfl⟩, g, r5, rfl, hg, rfl⟩ := h
 obtain ⟨au, rfl, u1, u2⟩ := arr32_of_ty ha
 obtain ⟨pv, rfl, v1, v2⟩ := arr32_of_ty hc
 obtain ⟨sg, rfl, g1, g2⟩ := arr64_of_ty hg
 obtain ⟨vl, rfl, w1, w2⟩ := bytes_of_slice hv
 simp only [IntKind.lo, IntKind.hi] at s1 s2 t1 t2 k1 k2
 refine ⟨⟨au, sq, pv, st, kd, ky, vl, sg⟩, ?_, { au := ⟨u1, u2⟩, seq := ⟨s1, by dsimp only; omega⟩, prev := ⟨v1, v2⟩, stamp := ⟨t1, by dsimp only; omega⟩, kind := ⟨k1, by dsimp only; omega⟩, key := ⟨y1, y2⟩, val := ⟨w1, w2⟩, sig := ⟨g1, g2⟩ }⟩
 unfold entC
 rw [c32_eq u2, c32_eq v2, c64_eq g2]
 simp
def PrfO (p : Prf) : Prop := EntOk p.a ∧ EntOk p.b
theorem prf_of_ty {n : Nat} {y : List AV} (h : TyL TT (n + 5) 32 y) : ∃ e : Prf, y = prfC e ∧ PrfO e := by
 obtain ⟨ys, rfl, a, r, rfl, ha, b, r', rfl, hb, rfl⟩ := h
 obtain ⟨e, rfl, h1⟩ := ent_of_ty ha
 obtain ⟨f, rfl, h2⟩ := ent_of_ty hb
 exact ⟨⟨e, f⟩, by simp [prfC], h1, h2⟩
end
section

theorem ACall.arg22 {P : Program} {f : FuncId} {n n' m m' : Nat} {c c' d d' : List AV} {r : AV} {outs : List AV} (h : ACall P f [.ro n c, .ro m d] r outs) (e1 : n' = n) (e2 : c' = c) (e3 : m' = m) (e4 : d' = d) : ACall P f [.ro n' c', .ro m' d'] r outs := by
 rw [e1, e2, e3, e4]; exact h
theorem cut_at {p x s : List Int} {i j : Int} (hi : i = p.length) (hj : j = p.length + x.length) : cutB (bys (p ++ (x ++ s))) (some i) (some j) 1 = bys x := by
 subst hi hj
 show List.take (((p.length + x.length : Int).toNat - (p.length : Int).toNat) * 1) (List.drop ((p.length : Int).toNat * 1) (bys (p ++ (x ++ s)))) = bys x
 rw [show ((p.length : Int).toNat * 1) = p.length by omega, show ((p.length + x.length : Int).toNat - (p.length : Int).toNat) * 1 = x.length by omega, bys_drop, bys_take, List.drop_left, List.take_left]
theorem cut_end {p x : List Int} {i : Int} (hi : i = p.length) : cutB (bys (p ++ x)) (some i) none 1 = bys x := by
 subst hi
 show List.drop ((p.length : Int).toNat * 1) (bys (p ++ x)) = bys x
 rw [show ((p.length : Int).toNat * 1) = p.length by omega, bys_drop, List.drop_left]
theorem cut_beg {p x : List Int} {j : Int} (hj : j = p.length) : cutB (bys (p ++ x)) none (some j) 1 = bys p := by
 subst hj
 show List.take ((p.length : Int).toNat * 1) (bys (p ++ x)) = bys p
 rw [show ((p.length : Int).toNat * 1) = p.length by omega, bys_take, List.take_left]
theorem get_mid {p s : List Int} {x : Int} {m : Nat} (hm : m = p.length) : ((bys (p ++ x :: s)).drop m)[0]? = some (.int .u8 x) := by
 subst hm
 rw [bys_drop, List.drop_left]
 rfl
theorem roLoad_okG {ops : Array Oper} {st : St} {dst : Option Tmp} {ty : TypeId} {pos : String} {af : Array Edge} {jg : Nat} {want : Bool} {d : Tmp} {t : TypeId} {a : Operand} {cs : List AV} (hg : guardTmp ops jg = some d) (he : evalO st.env a = .rop cs) (hne : cs.length ≠ 0) : takeOk ops ⟨dst, .load t a, ty, pos, af, some (jg, want)⟩ st = true := by
 have h : roLoad st (.load t a) = true := by
  simp only [roLoad, he]
  cases cs with
  | nil => simp at hne
  | cons x r => rfl
 unfold takeOk
 dsimp only
 rw [hg]
 dsimp only
 rw [h]
 rfl
theorem mod_len (cut : Int) {n : Nat} (hn : 0 < n) : ∃ c : Nat, (cut % 18446744073709551616).tmod (n : Int) = c ∧ c < n := by
 have h0 : 0 ≤ cut % 18446744073709551616 := by omega
 have a := Int.tmod_nonneg (n : Int) h0
 have b := Int.tmod_lt_of_pos (cut % 18446744073709551616) (show (0 : Int) < n by omega)
 exact ⟨((cut % 18446744073709551616).tmod (n : Int)).toNat, by omega, by omega⟩
theorem entS_of1 {e : Ent} (h : EntOk e) (hv : heavyEs [e] = false) : EntS e := by
 have := (heavyEs_no hv).2 e (by simp)
 exact { h with key' := by omega, val' := by omega }
theorem entS_of2 {a b : Ent} (ha : EntOk a) (hb : EntOk b) (hv : heavyEs [a, b] = false) : EntS a ∧ EntS b := by
 have h1 := (heavyEs_no hv).2 a (by simp)
 have h2 := (heavyEs_no hv).2 b (by simp)
 exact ⟨{ ha with key' := by omega, val' := by omega }, { hb with key' := by omega, val' := by omega }⟩
theorem entB_no {e : Ent} (h : entR e = false) : entB e = ([], 1) := by unfold entB; rw [h]; rfl
theorem entB_ok0 {e : Ent} (he : EntS e) (h : entR e = true) : (entB e).2 = 0 := by rw [entB_yes' he h]
theorem c64_of {l : List Int} (h : l.length = 64) : bys l = c64 l [] := by rw [c64_eq h, List.append_nil]
theorem c32_of {l : List Int} (h : l.length = 32) : bys l = c32 l [] := by rw [c32_eq h, List.append_nil]
theorem a32_of_ty {n : Nat} {y : List AV} (h : TyL TT (n + 2) 22 y) : ∃ l : List Int, y = c32 l [] ∧ (Byt l ∧ l.length = 32) := by
 obtain ⟨l, h1, h2, h3⟩ := arr32_of_ty h
 exact ⟨l, by rw [h1, c32_of h3], h2, h3⟩
theorem a64_of_ty {n : Nat} {y : List AV} (h : TyL TT (n + 2) 26 y) : ∃ l : List Int, y = c64 l [] ∧ (Byt l ∧ l.length = 64) := by
 obtain ⟨l, h1, h2, h3⟩ := arr64_of_ty h
 exact ⟨l, by rw [h1, c64_of h3], h2, h3⟩
end
end Go.Proofs.YtdmkpmijcgiggaaGreatDoor.Abs
