/- Texts ER to GQ, merged. -/
import Derived.Test.YthnhpkpbjaelnaaDoorR12
set_option linter.unusedVariables false
set_option linter.unusedSimpArgs false
namespace Go.Proofs.YthnhpkpbjaelnaaDoor.Abs
open Go
section
--KR
attribute [local irreducible] ifB fitP Does Weaker
def tok0 : Tok := ⟨0, 0, []⟩
def likeAt (l : List Tok) (ks ss : List Int) (i : Nat) : Bool := decide ((l.getD i tok0).k = ks.getD i 0) && !(decide (0 ≤ ss.getD i 0) && ((decide ((l.getD i tok0).k = 3) && decide (((l.getD i tok0).b.length : Int) ≠ ss.getD i 0)) || (decide ((l.getD i tok0).k = 5) && decide ((l.getD i tok0).n ≠ ss.getD i 0))))
def likeR (l : List Tok) (ks ss : List Int) : Bool := decide (l.length = ks.length) && (List.range l.length).all (likeAt l ks ss)
theorem likeR_no {l : List Tok} {ks ss : List Int} {c : Nat} (hc : c < l.length) (h : likeAt l ks ss c = false) : likeR l ks ss = false := by
 unfold likeR
 rw [Bool.and_eq_false_iff]
 right
 rw [Bool.eq_false_iff]
 intro hh
 rw [List.all_eq_true] at hh
 have := hh c (by simpa using hc)
 rw [h] at this
 cases this
theorem range_snoc' {p : Nat → Bool} {c : Nat} (h : (List.range c).all p = true) (k : p c = true) : (List.range (c + 1)).all p = true := by
 rw [List.range_succ, List.all_append, h]; simp [k]
theorem get_intsD {l : List Int} {c m : Nat} (h : c < l.length) (hm : m = c) : ((ints l).drop m)[0]? = some (.int .i64 (l.getD c 0)) := by
 subst hm
 simp [ints, h, List.getD_eq_getElem?_getD]
def PLlike : Nat → Bool × Plan := plans [(6, (true, takes [0, 1, 2, 3, 4, 5, 6, 7, 8, 9, 10, 11, 12, 13, 14, 15, 16, 17, 18, 19, 20, 21, 22, 23, 24, 25, 26, 27, 28, 29, 30, 31, 32, 33, 34, 35, 36, 37, 38, 39, 40, 41, 42, 43, 44, 45, 46, 47, 48, 49, 50, 51, 52, 53, 54, 55, 56, 57]))]
set_option maxHeartbeats 4000000 in
theorem like_ok (l : List Tok) (ks ss : List Int) (hs : ss.length = ks.length) (hn : l.length ≤ 1000000) (hk : ks.length ≤ 1000000) : ACall Tryd.prog 92 [.ro l.length (toksC l), .ro ks.length (ints ks), .ro ss.length (ints ss)] (.bool (likeR l ks ss)) [] := by
 refine ACall.of_does TTok Tryd.func92 rfl Tryd.call92 rfl (wpc_sound (M := MF) (PL := PLlike) (CU := noCut) TTok mixed _ _ _ ?_)
 conv => whnf
 refine ifB_dec (fun c0 => ?_) (fun c0 => ?_)
 ·have : likeR l ks ss = false := by unfold likeR; rw [df (show ¬ l.length = ks.length by omega)]; rfl
  rw [this]
  conv => whnf
  repeat ((refine ⟨rfl, ?_⟩); conv => whnf)
  rfl
 conv => whnf
 refine Does.loop (fun c : Nat => mkSt [(0, .ro l.length (toksC l)), (1, .ro ks.length (ints ks)), (2, .ro ss.length (ints ss)), (7, .int .i64 c)] [] 0 77)
  (fun c => c ≤ l.length ∧ (List.range c).all (likeAt l ks ss) = true) (fun c => l.length - c) ?_ 0 ⟨Nat.zero_le _, rfl⟩ ?_
 ·rintro c ⟨hc, hx⟩
  rcases Nat.lt_or_ge c l.length with c1 | c1
  ·have c2 : c < ks.length := by omega
   have c3 : c < ss.length := by omega
   have e : likeAt l ks ss c = (decide (l[c].k = ks.getD c 0) && !(decide (0 ≤ ss.getD c 0) && ((decide (l[c].k = 3) && decide ((l[c].b.length : Int) ≠ ss.getD c 0)) || (decide (l[c].k = 5) && decide (l[c].n ≠ ss.getD c 0))))) := by
    unfold likeAt; rw [List.getD_eq_getElem?_getD (l := l) (i := c), List.getElem?_eq_getElem c1]; rfl
   have gk : ∀ m, m = c → ((ints ks).drop m)[0]? = some (.int .i64 (ks.getD c 0)) := fun m hm => get_intsD c2 hm
   have gs : ∀ m, m = c → ((ints ss).drop m)[0]? = some (.int .i64 (ss.getD c 0)) := fun m hm => get_intsD c3 hm
   refine wpc_sound (M := MF) (PL := PLlike) (CU := noCut) TTok mixed _ _ _ ?_
   conv => whnf
   repeat ((refine ifB_pos (decide_eq_true (by first | omega | rfl | (dsimp only; omega))) ?_); conv => whnf)
   refine ⟨by kernel_rfl, ?_⟩
   generalize ks.getD c 0 = kc at e gk
   generalize ss.getD c 0 = sc at e gs
   by_cases k1 : l[c].k = kc
   ·rw [dt k1] at e
    by_cases k2 : 0 ≤ sc
    ·rw [dt k2] at e
     by_cases k3 : l[c].k = 3
     ·rw [dt k3] at e
      by_cases k4 : (l[c].b.length : Int) ≠ sc
      ·rw [dt k4] at e
       conv => whnf
       repeat' (first | (refine ifB_t ?_; (conv => whnf)) | (refine ifB_f ?_; (conv => whnf)) | (refine ifB_neg (decide_eq_false (by first | omega | rfl | (dsimp only; omega))) ?_; (conv => whnf)) | (refine ifB_pos (decide_eq_true (by first | omega | rfl | (dsimp only; omega))) ?_; (conv => whnf)) | (refine ⟨⟨?_, ?_, ?_⟩, ?_⟩; (focus omega); (focus (first | omega | (simp; done) | (simp; omega))); (focus (first | (simp; done) | (simp; omega) | (rw [toksC_length]; simp; omega))); (conv => whnf)) | (refine ⟨_, tok_k c1 (by simp; omega), ?_⟩; conv => whnf) | (refine ⟨_, tok_n c1 (by simp; omega), ?_⟩; conv => whnf) | (refine ⟨_, tok_b c1 (by simp; omega), ?_⟩; conv => whnf) | (refine ⟨_, gk _ (by simp), ?_⟩; conv => whnf) | (refine ⟨_, gs _ (by simp), ?_⟩; conv => whnf) | (refine ⟨⟨by omega, by omega, by rw [toksC_length]; simp; omega⟩, ?_⟩; conv => whnf) | (refine ⟨⟨by omega, by omega, by simp; omega⟩, ?_⟩; conv => whnf) | (rw [likeR_no c1 e]; exact ⟨rfl, rfl⟩) | (rw [likeR_no c1 e]; rfl) | (refine ⟨_, rfl, ?_⟩; conv => whnf) | (refine And.intro ?_ ?_ <;> conv => whnf))
      ·rw [df k4] at e
       rw [df (show ¬ l[c].k = 5 by omega)] at e
       conv => whnf
       repeat' (first | (refine ifB_t ?_; (conv => whnf)) | (refine ifB_f ?_; (conv => whnf)) | (refine ifB_neg (decide_eq_false (by first | omega | rfl | (dsimp only; omega))) ?_; (conv => whnf)) | (refine ifB_pos (decide_eq_true (by first | omega | rfl | (dsimp only; omega))) ?_; (conv => whnf)) | (refine fit_i64 ⟨by first | omega | rfl | (dsimp only; omega), by first | omega | rfl | (dsimp only; omega)⟩ ?_; (conv => whnf)) | (refine ⟨⟨?_, ?_, ?_⟩, ?_⟩; (focus omega); (focus (first | omega | (simp; done) | (simp; omega))); (focus (first | (simp; done) | (simp; omega) | (rw [toksC_length]; simp; omega))); (conv => whnf)) | (refine ⟨_, tok_k c1 (by simp; omega), ?_⟩; conv => whnf) | (refine ⟨_, tok_n c1 (by simp; omega), ?_⟩; conv => whnf) | (refine ⟨_, tok_b c1 (by simp; omega), ?_⟩; conv => whnf) | (refine ⟨_, gk _ (by simp), ?_⟩; conv => whnf) | (refine ⟨_, gs _ (by simp), ?_⟩; conv => whnf) | (refine ⟨⟨by omega, by omega, by rw [toksC_length]; simp; omega⟩, ?_⟩; conv => whnf) | (refine ⟨⟨by omega, by omega, by simp; omega⟩, ?_⟩; conv => whnf) | (exact ⟨c + 1, ⟨by omega, range_snoc' hx e⟩, by omega, weaker_of [] rfl rfl ⟨⟨rfl, rfl, pureL_toks _⟩, ⟨rfl, rfl, pureL_ints _⟩, ⟨rfl, rfl, pureL_ints _⟩, ⟨rfl, by simp⟩, trivial⟩ trivial⟩) | (refine ⟨_, rfl, ?_⟩; conv => whnf) | (refine And.intro ?_ ?_ <;> conv => whnf))
     ·rw [df k3] at e
      by_cases k5 : l[c].k = 5
      ·rw [dt k5] at e
       by_cases k6 : l[c].n ≠ sc
       ·rw [dt k6] at e
        conv => whnf
        repeat' (first | (refine ifB_t ?_; (conv => whnf)) | (refine ifB_f ?_; (conv => whnf)) | (refine ifB_neg (decide_eq_false (by first | omega | rfl | (dsimp only; omega))) ?_; (conv => whnf)) | (refine ifB_pos (decide_eq_true (by first | omega | rfl | (dsimp only; omega))) ?_; (conv => whnf)) | (refine ⟨⟨?_, ?_, ?_⟩, ?_⟩; (focus omega); (focus (first | omega | (simp; done) | (simp; omega))); (focus (first | (simp; done) | (simp; omega) | (rw [toksC_length]; simp; omega))); (conv => whnf)) | (refine ⟨_, tok_k c1 (by simp; omega), ?_⟩; conv => whnf) | (refine ⟨_, tok_n c1 (by simp; omega), ?_⟩; conv => whnf) | (refine ⟨_, tok_b c1 (by simp; omega), ?_⟩; conv => whnf) | (refine ⟨_, gk _ (by simp), ?_⟩; conv => whnf) | (refine ⟨_, gs _ (by simp), ?_⟩; conv => whnf) | (refine ⟨⟨by omega, by omega, by rw [toksC_length]; simp; omega⟩, ?_⟩; conv => whnf) | (refine ⟨⟨by omega, by omega, by simp; omega⟩, ?_⟩; conv => whnf) | (rw [likeR_no c1 e]; exact ⟨rfl, rfl⟩) | (rw [likeR_no c1 e]; rfl) | (refine ⟨_, rfl, ?_⟩; conv => whnf) | (refine And.intro ?_ ?_ <;> conv => whnf))
       ·rw [df k6] at e
        conv => whnf
        repeat' (first | (refine ifB_t ?_; (conv => whnf)) | (refine ifB_f ?_; (conv => whnf)) | (refine ifB_neg (decide_eq_false (by first | omega | rfl | (dsimp only; omega))) ?_; (conv => whnf)) | (refine ifB_pos (decide_eq_true (by first | omega | rfl | (dsimp only; omega))) ?_; (conv => whnf)) | (refine fit_i64 ⟨by first | omega | rfl | (dsimp only; omega), by first | omega | rfl | (dsimp only; omega)⟩ ?_; (conv => whnf)) | (refine ⟨⟨?_, ?_, ?_⟩, ?_⟩; (focus omega); (focus (first | omega | (simp; done) | (simp; omega))); (focus (first | (simp; done) | (simp; omega) | (rw [toksC_length]; simp; omega))); (conv => whnf)) | (refine ⟨_, tok_k c1 (by simp; omega), ?_⟩; conv => whnf) | (refine ⟨_, tok_n c1 (by simp; omega), ?_⟩; conv => whnf) | (refine ⟨_, tok_b c1 (by simp; omega), ?_⟩; conv => whnf) | (refine ⟨_, gk _ (by simp), ?_⟩; conv => whnf) | (refine ⟨_, gs _ (by simp), ?_⟩; conv => whnf) | (refine ⟨⟨by omega, by omega, by rw [toksC_length]; simp; omega⟩, ?_⟩; conv => whnf) | (refine ⟨⟨by omega, by omega, by simp; omega⟩, ?_⟩; conv => whnf) | (exact ⟨c + 1, ⟨by omega, range_snoc' hx e⟩, by omega, weaker_of [] rfl rfl ⟨⟨rfl, rfl, pureL_toks _⟩, ⟨rfl, rfl, pureL_ints _⟩, ⟨rfl, rfl, pureL_ints _⟩, ⟨rfl, by simp⟩, trivial⟩ trivial⟩) | (refine ⟨_, rfl, ?_⟩; conv => whnf) | (refine And.intro ?_ ?_ <;> conv => whnf))
      ·rw [df k5] at e
       conv => whnf
       repeat' (first | (refine ifB_t ?_; (conv => whnf)) | (refine ifB_f ?_; (conv => whnf)) | (refine ifB_neg (decide_eq_false (by first | omega | rfl | (dsimp only; omega))) ?_; (conv => whnf)) | (refine ifB_pos (decide_eq_true (by first | omega | rfl | (dsimp only; omega))) ?_; (conv => whnf)) | (refine fit_i64 ⟨by first | omega | rfl | (dsimp only; omega), by first | omega | rfl | (dsimp only; omega)⟩ ?_; (conv => whnf)) | (refine ⟨⟨?_, ?_, ?_⟩, ?_⟩; (focus omega); (focus (first | omega | (simp; done) | (simp; omega))); (focus (first | (simp; done) | (simp; omega) | (rw [toksC_length]; simp; omega))); (conv => whnf)) | (refine ⟨_, tok_k c1 (by simp; omega), ?_⟩; conv => whnf) | (refine ⟨_, tok_n c1 (by simp; omega), ?_⟩; conv => whnf) | (refine ⟨_, tok_b c1 (by simp; omega), ?_⟩; conv => whnf) | (refine ⟨_, gk _ (by simp), ?_⟩; conv => whnf) | (refine ⟨_, gs _ (by simp), ?_⟩; conv => whnf) | (refine ⟨⟨by omega, by omega, by rw [toksC_length]; simp; omega⟩, ?_⟩; conv => whnf) | (refine ⟨⟨by omega, by omega, by simp; omega⟩, ?_⟩; conv => whnf) | (exact ⟨c + 1, ⟨by omega, range_snoc' hx e⟩, by omega, weaker_of [] rfl rfl ⟨⟨rfl, rfl, pureL_toks _⟩, ⟨rfl, rfl, pureL_ints _⟩, ⟨rfl, rfl, pureL_ints _⟩, ⟨rfl, by simp⟩, trivial⟩ trivial⟩) | (refine ⟨_, rfl, ?_⟩; conv => whnf) | (refine And.intro ?_ ?_ <;> conv => whnf))
    ·rw [df k2] at e
     conv => whnf
     repeat' (first | (refine ifB_f ?_; (conv => whnf)) | (refine ifB_neg (decide_eq_false (by first | omega | rfl | (dsimp only; omega))) ?_; (conv => whnf)) | (refine fit_i64 ⟨by first | omega | rfl | (dsimp only; omega), by first | omega | rfl | (dsimp only; omega)⟩ ?_; (conv => whnf)) | (refine ⟨⟨?_, ?_, ?_⟩, ?_⟩; (focus omega); (focus (first | omega | (simp; done) | (simp; omega))); (focus (first | (simp; done) | (simp; omega) | (rw [toksC_length]; simp; omega))); (conv => whnf)) | (refine ⟨_, tok_k c1 (by simp; omega), ?_⟩; conv => whnf) | (refine ⟨_, tok_n c1 (by simp; omega), ?_⟩; conv => whnf) | (refine ⟨_, tok_b c1 (by simp; omega), ?_⟩; conv => whnf) | (refine ⟨_, gk _ (by simp), ?_⟩; conv => whnf) | (refine ⟨_, gs _ (by simp), ?_⟩; conv => whnf) | (refine ⟨⟨by omega, by omega, by rw [toksC_length]; simp; omega⟩, ?_⟩; conv => whnf) | (refine ⟨⟨by omega, by omega, by simp; omega⟩, ?_⟩; conv => whnf) | (exact ⟨c + 1, ⟨by omega, range_snoc' hx e⟩, by omega, weaker_of [] rfl rfl ⟨⟨rfl, rfl, pureL_toks _⟩, ⟨rfl, rfl, pureL_ints _⟩, ⟨rfl, rfl, pureL_ints _⟩, ⟨rfl, by simp⟩, trivial⟩ trivial⟩) | (refine ⟨_, rfl, ?_⟩; conv => whnf) | (refine And.intro ?_ ?_ <;> conv => whnf))
   ·rw [df k1] at e
    conv => whnf
    repeat' (first | (refine ifB_t ?_; (conv => whnf)) | (refine ifB_pos (decide_eq_true (by first | omega | rfl | (dsimp only; omega))) ?_; (conv => whnf)) | (refine ⟨⟨?_, ?_, ?_⟩, ?_⟩; (focus omega); (focus (first | omega | (simp; done) | (simp; omega))); (focus (first | (simp; done) | (simp; omega) | (rw [toksC_length]; simp; omega))); (conv => whnf)) | (refine ⟨_, tok_k c1 (by simp; omega), ?_⟩; conv => whnf) | (refine ⟨_, tok_n c1 (by simp; omega), ?_⟩; conv => whnf) | (refine ⟨_, tok_b c1 (by simp; omega), ?_⟩; conv => whnf) | (refine ⟨_, gk _ (by simp), ?_⟩; conv => whnf) | (refine ⟨_, gs _ (by simp), ?_⟩; conv => whnf) | (refine ⟨⟨by omega, by omega, by rw [toksC_length]; simp; omega⟩, ?_⟩; conv => whnf) | (refine ⟨⟨by omega, by omega, by simp; omega⟩, ?_⟩; conv => whnf) | (rw [likeR_no c1 e]; exact ⟨rfl, rfl⟩) | (rw [likeR_no c1 e]; rfl) | (refine ⟨_, rfl, ?_⟩; conv => whnf) | (refine And.intro ?_ ?_ <;> conv => whnf))
  ·obtain rfl : c = l.length := by omega
   refine wpc_sound (M := MF) (PL := PLlike) (CU := noCut) TTok mixed _ _ _ ?_
   have : likeR l ks ss = true := by unfold likeR; rw [hx, dt (show l.length = ks.length by omega)]; rfl
   rw [this]
   conv => whnf
   repeat ((first | (refine ifB_neg (decide_eq_false (by first | omega | rfl | (dsimp only; omega))) ?_) | refine ⟨rfl, ?_⟩); conv => whnf)
   rfl
 ·exact weaker_of [] rfl rfl ⟨⟨rfl, rfl, pureL_toks _⟩, ⟨rfl, rfl, pureL_ints _⟩, ⟨rfl, rfl, pureL_ints _⟩, ⟨rfl, rfl⟩, trivial⟩ trivial
end
section
--KR
attribute [local irreducible] ifB fitP Does Weaker demsP
def kEnt : List Int := [5, 1, 3, 1, 3, 1, 5, 1, 4, 3, 3]
def sEnt : List Int := [7, -1, 32, -1, 32, -1, 3, -1, -1, -1, 64]
theorem like_entTs {e : Ent} (he : EntS e) : likeR (entTs e) kEnt sEnt = true := by
 have h1 := he.au.2
 have h2 := he.prev.2
 have h3 := he.sig.2
 unfold likeR
 rw [show (entTs e).length = 11 from rfl]
 simp [List.range_succ, likeAt, entTs, entT, kEnt, sEnt, h1, h2, h3]
theorem like_inv {l : List Tok} (h : likeR l kEnt sEnt = true) : ∃ t0 t1 t2 t3 t4 t5 t6 t7 t8 t9 t10 : Tok, l = [t0, t1, t2, t3, t4, t5, t6, t7, t8, t9, t10] ∧ (t0.k = 5 ∧ t0.n = 7) ∧ t1.k = 1 ∧ (t2.k = 3 ∧ t2.b.length = 32) ∧ t3.k = 1 ∧ (t4.k = 3 ∧ t4.b.length = 32) ∧ t5.k = 1 ∧ (t6.k = 5 ∧ t6.n = 3) ∧ t7.k = 1 ∧ t8.k = 4 ∧ t9.k = 3 ∧ (t10.k = 3 ∧ t10.b.length = 64) := by
 unfold likeR at h
 rw [Bool.and_eq_true] at h
 obtain ⟨h1, h2⟩ := h
 have h1 := of_decide_eq_true h1
 match l, h1 with
 | [t0, t1, t2, t3, t4, t5, t6, t7, t8, t9, t10], _ =>
  refine ⟨t0, t1, t2, t3, t4, t5, t6, t7, t8, t9, t10, rfl, ?_⟩
  rw [List.all_eq_true] at h2
  have g := fun i (hi : i < 11) => h2 i (List.mem_range.2 hi)
  have g0 := g 0 (by decide); have g1 := g 1 (by decide); have g2 := g 2 (by decide); have g3 := g 3 (by decide); have g4 := g 4 (by decide); have g5 := g 5 (by decide)
  have g6 := g 6 (by decide); have g7 := g 7 (by decide); have g8 := g 8 (by decide); have g9 := g 9 (by decide); have g10 := g 10 (by decide)
  simp [likeAt, kEnt, sEnt] at g0 g1 g2 g3 g4 g5 g6 g7 g8 g9 g10
  have a0 := g0.1; have a2 := g2.1; have a4 := g4.1; have a6 := g6.1; have a10 := g10.1
  rw [a0] at g0; rw [a2] at g2; rw [a4] at g4; rw [a6] at g6; rw [a10] at g10
  simp at g0 g2 g4 g6 g10
  exact ⟨⟨a0, g0⟩, g1, ⟨a2, by omega⟩, g3, ⟨a4, by omega⟩, g5, ⟨a6, g6⟩, g7, g8, g9, ⟨a10, by omega⟩⟩
theorem rdEnt_no {b : List Int} (h : ∀ e, EntS e → encR validR (entTs e) ≠ (b, 0)) (hb : Byt b) (hl : b.length ≤ 1000000000) : rdEnt b = (ent0, 3) := by
 rcases rdEnt_or b with h' | h'
 ·exact h'
 ·exact absurd (rdEnt_inv h').1 (h _ (rdEnt_entS hb hl).1)
theorem rdEnt_like {b : List Int} {l : List Tok} (hd : decR validR b = (l, 0)) (hb : Byt b) (hl : b.length ≤ 1000000000) (h : likeR l kEnt sEnt = false) : rdEnt b = (ent0, 3) := by
 refine rdEnt_no (fun e he hx => ?_) hb hl
 have := decR_enc (entTs_ok e he).1 hx
 rw [hd] at this
 injection this with this _
 rw [this, like_entTs he] at h
 cases h
theorem rdEnt_yes {b : List Int} {t0 t1 t2 t3 t4 t5 t6 t7 t8 t9 t10 : Tok} (hd : decR validR b = ([t0, t1, t2, t3, t4, t5, t6, t7, t8, t9, t10], 0)) (h0 : t0.k = 5 ∧ t0.n = 7) (h1 : t1.k = 1) (h2 : t2.k = 3 ∧ t2.b.length = 32) (h3 : t3.k = 1) (h4 : t4.k = 3 ∧ t4.b.length = 32) (h5 : t5.k = 1) (h6 : t6.k = 5 ∧ t6.n = 3) (h7 : t7.k = 1) (h8 : t8.k = 4) (h9 : t9.k = 3) (h10 : t10.k = 3 ∧ t10.b.length = 64) :
  rdEnt b = if t1.n ≠ 1 then (ent0, 3) else if entR ⟨t2.b, t3.n, t4.b, t5.n, t7.n, t8.b, t9.b, t10.b⟩ = true then (⟨t2.b, t3.n, t4.b, t5.n, t7.n, t8.b, t9.b, t10.b⟩, 0) else (ent0, 3) := by
 have ho : rOpen b = ⟨[t0, t1, t2, t3, t4, t5, t6, t7, t8, t9, t10], false⟩ := by unfold rOpen; rw [hd]; rfl
 split
 ·rename_i c
  rcases rdEnt_or b with h' | h'
  ·exact h'
  ·exfalso
   unfold rdEnt at h'
   obtain ⟨u2, u3, u4, u5, u6, u7, u8, u9, u10, e, _⟩ := rdE_inv h'
   obtain ⟨v0, v1, q, e1, _, _, _, n1, _⟩ := rWant_inv (m := 7) (f := 1) (r := rOpen b) (by rw [e])
   rw [ho] at e1
   injection e1 with e1 _
   injection e1 with _ e1
   injection e1 with e1 _
   subst e1
   exact c n1
 ·rename_i c
  unfold rdEnt
  rw [ho, rWant_cons h0.1 h0.2 h1 (Classical.not_not.1 c), rdE_cons h2.1 h2.2 h3 h4.1 h4.2 h5 h6.1 h7 h8 h9 h10.1 h10.2, if_neg (by rw [h6.2]; simp)]
theorem set_at {a m b l : List AV} {k : Nat} (hk : a.length = k) (hm : m.length = l.length) : setN (a ++ (m ++ b)) k l = a ++ (l ++ b) := by
 rw [setN_eq _ _ _ (by simp only [List.length_append]; omega)]
 rw [List.take_append_of_le_length (by omega), List.take_of_length_le (by omega), ← hk]
 rw [List.drop_append, List.drop_eq_nil_of_le (by omega), List.nil_append]
 rw [show a.length + l.length - a.length = m.length by omega, List.drop_append, List.drop_eq_nil_of_le (Nat.le_refl _)]
 simp
theorem bys_min {l : List Int} {n : Nat} (h : l.length = n) : (bys l).take (Nat.min l.length n * 1) = bys l := by
 rw [h, Nat.mul_one, show Nat.min n n = n from Nat.min_self n]; exact List.take_of_length_le (by simp [h])
theorem set_au {e : Ent} {l : List Int} (h : e.au.length = 32) (hl : l.length = 32) : setN (entC e) 0 ((bys l).take (Nat.min l.length 32 * 1)) = entC ⟨l, e.seq, e.prev, e.stamp, e.kind, e.key, e.val, e.sig⟩ := by
 rw [bys_min hl]
 unfold entC
 rw [c32_eq h, c32_eq hl]
 exact set_at (a := []) rfl (by simp [h, hl])
theorem set_prev {e : Ent} {l : List Int} (h0 : e.au.length = 32) (h : e.prev.length = 32) (hl : l.length = 32) : setN (entC e) 33 ((bys l).take (Nat.min l.length 32 * 1)) = entC ⟨e.au, e.seq, l, e.stamp, e.kind, e.key, e.val, e.sig⟩ := by
 rw [bys_min hl]
 unfold entC
 dsimp only
 rw [c32_eq h0, c32_eq h0, c32_eq h, c32_eq hl]
 have := set_at (a := bys e.au ++ [.int .i64 e.seq]) (m := bys e.prev) (b := .int .i64 e.stamp :: .int .i64 e.kind :: .str e.key :: .ro e.val.length (bys e.val) :: c64 e.sig []) (l := bys l) (k := 33) (by simp [h0]) (by simp [h, hl])
 simpa using this
theorem set_sig {e : Ent} {l : List Int} (h0 : e.au.length = 32) (h1 : e.prev.length = 32) (h : e.sig.length = 64) (hl : l.length = 64) : setN (entC e) 69 ((bys l).take (Nat.min l.length 64 * 1)) = entC ⟨e.au, e.seq, e.prev, e.stamp, e.kind, e.key, e.val, l⟩ := by
 rw [bys_min hl]
 unfold entC
 dsimp only
 rw [c32_eq h0, c32_eq h1, c64_eq h, c64_eq hl, c32_eq h0, c32_eq h1]
 have := set_at (a := bys e.au ++ [.int .i64 e.seq] ++ bys e.prev ++ [.int .i64 e.stamp, .int .i64 e.kind, .str e.key, .ro e.val.length (bys e.val)]) (m := bys e.sig) (b := []) (l := bys l) (k := 69) (by simp [h0, h1]) (by simp [h, hl])
 simpa using this
def PLre : Nat → Bool × Plan := plans [(4, (false, (takesTo [0, 1, 2, 3, 4, 5, 6, 7, 8, 9, 10, 11, 12, 13, 14, 15, 17, 18, 19, 20] (.all [(16, (takesTo [21, 22] (.all [(23, (.all [(24, .done)]))]))), (23, (.all [(16, (takesTo [21, 22] (.all [(24, .done)])))]))])))), (5, (false, (takesTo [0, 1, 2, 3, 4, 5] (.all [(6, .done)])))), (6, (false, (takesTo [0, 1, 2, 3, 4, 5] (.all [(6, .done)])))), (7, (false, (takesTo [0, 1, 2, 3, 4, 5] (.all [(6, .done)]))))]
theorem ent_bool_dems {H : Heap} {e : Ent} {n : Bool} {zs : List AV} {K : List Nat → Prop} (hz : zs = entC e) (h : K []) : demsP H [.tuple [.agg (entC e), .bool n]] [.tuple [.agg zs, .bool n]] K := by
 subst hz
 simp only [demsP, demP]
 refine ent_dems e ?_
 simpa only [and_self, true_and, List.nil_append] using h
theorem ent0_bool_dems {H : Heap} {n : Bool} {zs : List AV} {K : List Nat → Prop} (hz : zs = zeroE) (h : K []) : demsP H [.tuple [.agg (entC ent0), .bool n]] [.tuple [.agg zs, .bool n]] K := by
 subst hz
 simp only [demsP, demP]
 refine ent0_dems ?_
 simpa only [and_self, true_and, List.nil_append] using h
def MF2 : FuncId → List Mode := orElse [(92, [.bw, .bw, .bw])] MF
set_option maxRecDepth 20000 in
set_option maxHeartbeats 4000000 in
theorem refread_ok (b : List Int) (hb : Byt b) (hl : b.length ≤ 1000000000) : ACall Tryd.prog 54 [.ro b.length (bys b)] (.tuple [.agg (entC (rdEnt b).1), .bool (decide ((rdEnt b).2 = 0))]) [] := by
 have hd := refDecode_ok b hb (by omega)
 refine ACall.of_does TTok Tryd.func54 rfl Tryd.call54 rfl (wpc_sound (M := MF2) (PL := PLre) (CU := cutAt [100002, 100004, 100005, 100006, 100007, 100008, 100010]) TTok mixed _ _ _ ?_)
 rcases decR_or validR b with hq | ⟨l, hq, _, hp⟩
 ·have hr : rdEnt b = (ent0, 3) := rdEnt_no (fun e he hx => by rw [decR_enc (entTs_ok e he).1 hx] at hq; cases hq) hb hl
  rw [hq] at hd
  rw [hr]
  conv => whnf
  repeat ((first | refine ⟨pureL_bys _, ?_⟩ | refine ⟨rfl, ?_⟩); conv => whnf)
  refine ⟨_, _, hd, by first | rfl | simp [noRoIf, noRoL, noRoV, noRoL_bys], ?_⟩
  conv => whnf
  refine wpc_sound (M := MF2) (PL := PLre) (CU := noCut) TTok mixed _ _ _ ?_
  conv => whnf
  repeat ((first | refine ifB_t ?_ | refine ⟨(⟨by kernel_rfl, by kernel_rfl, Nat.le_of_ble_eq_true (by kernel_rfl)⟩ : AV.ones _ = true ∧ _ ∧ _), ?_⟩ | refine ⟨_, rfl, ?_⟩); conv => whnf)
  refine ent0_bool_dems (by kernel_rfl) ?_
  rfl
 have hto := pItem_toks b hb 7 ⟨0, [], false⟩ ⟨by simp [ToksOk], by simp⟩
 rw [hp] at hto
 have hlen : l.length ≤ 600 := by
  have := rOpen_len b
  unfold rOpen at this
  rw [hq] at this
  exact this
 rw [hq] at hd
 have hlk := like_ok l kEnt sEnt rfl (by omega) (by decide)
 conv => whnf
 repeat ((first | refine ⟨pureL_bys _, ?_⟩ | refine ⟨rfl, ?_⟩); conv => whnf)
 refine ⟨_, _, hd, by first | rfl | simp [noRoIf, noRoL, noRoV, noRoL_bys], ?_⟩
 conv => whnf
 refine Does.freeze 1 rfl (Does.tidy [(2, .ptr 0 0), (4, .ro l.length (List.take (l.length * 3) (List.drop 0 (toksC l)))), (5, .bool true)] [(0, zeroE)] 2 78 rfl rfl rfl (by kernel_rfl) (by kernel_rfl) ?_)
 rw [whole_toks]
 refine wpc_sound (M := MF2) (PL := PLre) (CU := noCut) TTok mixed _ _ _ ?_
 cases c1 : likeR l kEnt sEnt <;> rw [c1] at hlk
 ·rw [rdEnt_like hq hb hl c1]
  conv => whnf
  repeat ((first | refine ifB_f ?_ | (refine Or.inl ⟨⟨rfl, ?_⟩, ?_⟩; (focus (first | rfl | (simp; done) | (rw [toksC_length]; omega)))) | refine ⟨rfl, ?_⟩ | (refine And.intro ?_ ?_; (focus (first | (simp only [pureL, pureV, pureL_bys, Bool.and_true, Bool.and_self]; done) | (simp only [pureL, pureV, pureL_bys, pureL_toks, Bool.and_true, Bool.and_self]; done))))); conv => whnf)
  refine ⟨_, _, hlk, by first | rfl | simp [noRoIf, noRoL, noRoV, noRoL_bys], ?_⟩
  conv => whnf
  repeat ((first | refine ifB_t ?_ | refine ifB_f ?_ | refine ⟨(⟨by kernel_rfl, by kernel_rfl, Nat.le_of_ble_eq_true (by kernel_rfl)⟩ : AV.ones _ = true ∧ _ ∧ _), ?_⟩ | refine ⟨_, rfl, ?_⟩); conv => whnf)
  refine ent0_bool_dems (by kernel_rfl) ?_
  rfl
 obtain ⟨t0, t1, t2, t3, t4, t5, t6, t7, t8, t9, t10, rfl, h0, h1, h2, h3, h4, h5, h6, h7, h8, h9, h10⟩ := like_inv c1
 rw [rdEnt_yes hq h0 h1 h2 h3 h4 h5 h6 h7 h8 h9 h10]
 conv => whnf
 repeat ((first | refine ifB_f ?_ | (refine Or.inl ⟨⟨rfl, ?_⟩, ?_⟩; (focus (first | rfl | (simp; done) | (rw [toksC_length]; omega)))) | refine ⟨rfl, ?_⟩ | (refine And.intro ?_ ?_; (focus (first | (simp only [pureL, pureV, pureL_bys, Bool.and_true, Bool.and_self]; done) | (simp only [pureL, pureV, pureL_bys, pureL_toks, Bool.and_true, Bool.and_self]; done))))); conv => whnf)
 refine ⟨_, _, hlk, by first | rfl | simp [noRoIf, noRoL, noRoV, noRoL_bys], ?_⟩
 conv => whnf
 repeat ((refine ifB_f ?_); conv => whnf)
 have T := fun t (ht : t ∈ [t0, t1, t2, t3, t4, t5, t6, t7, t8, t9, t10]) => hto.1 t ht
 have B := fun t (ht : t ∈ [t0, t1, t2, t3, t4, t5, t6, t7, t8, t9, t10]) => hto.2 t ht
 simp only [List.mem_cons, List.not_mem_nil, or_false, forall_eq_or_imp, forall_eq] at T B
 obtain ⟨T0, T1, T2, T3, T4, T5, T6, T7, T8, T9, T10⟩ := T
 obtain ⟨B0, B1, B2, B3, B4, B5, B6, B7, B8, B9, B10⟩ := B
 have he : EntS ⟨t2.b, t3.n, t4.b, t5.n, t7.n, t8.b, t9.b, t10.b⟩ := { au := ⟨T2.2.2, h2.2⟩, seq := T3.2.1, prev := ⟨T4.2.2, h4.2⟩, stamp := T5.2.1, kind := T7.2.1, key := ⟨T8.2.2, by dsimp only; omega⟩, val := ⟨T9.2.2, by dsimp only; omega⟩, sig := ⟨T10.2.2, h10.2⟩, key' := by dsimp only; omega, val' := by dsimp only; omega }
 have hE := refentry_ok _ he
 have cs : ∀ x ∈ t8.b, 0 ≤ x ∧ x < 256 := fun x hx => T8.2.2 x hx
 refine Does.tidy [(2, .ptr 0 0), (4, .ro 11 (toksC [t0, t1, t2, t3, t4, t5, t6, t7, t8, t9, t10]))] [(0, zeroE), (2, ints kEnt), (3, ints sEnt)] 4 78 rfl rfl rfl (by kernel_rfl) (by kernel_rfl) ?_
 clear hd hlk hto hp c1
 refine wpc_sound (M := MF2) (PL := PLre) (CU := noCut) TTok mixed _ _ _ ?_
 conv => whnf
 refine ⟨by kernel_rfl, ?_⟩
 conv => whnf
 repeat ((first | refine ⟨rfl, ?_⟩ | refine ⟨_, rfl, ?_⟩ | (refine And.intro ?_ ?_; (focus (first | (simp [toksC_length]; done) | (simp [toksC_length]; omega))))); conv => whnf)
 refine ⟨?_, ?_⟩
 all_goals
  conv => whnf
  repeat ((first | refine ⟨rfl, ?_⟩ | (refine And.intro ?_ ?_; (focus (first | (simp [limB, lenB, offB]; done) | (simp [limB, lenB, offB]; omega))))); conv => whnf)
  refine ⟨t8.b, ⟨rfl, cs⟩, ?_⟩
  conv => whnf
  repeat ((first | refine ⟨(⟨by kernel_rfl, by kernel_rfl, Nat.le_of_ble_eq_true (by kernel_rfl)⟩ : AV.ones _ = true ∧ _ ∧ _), ?_⟩ | refine ⟨rfl, ?_⟩ | refine ⟨⟨rfl, rfl⟩, ?_⟩); conv => whnf)
  refine Does.tidy [(2, .ptr 0 0), (4, .ro 11 (toksC [t0, t1, t2, t3, t4, t5, t6, t7, t8, t9, t10])), (6, .ptr 4 0)] [(0, zeroE), (2, ints kEnt), (3, ints sEnt), (4, entC ⟨z32, t3.n, z32, t5.n, t7.n, t8.b, t9.b, z64⟩)] 5 78 rfl rfl rfl (by kernel_rfl) (by kernel_rfl) ?_
  refine wpc_sound (M := MF2) (PL := PLre) (CU := noCut) TTok mixed _ _ _ ?_
  conv => whnf
  refine ⟨by kernel_rfl, ?_⟩
  conv => whnf
  repeat ((first | (refine ⟨⟨by first | (simp only [List.drop_zero, List.length_drop, hds_len]; omega) | exact Nat.le_of_ble_eq_true (by kernel_rfl), okB_none _⟩, ?_⟩) | refine ⟨rfl, ?_⟩ | refine ⟨_, rfl, ?_⟩ | (refine And.intro ?_ ?_; (focus (first | (simp [limB, lenB, offB]; done) | (simp [limB, lenB, offB]; omega)))) | (refine And.intro ?_ ?_; (focus (first | (simp [toksC_length]; done) | (simp [toksC_length]; omega))))); conv => whnf)
  refine ⟨⟨ones_bys _, rfl, by rw [entC_length]; decide⟩, ?_⟩
  conv => whnf
  refine Does.tidy [(2, .ptr 0 0), (4, .ro 11 (toksC [t0, t1, t2, t3, t4, t5, t6, t7, t8, t9, t10])), (6, .ptr 4 0)] [(0, zeroE), (2, ints kEnt), (3, ints sEnt), (4, entC (⟨t2.b, t3.n, z32, t5.n, t7.n, t8.b, t9.b, z64⟩ : Ent))] 5 78 rfl rfl rfl (by kernel_rfl) (by rw [← set_au (e := (⟨z32, t3.n, z32, t5.n, t7.n, t8.b, t9.b, z64⟩ : Ent)) (l := t2.b) rfl h2.2]; kernel_rfl) ?_
  refine wpc_sound (M := MF2) (PL := PLre) (CU := noCut) TTok mixed _ _ _ ?_
  conv => whnf
  refine ⟨by kernel_rfl, ?_⟩
  conv => whnf
  repeat ((first | (refine ⟨⟨by first | (simp only [List.drop_zero, List.length_drop, hds_len]; omega) | exact Nat.le_of_ble_eq_true (by kernel_rfl), okB_none _⟩, ?_⟩) | refine ⟨rfl, ?_⟩ | refine ⟨_, rfl, ?_⟩ | (refine And.intro ?_ ?_; (focus (first | (simp [limB, lenB, offB]; done) | (simp [limB, lenB, offB]; omega)))) | (refine And.intro ?_ ?_; (focus (first | (simp [toksC_length]; done) | (simp [toksC_length]; omega))))); conv => whnf)
  refine ⟨⟨ones_bys _, rfl, by rw [entC_length]; decide⟩, ?_⟩
  conv => whnf
  refine Does.tidy [(2, .ptr 0 0), (4, .ro 11 (toksC [t0, t1, t2, t3, t4, t5, t6, t7, t8, t9, t10])), (6, .ptr 4 0)] [(0, zeroE), (2, ints kEnt), (3, ints sEnt), (4, entC (⟨t2.b, t3.n, t4.b, t5.n, t7.n, t8.b, t9.b, z64⟩ : Ent))] 5 78 rfl rfl rfl (by kernel_rfl) (by rw [← set_prev (e := (⟨t2.b, t3.n, z32, t5.n, t7.n, t8.b, t9.b, z64⟩ : Ent)) (l := t4.b) h2.2 rfl h4.2]; kernel_rfl) ?_
  refine wpc_sound (M := MF2) (PL := PLre) (CU := noCut) TTok mixed _ _ _ ?_
  conv => whnf
  refine ⟨by kernel_rfl, ?_⟩
  conv => whnf
  repeat ((first | (refine ⟨⟨by first | (simp only [List.drop_zero, List.length_drop, hds_len]; omega) | exact Nat.le_of_ble_eq_true (by kernel_rfl), okB_none _⟩, ?_⟩) | refine ⟨rfl, ?_⟩ | refine ⟨_, rfl, ?_⟩ | (refine And.intro ?_ ?_; (focus (first | (simp [limB, lenB, offB]; done) | (simp [limB, lenB, offB]; omega)))) | (refine And.intro ?_ ?_; (focus (first | (simp [toksC_length]; done) | (simp [toksC_length]; omega))))); conv => whnf)
  refine ⟨⟨ones_bys _, rfl, by rw [entC_length]; decide⟩, ?_⟩
  conv => whnf
  refine Does.tidy [(2, .ptr 0 0), (4, .ro 11 (toksC [t0, t1, t2, t3, t4, t5, t6, t7, t8, t9, t10])), (6, .ptr 4 0)] [(0, zeroE), (2, ints kEnt), (3, ints sEnt), (4, entC (⟨t2.b, t3.n, t4.b, t5.n, t7.n, t8.b, t9.b, t10.b⟩ : Ent))] 5 78 rfl rfl rfl (by kernel_rfl) (by rw [← set_sig (e := (⟨t2.b, t3.n, t4.b, t5.n, t7.n, t8.b, t9.b, z64⟩ : Ent)) (l := t10.b) h2.2 h4.2 rfl h10.2]; kernel_rfl) ?_
  generalize (⟨t2.b, t3.n, t4.b, t5.n, t7.n, t8.b, t9.b, t10.b⟩ : Ent) = e at he hE ⊢
  refine wpc_sound (M := MF2) (PL := PLre) (CU := noCut) TTok mixed _ _ _ ?_
  by_cases c2 : t1.n ≠ 1
  ·rw [if_pos c2]
   conv => whnf
   repeat ((first | refine ifB_t ?_ | (refine ifB_pos (decide_eq_true (by first | omega | rfl | (dsimp only; omega))) ?_) | refine ⟨(⟨by kernel_rfl, by kernel_rfl, Nat.le_of_ble_eq_true (by kernel_rfl)⟩ : AV.ones _ = true ∧ _ ∧ _), ?_⟩ | refine ⟨_, rfl, ?_⟩ | (refine And.intro ?_ ?_; (focus (first | (simp [toksC_length]; done) | (simp [toksC_length]; omega))))); conv => whnf)
   refine ent0_bool_dems (by kernel_rfl) ?_
   rfl
  rw [if_neg c2]
  conv => whnf
  repeat ((first | refine ifB_f ?_ | (refine ifB_neg (decide_eq_false (by first | omega | rfl | (dsimp only; omega))) ?_) | refine ⟨entC_pure _, ?_⟩ | refine ⟨rfl, ?_⟩ | refine ⟨_, rfl, ?_⟩ | (refine And.intro ?_ ?_; (focus (first | (simp [toksC_length]; done) | (simp [toksC_length]; omega))))); conv => whnf)
  cases c3 : entR e <;> rw [c3] at hE
  ·refine ⟨_, _, hE, by first | rfl | simp [noRoIf, noRoL, noRoV, noRoL_bys], ?_⟩
   conv => whnf
   repeat ((first | refine ifB_t ?_ | refine ifB_f ?_ | refine ⟨(⟨by kernel_rfl, by kernel_rfl, Nat.le_of_ble_eq_true (by kernel_rfl)⟩ : AV.ones _ = true ∧ _ ∧ _), ?_⟩ | refine ⟨_, rfl, ?_⟩); conv => whnf)
   refine ent0_bool_dems (by kernel_rfl) ?_
   rfl
  ·refine ⟨_, _, hE, by first | rfl | simp [noRoIf, noRoL, noRoV, noRoL_bys], ?_⟩
   conv => whnf
   repeat ((refine ifB_f ?_); conv => whnf)
   refine Does.tidy [(2, .ptr 0 0), (6, .ptr 4 0)] [(0, zeroE), (2, ints kEnt), (3, ints sEnt), (4, entC e)] 5 78 rfl rfl rfl (by kernel_rfl) (by kernel_rfl) ?_
   refine wpc_sound (M := MF2) (PL := PLre) (CU := noCut) TTok mixed _ _ _ ?_
   conv => whnf
   refine ⟨entC e, by kernel_rfl, ?_⟩
   conv => whnf
   refine ⟨(⟨by kernel_rfl, by kernel_rfl, Nat.le_of_ble_eq_true (by kernel_rfl)⟩ : AV.ones _ = true ∧ _ ∧ _), ?_⟩
   conv => whnf
   refine ⟨entC e, by kernel_rfl, ?_⟩
   conv => whnf
   refine ent_bool_dems (by kernel_rfl) ?_
   rfl
end
section
--KR
attribute [local irreducible] ifB fitP Does Weaker
theorem cmp_neg (x y : List Int) : decide (cmpI x y < 0) = bytesLt x y := by
 unfold cmpI
 cases h : bytesLt x y
 ·simp; split <;> omega
 ·simp
theorem prfR_eq {p : Prf} (hp : PrfS p) : prfR p = (entR p.a && entR p.b && decide (p.a.au = p.b.au) && decide (p.a.seq = p.b.seq) && bytesLt (encR validR (entTs p.a)).1 (encR validR (entTs p.b)).1) := by
 unfold prfR ordR
 rw [← entB_err hp.a, ← entB_err hp.b]
 by_cases c1 : (entB p.a).2 = 0
 ·by_cases c2 : (entB p.b).2 = 0
  ·rw [if_neg (by omega), if_neg (by omega), dt c1, dt c2]
   have x1 : (encR validR (entTs p.a)).1 = (entB p.a).1 := by rw [(entB_right c1).2]
   have x2 : (encR validR (entTs p.b)).1 = (entB p.b).1 := by rw [(entB_right c2).2]
   rw [x1, x2]
   by_cases c3 : p.a.au = p.b.au
   ·by_cases c4 : p.a.seq = p.b.seq
    ·rw [if_neg (fun h => h c3), if_neg (fun h => h c4), dt c3, dt c4, cmp_neg]; rfl
    ·rw [if_neg (fun h => h c3), if_pos c4, dt c3, df c4]; rfl
   ·rw [if_pos c3, df c3]; rfl
  ·rw [if_neg (by omega), if_pos c2, dt c1, df c2]; rfl
 ·rw [if_pos c1, df c1]; rfl
theorem enc_byt {e : Ent} (he : EntS e) : Byt (encR validR (entTs e)).1 := encR_byt _ (entTs_ok e he).1
def PLrp : Nat → Bool × Plan := plans [(1, (false, (takesTo [0, 1] (.all [(2, (takesTo [3, 4, 5] (.all [(6, (takesTo [7, 8, 9, 10, 11, 12, 13, 14, 15, 16, 17, 18, 19, 20, 21, 22, 23, 24, 25, 26, 27, 28, 31, 32] (.all [(29, (.all [(30, (.all [(33, (.all [(34, (takes [35, 36, 37]))]))])), (33, (.all [(30, (.all [(34, (takes [35, 36, 37]))])), (34, (.all [(30, (takes [35, 36, 37]))]))]))]))])))])))]))))]
set_option maxRecDepth 20000 in
set_option maxHeartbeats 4000000 in
theorem refproof_ok (p : Prf) (hp : PrfS p) : ACall Tryd.prog 71 [.agg (prfC p)] (.bool (prfR p)) [] := by
 rw [prfR_eq hp]
 have h1 := refentry_ok p.a hp.a
 have h2 := refentry_ok p.b hp.b
 have h3 := refebytes_ok p.a hp.a
 have h4 := refebytes_ok p.b hp.b
 have b1 := enc_byt hp.a
 have b2 := enc_byt hp.b
 generalize (encR validR (entTs p.a)).1 = x at h3 b1 ⊢
 generalize (encR validR (entTs p.b)).1 = y at h4 b2 ⊢
 refine ACall.of_does TTok Tryd.func71 rfl Tryd.call71 rfl (wpc_sound (M := MF) (PL := PLrp) (CU := cutAt [100001]) TTok mixed _ _ _ ?_)
 conv => whnf
 repeat ((refine ⟨rfl, ?_⟩); conv => whnf)
 refine Does.freeze 0 rfl (Does.tidy [(1, .rop (prfC p))] [] 1 40 rfl rfl rfl (by kernel_rfl) (by kernel_rfl) ?_)
 refine wpc_sound (M := MF) (PL := PLrp) (CU := noCut) TTok mixed _ _ _ ?_
 conv => whnf
 refine ⟨by kernel_rfl, ?_⟩
 cases c1 : entR p.a <;> rw [c1] at h1
 ·conv => whnf
  repeat ((first | refine ⟨entC_pure _, ?_⟩ | refine ⟨rfl, ?_⟩ | refine ⟨_, rfl, ?_⟩); conv => whnf)
  refine ⟨_, _, h1, by first | rfl | simp [noRoIf, noRoL, noRoV, noRoL_bys], ?_⟩
  conv => whnf
  repeat ((first | refine ifB_f ?_ | refine ⟨rfl, ?_⟩); conv => whnf)
  conv => whnf
  repeat' (first | (refine ifB_f ?_; (conv => whnf)) | (refine ⟨rfl, ?_⟩; (conv => whnf)) | (rfl) | (refine ⟨_, rfl, ?_⟩; conv => whnf) | (refine And.intro ?_ ?_ <;> conv => whnf))
 cases c2 : entR p.b <;> rw [c2] at h2
 ·conv => whnf
  repeat ((first | refine ⟨entC_pure _, ?_⟩ | refine ⟨rfl, ?_⟩ | refine ⟨_, rfl, ?_⟩); conv => whnf)
  refine ⟨_, _, h1, by first | rfl | simp [noRoIf, noRoL, noRoV, noRoL_bys], ?_⟩
  conv => whnf
  repeat ((first | refine ifB_t ?_ | refine ⟨entC_pure _, ?_⟩ | refine ⟨rfl, ?_⟩ | refine ⟨_, rfl, ?_⟩); conv => whnf)
  refine ⟨_, _, h2, by first | rfl | simp [noRoIf, noRoL, noRoV, noRoL_bys], ?_⟩
  conv => whnf
  repeat ((first | refine ifB_t ?_ | refine ifB_f ?_ | refine ⟨rfl, ?_⟩); conv => whnf)
  conv => whnf
  repeat' (first | (refine ifB_f ?_; (conv => whnf)) | (refine ⟨rfl, ?_⟩; (conv => whnf)) | (rfl) | (refine ⟨_, rfl, ?_⟩; conv => whnf) | (refine And.intro ?_ ?_ <;> conv => whnf))
 by_cases c3 : p.a.au = p.b.au
 ·rw [dt c3]
  by_cases c4 : p.a.seq = p.b.seq
  ·rw [dt c4]
   conv => whnf
   repeat ((first | refine ⟨entC_pure _, ?_⟩ | refine ⟨rfl, ?_⟩ | refine ⟨_, rfl, ?_⟩); conv => whnf)
   refine ⟨_, _, h1, by first | rfl | simp [noRoIf, noRoL, noRoV, noRoL_bys], ?_⟩
   conv => whnf
   repeat ((first | refine ifB_t ?_ | refine ⟨entC_pure _, ?_⟩ | refine ⟨rfl, ?_⟩ | refine ⟨_, rfl, ?_⟩); conv => whnf)
   refine ⟨_, _, h2, by first | rfl | simp [noRoIf, noRoL, noRoV, noRoL_bys], ?_⟩
   conv => whnf
   repeat ((first | refine ifB_t ?_ | refine ⟨rfl, ?_⟩ | refine ⟨_, rfl, ?_⟩); conv => whnf)
   refine ⟨p.a.au, p.b.au, ⟨rfl, c32_map hp.a.au.2, c32_map hp.b.au.2, hp.a.au.2, hp.b.au.2⟩, ?_⟩
   conv => whnf
   repeat ((first | refine ifB_t ?_ | (refine ifB_pos (decide_eq_true (by first | omega | rfl | (dsimp only; omega))) ?_) | refine ⟨entC_pure _, ?_⟩ | refine ⟨rfl, ?_⟩ | refine ⟨_, rfl, ?_⟩); conv => whnf)
   rw [dt c3]
   conv => whnf
   refine ⟨_, _, h3, by first | rfl | simp [noRoIf, noRoL, noRoV, noRoL_bys], ?_⟩
   conv => whnf
   refine ⟨?_, ?_⟩
   ·conv => whnf
    repeat ((first | refine ifB_t ?_ | (refine Or.inl ⟨⟨rfl, ?_⟩, ?_⟩; (focus (first | rfl | (simp; done) | (rw [toksC_length]; omega))))); conv => whnf)
    refine ⟨x, ⟨by first | rfl | (simp [bys]; done) | exact whole_bys x, b1⟩, ?_⟩
    conv => whnf
    repeat ((first | refine ifB_t ?_ | refine ⟨entC_pure _, ?_⟩ | refine ⟨rfl, ?_⟩); conv => whnf)
    refine ⟨_, _, h4, by first | rfl | simp [noRoIf, noRoL, noRoV, noRoL_bys], ?_⟩
    conv => whnf
    repeat ((first | refine ifB_t ?_ | (refine Or.inl ⟨⟨rfl, ?_⟩, ?_⟩; (focus (first | rfl | (simp; done) | (rw [toksC_length]; omega))))); conv => whnf)
    refine ⟨y, ⟨by first | rfl | (simp [bys]; done) | exact whole_bys y, b2⟩, ?_⟩
    conv => whnf
    repeat ((first | refine ifB_t ?_ | refine ⟨rfl, ?_⟩); conv => whnf)
    rfl
   ·conv => whnf
    repeat ((first | refine ifB_t ?_ | refine ⟨entC_pure _, ?_⟩ | refine ⟨rfl, ?_⟩); conv => whnf)
    refine ⟨_, _, h4, by first | rfl | simp [noRoIf, noRoL, noRoV, noRoL_bys], ?_⟩
    conv => whnf
    refine ⟨?_, ?_⟩
    ·conv => whnf
     repeat ((first | refine ifB_t ?_ | (refine Or.inl ⟨⟨rfl, ?_⟩, ?_⟩; (focus (first | rfl | (simp; done) | (rw [toksC_length]; omega))))); conv => whnf)
     refine ⟨x, ⟨by first | rfl | (simp [bys]; done) | exact whole_bys x, b1⟩, ?_⟩
     conv => whnf
     repeat ((first | refine ifB_t ?_ | (refine Or.inl ⟨⟨rfl, ?_⟩, ?_⟩; (focus (first | rfl | (simp; done) | (rw [toksC_length]; omega))))); conv => whnf)
     refine ⟨y, ⟨by first | rfl | (simp [bys]; done) | exact whole_bys y, b2⟩, ?_⟩
     conv => whnf
     repeat ((first | refine ifB_t ?_ | refine ⟨rfl, ?_⟩); conv => whnf)
     rfl
    ·conv => whnf
     repeat ((first | refine ifB_t ?_ | (refine Or.inl ⟨⟨rfl, ?_⟩, ?_⟩; (focus (first | rfl | (simp; done) | (rw [toksC_length]; omega))))); conv => whnf)
     refine ⟨y, ⟨by first | rfl | (simp [bys]; done) | exact whole_bys y, b2⟩, ?_⟩
     conv => whnf
     repeat ((first | refine ifB_t ?_ | (refine Or.inl ⟨⟨rfl, ?_⟩, ?_⟩; (focus (first | rfl | (simp; done) | (rw [toksC_length]; omega))))); conv => whnf)
     refine ⟨x, ⟨by first | rfl | (simp [bys]; done) | exact whole_bys x, b1⟩, ?_⟩
     conv => whnf
     repeat ((first | refine ifB_t ?_ | refine ⟨rfl, ?_⟩); conv => whnf)
     rfl
  ·rw [df c4]
   conv => whnf
   repeat ((first | refine ⟨entC_pure _, ?_⟩ | refine ⟨rfl, ?_⟩ | refine ⟨_, rfl, ?_⟩); conv => whnf)
   refine ⟨_, _, h1, by first | rfl | simp [noRoIf, noRoL, noRoV, noRoL_bys], ?_⟩
   conv => whnf
   repeat ((first | refine ifB_t ?_ | refine ⟨entC_pure _, ?_⟩ | refine ⟨rfl, ?_⟩ | refine ⟨_, rfl, ?_⟩); conv => whnf)
   refine ⟨_, _, h2, by first | rfl | simp [noRoIf, noRoL, noRoV, noRoL_bys], ?_⟩
   conv => whnf
   repeat ((first | refine ifB_t ?_ | refine ⟨rfl, ?_⟩ | refine ⟨_, rfl, ?_⟩); conv => whnf)
   refine ⟨p.a.au, p.b.au, ⟨rfl, c32_map hp.a.au.2, c32_map hp.b.au.2, hp.a.au.2, hp.b.au.2⟩, ?_⟩
   conv => whnf
   repeat ((first | refine ifB_t ?_ | refine ifB_f ?_ | (refine ifB_neg (decide_eq_false (by first | omega | rfl | (dsimp only; omega))) ?_) | (refine ifB_pos (decide_eq_true (by first | omega | rfl | (dsimp only; omega))) ?_) | refine ⟨rfl, ?_⟩ | refine ⟨_, rfl, ?_⟩); conv => whnf)
   rw [dt c3]
   conv => whnf
   conv => whnf
   repeat' (first | (refine ifB_f ?_; (conv => whnf)) | (refine ⟨rfl, ?_⟩; (conv => whnf)) | (rfl) | (refine ⟨_, rfl, ?_⟩; conv => whnf) | (refine And.intro ?_ ?_ <;> conv => whnf))
 ·rw [df c3]
  conv => whnf
  repeat ((first | refine ⟨entC_pure _, ?_⟩ | refine ⟨rfl, ?_⟩ | refine ⟨_, rfl, ?_⟩); conv => whnf)
  refine ⟨_, _, h1, by first | rfl | simp [noRoIf, noRoL, noRoV, noRoL_bys], ?_⟩
  conv => whnf
  repeat ((first | refine ifB_t ?_ | refine ⟨entC_pure _, ?_⟩ | refine ⟨rfl, ?_⟩ | refine ⟨_, rfl, ?_⟩); conv => whnf)
  refine ⟨_, _, h2, by first | rfl | simp [noRoIf, noRoL, noRoV, noRoL_bys], ?_⟩
  conv => whnf
  repeat ((first | refine ifB_t ?_ | refine ⟨rfl, ?_⟩ | refine ⟨_, rfl, ?_⟩); conv => whnf)
  refine ⟨p.a.au, p.b.au, ⟨rfl, c32_map hp.a.au.2, c32_map hp.b.au.2, hp.a.au.2, hp.b.au.2⟩, ?_⟩
  conv => whnf
  repeat ((first | refine ifB_t ?_ | refine ifB_f ?_ | (refine ifB_neg (decide_eq_false (by first | omega | rfl | (dsimp only; omega))) ?_) | refine ⟨rfl, ?_⟩); conv => whnf)
  rw [df c3]
  conv => whnf
  conv => whnf
  repeat' (first | (refine ifB_f ?_; (conv => whnf)) | (refine ⟨rfl, ?_⟩; (conv => whnf)) | (rfl) | (refine ⟨_, rfl, ?_⟩; conv => whnf) | (refine And.intro ?_ ?_ <;> conv => whnf))
end
section
--KR
attribute [local irreducible] ifB fitP Does Weaker
end
section
--KR
attribute [local irreducible] ifB fitP Does Weaker demsP
def kPrf : List Int := [5, 1, 3, 3]
def sPrf : List Int := [3, -1, -1, -1]
theorem like_prf (x y : List Int) : likeR [⟨5, 3, []⟩, ⟨1, 2, []⟩, ⟨3, 0, x⟩, ⟨3, 0, y⟩] kPrf sPrf = true := by
 unfold likeR
 simp [List.range_succ, likeAt, kPrf, sPrf]
theorem like_inv4 {l : List Tok} (h : likeR l kPrf sPrf = true) : ∃ t0 t1 t2 t3 : Tok, l = [t0, t1, t2, t3] ∧ (t0.k = 5 ∧ t0.n = 3) ∧ t1.k = 1 ∧ t2.k = 3 ∧ t3.k = 3 := by
 unfold likeR at h
 rw [Bool.and_eq_true] at h
 obtain ⟨h1, h2⟩ := h
 have h1 := of_decide_eq_true h1
 match l, h1 with
 | [t0, t1, t2, t3], _ =>
  refine ⟨t0, t1, t2, t3, rfl, ?_⟩
  rw [List.all_eq_true] at h2
  have g := fun i (hi : i < 4) => h2 i (List.mem_range.2 hi)
  have g0 := g 0 (by decide); have g1 := g 1 (by decide); have g2 := g 2 (by decide); have g3 := g 3 (by decide)
  simp [likeAt, kPrf, sPrf] at g0 g1 g2 g3
  have a0 := g0.1
  rw [a0] at g0
  simp at g0
  exact ⟨⟨a0, g0⟩, g1, g2, g3⟩
theorem prfB_dec {p : Prf} (hp : PrfS p) {b : List Int} (h : prfB p = (b, 0)) : decR validR b = ([⟨5, 3, []⟩, ⟨1, 2, []⟩, ⟨3, 0, (entB p.a).1⟩, ⟨3, 0, (entB p.b).1⟩], 0) := by
 unfold prfB at h
 split at h
 ·exact decR_enc (prf_toks hp) h
 ·cases h
theorem rdPrf_or (b : List Int) : rdPrf b = (prf0, 3) ∨ (rdPrf b).2 = 0 := rdP_or _
theorem rdPrf_no {b : List Int} (h : ∀ x y, decR validR b ≠ ([⟨5, 3, []⟩, ⟨1, 2, []⟩, ⟨3, 0, x⟩, ⟨3, 0, y⟩], 0)) (hb : Byt b) (hl : b.length ≤ 1000000000) : rdPrf b = (prf0, 3) := by
 rcases rdPrf_or b with h' | h'
 ·exact h'
 ·exact absurd (prfB_dec (rdPrf_prfS hb hl).1 (rdPrf_inv h').1) (h _ _)
theorem rdPrf_yes {b : List Int} {t0 t1 t2 t3 : Tok} (hd : decR validR b = ([t0, t1, t2, t3], 0)) (h0 : t0.k = 5 ∧ t0.n = 3) (h1 : t1.k = 1) (h2 : t2.k = 3) (h3 : t3.k = 3) :
  rdPrf b = if t1.n ≠ 2 then (prf0, 3) else if (rdEnt t2.b).2 ≠ 0 then (prf0, 3) else if (rdEnt t3.b).2 ≠ 0 then (prf0, 3) else if prfR ⟨(rdEnt t2.b).1, (rdEnt t3.b).1⟩ = true then (⟨(rdEnt t2.b).1, (rdEnt t3.b).1⟩, 0) else (prf0, 3) := by
 have ho : rOpen b = ⟨[t0, t1, t2, t3], false⟩ := by unfold rOpen; rw [hd]; rfl
 split
 ·rename_i c
  rcases rdPrf_or b with h' | h'
  ·exact h'
  ·exfalso
   unfold rdPrf at h'
   obtain ⟨u2, u3, e, _⟩ := rdP_inv h'
   obtain ⟨v0, v1, q, e1, _, _, _, n1, _⟩ := rWant_inv (m := 3) (f := 2) (r := rOpen b) (by rw [e])
   rw [ho] at e1
   injection e1 with e1 _
   injection e1 with _ e1
   injection e1 with e1 _
   subst e1
   exact c n1
 ·rename_i c
  unfold rdPrf
  rw [ho, rWant_cons h0.1 h0.2 h1 (Classical.not_not.1 c), rdP_cons h2 h3]
theorem prf_bool_dems {H : Heap} {p : Prf} {n : Bool} {zs : List AV} {K : List Nat → Prop} (hz : zs = prfC p) (h : K []) : demsP H [.tuple [.agg (prfC p), .bool n]] [.tuple [.agg zs, .bool n]] K := by
 subst hz
 simp only [demsP, demP]
 refine ent_dems' p.a ?_
 refine ent_dems p.b ?_
 simpa only [and_self, true_and, List.nil_append] using h
theorem prf0_bool_dems {H : Heap} {n : Bool} {zs : List AV} {K : List Nat → Prop} (hz : zs = zeroE ++ zeroE) (h : K []) : demsP H [.tuple [.agg (prfC prf0), .bool n]] [.tuple [.agg zs, .bool n]] K := by
 subst hz
 simp only [demsP, demP]
 refine ent0_dems' ?_
 refine ent0_dems ?_
 simpa only [and_self, true_and, List.nil_append] using h
set_option maxRecDepth 20000 in
set_option maxHeartbeats 4000000 in
theorem refpread_ok (b : List Int) (hb : Byt b) (hl : b.length ≤ 1000000000) : ACall Tryd.prog 53 [.ro b.length (bys b)] (.tuple [.agg (prfC (rdPrf b).1), .bool (decide ((rdPrf b).2 = 0))]) [] := by
 have hd := refDecode_ok b hb (by omega)
 refine ACall.of_does TTok Tryd.func53 rfl Tryd.call53 rfl (wpc_sound (M := MF2) (PL := PL0) (CU := cutAt [100002, 100004, 100005, 100006, 100007, 100009]) TTok mixed _ _ _ ?_)
 rcases decR_or validR b with hq | ⟨l, hq, _, hp⟩
 ·have hr : rdPrf b = (prf0, 3) := rdPrf_no (fun x y he => by rw [he] at hq; cases hq) hb hl
  rw [hq] at hd
  rw [hr]
  conv => whnf
  repeat ((first | refine ⟨pureL_bys _, ?_⟩ | refine ⟨rfl, ?_⟩); conv => whnf)
  refine ⟨_, _, hd, by first | rfl | simp [noRoIf, noRoL, noRoV, noRoL_bys], ?_⟩
  conv => whnf
  refine wpc_sound (M := MF2) (PL := PL0) (CU := noCut) TTok mixed _ _ _ ?_
  conv => whnf
  repeat ((first | refine ifB_t ?_ | refine ⟨(⟨by kernel_rfl, by kernel_rfl, Nat.le_of_ble_eq_true (by kernel_rfl)⟩ : AV.ones _ = true ∧ _ ∧ _), ?_⟩ | refine ⟨_, rfl, ?_⟩); conv => whnf)
  refine prf0_bool_dems (by kernel_rfl) ?_
  rfl
 have hto := pItem_toks b hb 7 ⟨0, [], false⟩ ⟨by simp [ToksOk], by simp⟩
 rw [hp] at hto
 have hlen : l.length ≤ 600 := by
  have := rOpen_len b
  unfold rOpen at this
  rw [hq] at this
  exact this
 rw [hq] at hd
 have hlk := like_ok l kPrf sPrf rfl (by omega) (by decide)
 conv => whnf
 repeat ((first | refine ⟨pureL_bys _, ?_⟩ | refine ⟨rfl, ?_⟩); conv => whnf)
 refine ⟨_, _, hd, by first | rfl | simp [noRoIf, noRoL, noRoV, noRoL_bys], ?_⟩
 conv => whnf
 refine Does.freeze 1 rfl (Does.tidy [(2, .ptr 0 0), (4, .ro l.length (List.take (l.length * 3) (List.drop 0 (toksC l)))), (5, .bool true)] [(0, zeroE ++ zeroE)] 2 65 rfl rfl rfl (by kernel_rfl) (by kernel_rfl) ?_)
 rw [whole_toks]
 refine wpc_sound (M := MF2) (PL := PL0) (CU := noCut) TTok mixed _ _ _ ?_
 cases c1 : likeR l kPrf sPrf <;> rw [c1] at hlk
 ·rw [rdPrf_no (fun x y he => by rw [hq] at he; injection he with he _; rw [he, like_prf] at c1; cases c1) hb hl]
  conv => whnf
  repeat ((first | refine ifB_f ?_ | (refine Or.inl ⟨⟨rfl, ?_⟩, ?_⟩; (focus (first | rfl | (simp; done) | (rw [toksC_length]; omega)))) | refine ⟨rfl, ?_⟩ | (refine And.intro ?_ ?_; (focus (first | (simp only [pureL, pureV, pureL_bys, Bool.and_true, Bool.and_self]; done) | (simp only [pureL, pureV, pureL_bys, pureL_toks, Bool.and_true, Bool.and_self]; done))))); conv => whnf)
  refine ⟨_, _, hlk, by first | rfl | simp [noRoIf, noRoL, noRoV, noRoL_bys], ?_⟩
  conv => whnf
  repeat ((first | refine ifB_t ?_ | refine ifB_f ?_ | refine ⟨(⟨by kernel_rfl, by kernel_rfl, Nat.le_of_ble_eq_true (by kernel_rfl)⟩ : AV.ones _ = true ∧ _ ∧ _), ?_⟩ | refine ⟨_, rfl, ?_⟩); conv => whnf)
  refine prf0_bool_dems (by kernel_rfl) ?_
  rfl
 obtain ⟨t0, t1, t2, t3, rfl, h0, h1, h2, h3⟩ := like_inv4 c1
 rw [rdPrf_yes hq h0 h1 h2 h3]
 conv => whnf
 repeat ((first | refine ifB_f ?_ | (refine Or.inl ⟨⟨rfl, ?_⟩, ?_⟩; (focus (first | rfl | (simp; done) | (rw [toksC_length]; omega)))) | refine ⟨rfl, ?_⟩ | (refine And.intro ?_ ?_; (focus (first | (simp only [pureL, pureV, pureL_bys, Bool.and_true, Bool.and_self]; done) | (simp only [pureL, pureV, pureL_bys, pureL_toks, Bool.and_true, Bool.and_self]; done))))); conv => whnf)
 refine ⟨_, _, hlk, by first | rfl | simp [noRoIf, noRoL, noRoV, noRoL_bys], ?_⟩
 conv => whnf
 repeat ((refine ifB_f ?_); conv => whnf)
 have T := fun t (ht : t ∈ [t0, t1, t2, t3]) => hto.1 t ht
 have B := fun t (ht : t ∈ [t0, t1, t2, t3]) => hto.2 t ht
 simp only [List.mem_cons, List.not_mem_nil, or_false, forall_eq_or_imp, forall_eq] at T B
 obtain ⟨T0, T1, T2, T3⟩ := T
 obtain ⟨B0, B1, B2, B3⟩ := B
 have h5 := refread_ok t2.b T2.2.2 (by omega)
 have e5 := (rdEnt_entS T2.2.2 (show t2.b.length ≤ 1000000000 by omega)).1
 generalize rdEnt t2.b = q at h5 e5 ⊢
 obtain ⟨x, e⟩ := q
 have h6 := refread_ok t3.b T3.2.2 (by omega)
 have e6 := (rdEnt_entS T3.2.2 (show t3.b.length ≤ 1000000000 by omega)).1
 generalize rdEnt t3.b = q at h6 e6 ⊢
 obtain ⟨y, f⟩ := q
 dsimp only at h5 e5 h6 e6 ⊢
 have h7 := refproof_ok ⟨x, y⟩ ⟨e5, e6⟩
 refine Does.tidy [(2, .ptr 0 0), (4, .ro 4 (toksC [t0, t1, t2, t3]))] [(0, zeroE ++ zeroE), (2, ints kPrf), (3, ints sPrf)] 4 65 rfl rfl rfl (by kernel_rfl) (by kernel_rfl) ?_
 clear hd hlk hto hp c1
 refine wpc_sound (M := MF2) (PL := PL0) (CU := noCut) TTok mixed _ _ _ ?_
 conv => whnf
 repeat ((first | refine ⟨pureL_bys _, ?_⟩ | refine ⟨rfl, ?_⟩ | refine ⟨_, rfl, ?_⟩ | (refine And.intro ?_ ?_; (focus (first | (simp [toksC_length]; done) | (simp [toksC_length]; omega))))); conv => whnf)
 refine ⟨_, _, h5, by first | rfl | simp [noRoIf, noRoL, noRoV, noRoL_bys], ?_⟩
 conv => whnf
 repeat ((first | refine ⟨(⟨by kernel_rfl, by kernel_rfl, Nat.le_of_ble_eq_true (by kernel_rfl)⟩ : AV.ones _ = true ∧ _ ∧ _), ?_⟩ | refine ⟨rfl, ?_⟩); conv => whnf)
 refine Does.tidy [(2, .ptr 0 0), (4, .ro 4 (toksC [t0, t1, t2, t3])), (6, .ptr 4 0), (7, .bool (decide (e = 0)))] [(0, zeroE ++ zeroE), (2, ints kPrf), (3, ints sPrf), (4, entC x)] 5 65 rfl rfl rfl (by kernel_rfl) (by kernel_rfl) ?_
 refine wpc_sound (M := MF2) (PL := PL0) (CU := noCut) TTok mixed _ _ _ ?_
 conv => whnf
 repeat ((first | refine ⟨pureL_bys _, ?_⟩ | refine ⟨rfl, ?_⟩ | refine ⟨_, rfl, ?_⟩ | (refine And.intro ?_ ?_; (focus (first | (simp [toksC_length]; done) | (simp [toksC_length]; omega))))); conv => whnf)
 refine ⟨_, _, h6, by first | rfl | simp [noRoIf, noRoL, noRoV, noRoL_bys], ?_⟩
 conv => whnf
 repeat ((first | refine ⟨(⟨by kernel_rfl, by kernel_rfl, Nat.le_of_ble_eq_true (by kernel_rfl)⟩ : AV.ones _ = true ∧ _ ∧ _), ?_⟩ | refine ⟨rfl, ?_⟩); conv => whnf)
 refine Does.tidy [(2, .ptr 0 0), (4, .ro 4 (toksC [t0, t1, t2, t3])), (6, .ptr 4 0), (7, .bool (decide (e = 0))), (8, .ptr 5 0), (9, .bool (decide (f = 0)))] [(0, zeroE ++ zeroE), (2, ints kPrf), (3, ints sPrf), (4, entC x), (5, entC y)] 6 65 rfl rfl rfl (by kernel_rfl) (by kernel_rfl) ?_
 clear h5 h6
 refine wpc_sound (M := MF2) (PL := PL0) (CU := noCut) TTok mixed _ _ _ ?_
 conv => whnf
 repeat ((first | refine ⟨(⟨by kernel_rfl, by kernel_rfl, Nat.le_of_ble_eq_true (by kernel_rfl)⟩ : AV.ones _ = true ∧ _ ∧ _), ?_⟩ | refine ⟨rfl, ?_⟩ | refine ⟨_, rfl, ?_⟩ | refine ⟨⟨rfl, rfl⟩, ?_⟩); conv => whnf)
 refine Does.tidy [(2, .ptr 0 0), (4, .ro 4 (toksC [t0, t1, t2, t3])), (7, .bool (decide (e = 0))), (9, .bool (decide (f = 0))), (10, .ptr 6 0)] [(0, zeroE ++ zeroE), (2, ints kPrf), (3, ints sPrf), (4, entC x), (5, entC y), (6, prfC ⟨x, y⟩)] 7 65 rfl rfl rfl (by kernel_rfl) (by kernel_rfl) ?_
 refine wpc_sound (M := MF2) (PL := PL0) (CU := noCut) TTok mixed _ _ _ ?_
 by_cases c1 : t1.n ≠ 2
 ·rw [if_pos c1]
  conv => whnf
  repeat ((first | refine ifB_t ?_ | (refine ifB_pos (decide_eq_true (by first | omega | rfl | (dsimp only; omega))) ?_) | refine ⟨(⟨by kernel_rfl, by kernel_rfl, Nat.le_of_ble_eq_true (by kernel_rfl)⟩ : AV.ones _ = true ∧ _ ∧ _), ?_⟩ | refine ⟨_, rfl, ?_⟩ | (refine And.intro ?_ ?_; (focus (first | (simp [toksC_length]; done) | (simp [toksC_length]; omega))))); conv => whnf)
  refine prf0_bool_dems (by kernel_rfl) ?_
  rfl
 rw [if_neg c1]
 by_cases c2 : e ≠ 0
 ·rw [if_pos c2, df c2]
  conv => whnf
  repeat ((first | refine ifB_t ?_ | refine ifB_f ?_ | (refine ifB_neg (decide_eq_false (by first | omega | rfl | (dsimp only; omega))) ?_) | refine ⟨(⟨by kernel_rfl, by kernel_rfl, Nat.le_of_ble_eq_true (by kernel_rfl)⟩ : AV.ones _ = true ∧ _ ∧ _), ?_⟩ | refine ⟨_, rfl, ?_⟩ | (refine And.intro ?_ ?_; (focus (first | (simp [toksC_length]; done) | (simp [toksC_length]; omega))))); conv => whnf)
  refine prf0_bool_dems (by kernel_rfl) ?_
  rfl
 rw [if_neg c2, dt (Classical.not_not.1 c2)]
 by_cases c3 : f ≠ 0
 ·rw [if_pos c3, df c3]
  conv => whnf
  repeat ((first | refine ifB_t ?_ | refine ifB_f ?_ | (refine ifB_neg (decide_eq_false (by first | omega | rfl | (dsimp only; omega))) ?_) | refine ⟨(⟨by kernel_rfl, by kernel_rfl, Nat.le_of_ble_eq_true (by kernel_rfl)⟩ : AV.ones _ = true ∧ _ ∧ _), ?_⟩ | refine ⟨_, rfl, ?_⟩ | (refine And.intro ?_ ?_; (focus (first | (simp [toksC_length]; done) | (simp [toksC_length]; omega))))); conv => whnf)
  refine prf0_bool_dems (by kernel_rfl) ?_
  rfl
 rw [if_neg c3, dt (Classical.not_not.1 c3)]
 generalize (⟨x, y⟩ : Prf) = p at h7 ⊢
 conv => whnf
 repeat ((first | refine ifB_f ?_ | (refine ifB_neg (decide_eq_false (by first | omega | rfl | (dsimp only; omega))) ?_) | refine ⟨rfl, ?_⟩ | refine ⟨_, rfl, ?_⟩ | (refine And.intro ?_ ?_; (focus (first | (simp only [pureL, pureV, pureL_bys, Bool.and_true, Bool.and_self]; done) | (simp only [pureL, pureV, pureL_bys, pureL_toks, Bool.and_true, Bool.and_self]; done)))) | (refine And.intro ?_ ?_; (focus (first | (simp [toksC_length]; done) | (simp [toksC_length]; omega))))); conv => whnf)
 cases c4 : prfR p <;> rw [c4] at h7
 ·refine ⟨_, _, h7, by first | rfl | simp [noRoIf, noRoL, noRoV, noRoL_bys], ?_⟩
  conv => whnf
  repeat ((first | refine ifB_t ?_ | refine ifB_f ?_ | refine ⟨(⟨by kernel_rfl, by kernel_rfl, Nat.le_of_ble_eq_true (by kernel_rfl)⟩ : AV.ones _ = true ∧ _ ∧ _), ?_⟩ | refine ⟨_, rfl, ?_⟩); conv => whnf)
  refine prf0_bool_dems (by kernel_rfl) ?_
  rfl
 ·refine ⟨_, _, h7, by first | rfl | simp [noRoIf, noRoL, noRoV, noRoL_bys], ?_⟩
  conv => whnf
  repeat ((refine ifB_f ?_); conv => whnf)
  refine Does.tidy [(2, .ptr 0 0), (10, .ptr 6 0)] [(0, zeroE ++ zeroE), (2, ints kPrf), (3, ints sPrf), (4, entC x), (5, entC y), (6, prfC p)] 7 65 rfl rfl rfl (by kernel_rfl) (by kernel_rfl) ?_
  refine wpc_sound (M := MF2) (PL := PL0) (CU := noCut) TTok mixed _ _ _ ?_
  conv => whnf
  refine ⟨prfC p, by kernel_rfl, ?_⟩
  conv => whnf
  refine ⟨(⟨by kernel_rfl, by kernel_rfl, Nat.le_of_ble_eq_true (by kernel_rfl)⟩ : AV.ones _ = true ∧ _ ∧ _), ?_⟩
  conv => whnf
  refine ⟨prfC p, by kernel_rfl, ?_⟩
  conv => whnf
  refine prf_bool_dems (by kernel_rfl) ?_
  rfl
end
section
--KR
attribute [local irreducible] ifB fitP Does Weaker
def PLrh : Nat → Bool × Plan := plans [(7, (false, (takesTo [0, 1] (.all [(2, (takesTo [3, 4, 5, 6, 7, 8, 9, 10, 11, 12, 13, 14, 15, 16, 17, 18, 19, 20, 21, 22, 23, 24, 25, 26, 27, 28, 29, 31, 32, 33, 34, 35, 36] (.all [(30, (.all [(37, (takes [38, 39, 40]))])), (37, (.all [(30, (takes [38, 39, 40]))]))])))]))))]
theorem lt_flip (a b : List Int) : (bytesLt a b || decide (a = b)) = !bytesLt b a := lt_tri a b
set_option maxHeartbeats 2000000 in
theorem refheads_ok (l : List Hd) (hl : ∀ h ∈ l, HdS h) (hn : l.length ≤ 1000000000) : ACall Tryd.prog 70 [.ro l.length (rowsC hdC l)] (.bool (headsR l)) [] := by
 refine ACall.of_does TTok Tryd.func70 rfl Tryd.call70 rfl (wpc_sound (M := MF) (PL := PLrh) (CU := noCut) TTok mixed _ _ _ ?_)
 conv => whnf
 refine ifB_dec (fun c0 => ?_) (fun c0 => ?_)
 ·have : headsR l = false := by unfold headsR; rw [df (show ¬ l.length ≤ 8 by omega)]; rfl
  rw [this]
  conv => whnf
  repeat ((refine ⟨rfl, ?_⟩); conv => whnf)
  rfl
 conv => whnf
 refine Does.loop (fun c : Nat => mkSt [(0, .ro l.length (rowsC hdC l)), (3, .int .i64 c)] [] 0 59)
  (fun c => c ≤ l.length ∧ (List.range c).all (hdAt l) = true) (fun c => l.length - c) ?_ 0 ⟨Nat.zero_le _, rfl⟩ ?_
 ·rintro c ⟨hc, hx⟩
  rcases Nat.lt_or_ge c l.length with c1 | c1
  ·have hh := hl _ (List.getElem_mem c1)
   have e : hdAt l c = ((decide (c = 0) || bytesLt (l.getD (c - 1) hd0).au l[c].au) && hdR l[c]) := by
    unfold hdAt; rw [List.getD_eq_getElem?_getD (i := c), List.getElem?_eq_getElem c1]; rfl
   refine wpc_sound (M := MF) (PL := PLrh) (CU := cutAt [100007]) TTok mixed _ _ _ ?_
   conv => whnf
   repeat ((first | (refine ifB_pos (decide_eq_true (by first | omega | rfl | (dsimp only; omega))) ?_) | (refine ⟨⟨?_, ?_, ?_⟩, ?_⟩; (focus omega); (focus (first | omega | (simp; done) | (simp; omega))); (focus (first | (rw [prfs_len]; simp; omega) | (rw [ents_len]; simp; omega) | (rw [hds_len]; simp; omega) | (rw [lets_len]; simp; omega))))); conv => whnf)
   refine ⟨_, takeN_row hdC_length c1 (by simp; omega) rfl, ?_⟩
   conv => whnf
   repeat ((first | refine ⟨(⟨by kernel_rfl, by kernel_rfl, Nat.le_of_ble_eq_true (by kernel_rfl)⟩ : AV.ones _ = true ∧ _ ∧ _), ?_⟩ | refine ⟨rfl, ?_⟩); conv => whnf)
   generalize hq : l[c] = q at hh e ⊢
   refine Does.freeze 0 rfl (Does.tidy [(0, .ro l.length (rowsC hdC l)), (3, .int .i64 c), (4, .rop (hdC q))] [] 1 59 rfl rfl rfl (by kernel_rfl) (by kernel_rfl) ?_)
   have hi := in_ok q.len 0 200
   refine wpc_sound (M := MF) (PL := PLrh) (CU := noCut) TTok mixed _ _ _ ?_
   conv => whnf
   refine ⟨by kernel_rfl, ?_⟩
   unfold hdR at e
   by_cases c3 : 0 ≤ q.len ∧ q.len ≤ 200
   case neg =>
    have : (decide (0 ≤ q.len) && decide (q.len ≤ 200)) = false := by
     rw [Bool.and_eq_false_iff]
     by_cases h : 0 ≤ q.len
     ·exact .inr (df (fun k => c3 ⟨h, k⟩))
     ·exact .inl (df h)
    rw [this, Bool.false_and, Bool.false_and, Bool.and_false] at e
    rw [headsR_no c1 e]
    rw [df c3] at hi
    conv => whnf
    repeat ((first | refine ⟨rfl, ?_⟩ | refine ⟨_, rfl, ?_⟩); conv => whnf)
    refine ⟨_, _, hi, by first | rfl | simp [noRoIf, noRoL, noRoV, noRoL_bys], ?_⟩
    conv => whnf
    repeat ((first | refine ifB_t ?_ | refine ⟨rfl, ?_⟩); conv => whnf)
    conv => whnf
    repeat' (first | (refine ifB_t ?_; (conv => whnf)) | (refine ⟨rfl, ?_⟩; (conv => whnf)) | (rfl) | (refine ⟨_, rfl, ?_⟩; conv => whnf) | (refine And.intro ?_ ?_ <;> conv => whnf))
   rw [dt c3] at hi
   rw [dt c3.1, dt c3.2] at e
   by_cases c6 : q.len = 0
   ·rw [dt (show q.len ≤ 0 by omega), df (show ¬ q.len ≠ 0 by omega), Bool.or_true, Bool.false_or] at e
    conv => whnf
    repeat ((first | refine ⟨rfl, ?_⟩ | refine ⟨_, rfl, ?_⟩); conv => whnf)
    refine ⟨_, _, hi, by first | rfl | simp [noRoIf, noRoL, noRoV, noRoL_bys], ?_⟩
    conv => whnf
    repeat ((first | refine ifB_t ?_ | refine ifB_f ?_ | (refine ifB_pos (decide_eq_true (by first | omega | rfl | (dsimp only; omega))) ?_) | refine ⟨rfl, ?_⟩ | refine ⟨_, rfl, ?_⟩); conv => whnf)
    refine ⟨q.id, z32, ⟨rfl, c32_map hh.id.2, rfl, hh.id.2, rfl⟩, ?_⟩
    conv => whnf
    repeat ((first | refine ifB_t ?_ | refine ifB_f ?_); conv => whnf)
    by_cases c7 : q.id = z32
    ·rw [dt c7] at e ⊢
     conv => whnf
     repeat ((first | refine ifB_f ?_ | refine ⟨rfl, ?_⟩ | refine ⟨_, rfl, ?_⟩); conv => whnf)
     cases c8 : q.shut
     ·conv => whnf
      repeat ((first | refine ifB_f ?_ | refine ⟨rfl, ?_⟩); conv => whnf)
      rcases Nat.eq_zero_or_pos c with k0 | k0
      ·rw [dt k0, Bool.true_or] at e
       refine ifB_neg (df (by omega)) ?_
       conv => whnf
       repeat ((refine ifB_f ?_); conv => whnf)
       conv => whnf
       repeat' (first | (refine ifB_f ?_; (conv => whnf)) | (refine fit_i64 ⟨by first | omega | rfl | (dsimp only; omega), by first | omega | rfl | (dsimp only; omega)⟩ ?_; (conv => whnf)) | (exact ⟨c + 1, ⟨by omega, range_snoc hx e⟩, by omega, weaker_of [] rfl rfl ⟨⟨rfl, rfl, hds_pure _⟩, ⟨rfl, rfl⟩, trivial⟩ trivial⟩) | (refine ⟨_, rfl, ?_⟩; conv => whnf) | (refine And.intro ?_ ?_ <;> conv => whnf))
      ·rw [df (show ¬ c = 0 by omega), Bool.false_or, List.getD_eq_getElem?_getD, List.getElem?_eq_getElem (show c - 1 < l.length by omega), Option.getD_some] at e
       have hp := hl _ (List.getElem_mem (show c - 1 < l.length by omega))
       have ec := cut_hd (l := l) (j := c - 1) (m := ((c : Int) - 1).toNat * 66) (by omega) (by omega) hp.au.2
       refine ifB_pos (dt (by omega)) ?_
       conv => whnf
       repeat ((first | refine ifB_t ?_ | (refine fit_i64 ⟨by first | omega | rfl | (dsimp only; omega), by first | omega | rfl | (dsimp only; omega)⟩ ?_) | (refine ⟨⟨by first | (simp only [List.drop_zero, List.length_drop, hds_len]; omega) | exact Nat.le_of_ble_eq_true (by kernel_rfl), okB_none _⟩, ?_⟩) | (refine ⟨⟨?_, ?_, ?_⟩, ?_⟩; (focus omega); (focus (first | omega | (simp; done) | (simp; omega))); (focus (first | (rw [prfs_len]; simp; omega) | (rw [ents_len]; simp; omega) | (rw [hds_len]; simp; omega) | (rw [lets_len]; simp; omega))))); conv => whnf)
       refine ⟨?_, ?_⟩
       ·conv => whnf
        repeat ((first | refine ifB_t ?_ | refine ⟨rfl, ?_⟩); conv => whnf)
        refine ⟨q.au, ⟨cut32 hh.au.2 _, hh.au.1⟩, ?_⟩
        conv => whnf
        repeat ((refine ifB_t ?_); conv => whnf)
        refine ⟨(congrArg List.length ec).trans ((List.length_map _).trans hp.au.2), ?_⟩
        refine ⟨l[c - 1].au, ⟨ec, hp.au.1⟩, ?_⟩
        conv => whnf
        repeat ((first | refine ifB_t ?_ | refine ifB_f ?_); conv => whnf)
        rw [lt_flip]
        cases c9 : bytesLt l[c - 1].au q.au
        ·rw [c9, Bool.false_and] at e
         rw [headsR_no c1 e]
         conv => whnf
         repeat ((first | refine ifB_t ?_ | refine ⟨rfl, ?_⟩); conv => whnf)
         rfl
        ·rw [c9, Bool.true_and] at e
         conv => whnf
         repeat ((first | refine ifB_f ?_ | (refine fit_i64 ⟨by first | omega | rfl | (dsimp only; omega), by first | omega | rfl | (dsimp only; omega)⟩ ?_)); conv => whnf)
         exact ⟨c + 1, ⟨by omega, range_snoc hx e⟩, by omega, weaker_of [] rfl rfl ⟨⟨rfl, rfl, hds_pure _⟩, ⟨rfl, rfl⟩, trivial⟩ trivial⟩
       ·conv => whnf
        repeat ((refine ifB_t ?_); conv => whnf)
        refine ⟨(congrArg List.length ec).trans ((List.length_map _).trans hp.au.2), ?_⟩
        refine ⟨l[c - 1].au, ⟨ec, hp.au.1⟩, ?_⟩
        conv => whnf
        repeat ((first | refine ifB_t ?_ | refine ⟨rfl, ?_⟩); conv => whnf)
        refine ⟨q.au, ⟨cut32 hh.au.2 _, hh.au.1⟩, ?_⟩
        conv => whnf
        repeat ((first | refine ifB_t ?_ | refine ifB_f ?_); conv => whnf)
        rw [lt_flip]
        cases c9 : bytesLt l[c - 1].au q.au
        ·rw [c9, Bool.false_and] at e
         rw [headsR_no c1 e]
         conv => whnf
         repeat ((first | refine ifB_t ?_ | refine ⟨rfl, ?_⟩); conv => whnf)
         rfl
        ·rw [c9, Bool.true_and] at e
         conv => whnf
         repeat ((first | refine ifB_f ?_ | (refine fit_i64 ⟨by first | omega | rfl | (dsimp only; omega), by first | omega | rfl | (dsimp only; omega)⟩ ?_)); conv => whnf)
         exact ⟨c + 1, ⟨by omega, range_snoc hx e⟩, by omega, weaker_of [] rfl rfl ⟨⟨rfl, rfl, hds_pure _⟩, ⟨rfl, rfl⟩, trivial⟩ trivial⟩
     ·conv => whnf
      repeat ((first | refine ifB_t ?_ | refine ifB_f ?_ | (refine ifB_neg (decide_eq_false (by first | omega | rfl | (dsimp only; omega))) ?_) | refine ⟨rfl, ?_⟩ | refine ⟨_, rfl, ?_⟩); conv => whnf)
      rcases Nat.eq_zero_or_pos c with k0 | k0
      ·rw [dt k0, Bool.true_or] at e
       refine ifB_neg (df (by omega)) ?_
       conv => whnf
       repeat ((refine ifB_f ?_); conv => whnf)
       conv => whnf
       repeat' (first | (refine ifB_f ?_; (conv => whnf)) | (refine fit_i64 ⟨by first | omega | rfl | (dsimp only; omega), by first | omega | rfl | (dsimp only; omega)⟩ ?_; (conv => whnf)) | (exact ⟨c + 1, ⟨by omega, range_snoc hx e⟩, by omega, weaker_of [] rfl rfl ⟨⟨rfl, rfl, hds_pure _⟩, ⟨rfl, rfl⟩, trivial⟩ trivial⟩) | (refine ⟨_, rfl, ?_⟩; conv => whnf) | (refine And.intro ?_ ?_ <;> conv => whnf))
      ·rw [df (show ¬ c = 0 by omega), Bool.false_or, List.getD_eq_getElem?_getD, List.getElem?_eq_getElem (show c - 1 < l.length by omega), Option.getD_some] at e
       have hp := hl _ (List.getElem_mem (show c - 1 < l.length by omega))
       have ec := cut_hd (l := l) (j := c - 1) (m := ((c : Int) - 1).toNat * 66) (by omega) (by omega) hp.au.2
       refine ifB_pos (dt (by omega)) ?_
       conv => whnf
       repeat ((first | refine ifB_t ?_ | (refine fit_i64 ⟨by first | omega | rfl | (dsimp only; omega), by first | omega | rfl | (dsimp only; omega)⟩ ?_) | (refine ⟨⟨by first | (simp only [List.drop_zero, List.length_drop, hds_len]; omega) | exact Nat.le_of_ble_eq_true (by kernel_rfl), okB_none _⟩, ?_⟩) | (refine ⟨⟨?_, ?_, ?_⟩, ?_⟩; (focus omega); (focus (first | omega | (simp; done) | (simp; omega))); (focus (first | (rw [prfs_len]; simp; omega) | (rw [ents_len]; simp; omega) | (rw [hds_len]; simp; omega) | (rw [lets_len]; simp; omega))))); conv => whnf)
       refine ⟨?_, ?_⟩
       ·conv => whnf
        repeat ((first | refine ifB_t ?_ | refine ⟨rfl, ?_⟩); conv => whnf)
        refine ⟨q.au, ⟨cut32 hh.au.2 _, hh.au.1⟩, ?_⟩
        conv => whnf
        repeat ((refine ifB_t ?_); conv => whnf)
        refine ⟨(congrArg List.length ec).trans ((List.length_map _).trans hp.au.2), ?_⟩
        refine ⟨l[c - 1].au, ⟨ec, hp.au.1⟩, ?_⟩
        conv => whnf
        repeat ((first | refine ifB_t ?_ | refine ifB_f ?_); conv => whnf)
        rw [lt_flip]
        cases c9 : bytesLt l[c - 1].au q.au
        ·rw [c9, Bool.false_and] at e
         rw [headsR_no c1 e]
         conv => whnf
         repeat ((first | refine ifB_t ?_ | refine ⟨rfl, ?_⟩); conv => whnf)
         rfl
        ·rw [c9, Bool.true_and] at e
         conv => whnf
         repeat ((first | refine ifB_f ?_ | (refine fit_i64 ⟨by first | omega | rfl | (dsimp only; omega), by first | omega | rfl | (dsimp only; omega)⟩ ?_)); conv => whnf)
         exact ⟨c + 1, ⟨by omega, range_snoc hx e⟩, by omega, weaker_of [] rfl rfl ⟨⟨rfl, rfl, hds_pure _⟩, ⟨rfl, rfl⟩, trivial⟩ trivial⟩
       ·conv => whnf
        repeat ((refine ifB_t ?_); conv => whnf)
        refine ⟨(congrArg List.length ec).trans ((List.length_map _).trans hp.au.2), ?_⟩
        refine ⟨l[c - 1].au, ⟨ec, hp.au.1⟩, ?_⟩
        conv => whnf
        repeat ((first | refine ifB_t ?_ | refine ⟨rfl, ?_⟩); conv => whnf)
        refine ⟨q.au, ⟨cut32 hh.au.2 _, hh.au.1⟩, ?_⟩
        conv => whnf
        repeat ((first | refine ifB_t ?_ | refine ifB_f ?_); conv => whnf)
        rw [lt_flip]
        cases c9 : bytesLt l[c - 1].au q.au
        ·rw [c9, Bool.false_and] at e
         rw [headsR_no c1 e]
         conv => whnf
         repeat ((first | refine ifB_t ?_ | refine ⟨rfl, ?_⟩); conv => whnf)
         rfl
        ·rw [c9, Bool.true_and] at e
         conv => whnf
         repeat ((first | refine ifB_f ?_ | (refine fit_i64 ⟨by first | omega | rfl | (dsimp only; omega), by first | omega | rfl | (dsimp only; omega)⟩ ?_)); conv => whnf)
         exact ⟨c + 1, ⟨by omega, range_snoc hx e⟩, by omega, weaker_of [] rfl rfl ⟨⟨rfl, rfl, hds_pure _⟩, ⟨rfl, rfl⟩, trivial⟩ trivial⟩
    ·rw [df c7] at e ⊢
     rw [Bool.and_false, Bool.and_false] at e
     rw [headsR_no c1 e]
     conv => whnf
     repeat ((first | refine ifB_t ?_ | refine ⟨rfl, ?_⟩); conv => whnf)
     conv => whnf
     repeat' (first | (refine ifB_t ?_; (conv => whnf)) | (refine ⟨rfl, ?_⟩; (conv => whnf)) | (rfl) | (refine ⟨_, rfl, ?_⟩; conv => whnf) | (refine And.intro ?_ ?_ <;> conv => whnf))
   ·rw [df (show ¬ q.len ≤ 0 by omega), dt (show q.len ≠ 0 from c6), Bool.or_false, Bool.true_or] at e
    conv => whnf
    repeat ((first | refine ⟨rfl, ?_⟩ | refine ⟨_, rfl, ?_⟩); conv => whnf)
    refine ⟨_, _, hi, by first | rfl | simp [noRoIf, noRoL, noRoV, noRoL_bys], ?_⟩
    conv => whnf
    repeat ((first | refine ifB_f ?_ | (refine ifB_neg (decide_eq_false (by first | omega | rfl | (dsimp only; omega))) ?_) | refine ⟨rfl, ?_⟩ | refine ⟨_, rfl, ?_⟩); conv => whnf)
    cases c8 : q.shut
    ·rw [c8] at e
     conv => whnf
     repeat ((first | refine ifB_f ?_ | refine ⟨rfl, ?_⟩); conv => whnf)
     rcases Nat.eq_zero_or_pos c with k0 | k0
     ·rw [dt k0, Bool.true_or] at e
      refine ifB_neg (df (by omega)) ?_
      conv => whnf
      repeat ((refine ifB_f ?_); conv => whnf)
      conv => whnf
      repeat' (first | (refine ifB_f ?_; (conv => whnf)) | (refine fit_i64 ⟨by first | omega | rfl | (dsimp only; omega), by first | omega | rfl | (dsimp only; omega)⟩ ?_; (conv => whnf)) | (exact ⟨c + 1, ⟨by omega, range_snoc hx e⟩, by omega, weaker_of [] rfl rfl ⟨⟨rfl, rfl, hds_pure _⟩, ⟨rfl, rfl⟩, trivial⟩ trivial⟩) | (refine ⟨_, rfl, ?_⟩; conv => whnf) | (refine And.intro ?_ ?_ <;> conv => whnf))
     ·rw [df (show ¬ c = 0 by omega), Bool.false_or, List.getD_eq_getElem?_getD, List.getElem?_eq_getElem (show c - 1 < l.length by omega), Option.getD_some] at e
      have hp := hl _ (List.getElem_mem (show c - 1 < l.length by omega))
      have ec := cut_hd (l := l) (j := c - 1) (m := ((c : Int) - 1).toNat * 66) (by omega) (by omega) hp.au.2
      refine ifB_pos (dt (by omega)) ?_
      conv => whnf
      repeat ((first | refine ifB_t ?_ | (refine fit_i64 ⟨by first | omega | rfl | (dsimp only; omega), by first | omega | rfl | (dsimp only; omega)⟩ ?_) | (refine ⟨⟨by first | (simp only [List.drop_zero, List.length_drop, hds_len]; omega) | exact Nat.le_of_ble_eq_true (by kernel_rfl), okB_none _⟩, ?_⟩) | (refine ⟨⟨?_, ?_, ?_⟩, ?_⟩; (focus omega); (focus (first | omega | (simp; done) | (simp; omega))); (focus (first | (rw [prfs_len]; simp; omega) | (rw [ents_len]; simp; omega) | (rw [hds_len]; simp; omega) | (rw [lets_len]; simp; omega))))); conv => whnf)
      refine ⟨?_, ?_⟩
      ·conv => whnf
       repeat ((first | refine ifB_t ?_ | refine ⟨rfl, ?_⟩); conv => whnf)
       refine ⟨q.au, ⟨cut32 hh.au.2 _, hh.au.1⟩, ?_⟩
       conv => whnf
       repeat ((refine ifB_t ?_); conv => whnf)
       refine ⟨(congrArg List.length ec).trans ((List.length_map _).trans hp.au.2), ?_⟩
       refine ⟨l[c - 1].au, ⟨ec, hp.au.1⟩, ?_⟩
       conv => whnf
       repeat ((first | refine ifB_t ?_ | refine ifB_f ?_); conv => whnf)
       rw [lt_flip]
       cases c9 : bytesLt l[c - 1].au q.au
       ·rw [c9, Bool.false_and] at e
        rw [headsR_no c1 e]
        conv => whnf
        repeat ((first | refine ifB_t ?_ | refine ⟨rfl, ?_⟩); conv => whnf)
        rfl
       ·rw [c9, Bool.true_and] at e
        conv => whnf
        repeat ((first | refine ifB_f ?_ | (refine fit_i64 ⟨by first | omega | rfl | (dsimp only; omega), by first | omega | rfl | (dsimp only; omega)⟩ ?_)); conv => whnf)
        exact ⟨c + 1, ⟨by omega, range_snoc hx e⟩, by omega, weaker_of [] rfl rfl ⟨⟨rfl, rfl, hds_pure _⟩, ⟨rfl, rfl⟩, trivial⟩ trivial⟩
      ·conv => whnf
       repeat ((refine ifB_t ?_); conv => whnf)
       refine ⟨(congrArg List.length ec).trans ((List.length_map _).trans hp.au.2), ?_⟩
       refine ⟨l[c - 1].au, ⟨ec, hp.au.1⟩, ?_⟩
       conv => whnf
       repeat ((first | refine ifB_t ?_ | refine ⟨rfl, ?_⟩); conv => whnf)
       refine ⟨q.au, ⟨cut32 hh.au.2 _, hh.au.1⟩, ?_⟩
       conv => whnf
       repeat ((first | refine ifB_t ?_ | refine ifB_f ?_); conv => whnf)
       rw [lt_flip]
       cases c9 : bytesLt l[c - 1].au q.au
       ·rw [c9, Bool.false_and] at e
        rw [headsR_no c1 e]
        conv => whnf
        repeat ((first | refine ifB_t ?_ | refine ⟨rfl, ?_⟩); conv => whnf)
        rfl
       ·rw [c9, Bool.true_and] at e
        conv => whnf
        repeat ((first | refine ifB_f ?_ | (refine fit_i64 ⟨by first | omega | rfl | (dsimp only; omega), by first | omega | rfl | (dsimp only; omega)⟩ ?_)); conv => whnf)
        exact ⟨c + 1, ⟨by omega, range_snoc hx e⟩, by omega, weaker_of [] rfl rfl ⟨⟨rfl, rfl, hds_pure _⟩, ⟨rfl, rfl⟩, trivial⟩ trivial⟩
    ·rw [c8] at e
     simp only [Bool.not_true, Bool.and_false, Bool.false_and] at e
     rw [headsR_no c1 e]
     conv => whnf
     repeat ((first | refine ifB_t ?_ | refine ifB_f ?_ | (refine ifB_pos (decide_eq_true (by first | omega | rfl | (dsimp only; omega))) ?_) | refine ⟨rfl, ?_⟩ | refine ⟨_, rfl, ?_⟩); conv => whnf)
     conv => whnf
     repeat' (first | (refine ifB_t ?_; (conv => whnf)) | (refine ⟨rfl, ?_⟩; (conv => whnf)) | (rfl) | (refine ⟨_, rfl, ?_⟩; conv => whnf) | (refine And.intro ?_ ?_ <;> conv => whnf))
  ·obtain rfl : c = l.length := by omega
   refine wpc_sound (M := MF) (PL := PLrh) (CU := noCut) TTok mixed _ _ _ ?_
   have : headsR l = true := by unfold headsR; rw [hx, dt (show l.length ≤ 8 by omega)]; rfl
   rw [this]
   conv => whnf
   repeat ((first | (refine ifB_neg (decide_eq_false (by first | omega | rfl | (dsimp only; omega))) ?_) | refine ⟨rfl, ?_⟩); conv => whnf)
   rfl
 ·exact weaker_of [] rfl rfl ⟨⟨rfl, rfl, hds_pure _⟩, ⟨rfl, rfl⟩, trivial⟩ trivial
end
section
--KR
attribute [local irreducible] ifB fitP Does Weaker
theorem msgR_not {m : Msg} (h : msgR m = true → False) : msgR m = false := by
 cases k : msgR m
 ·rfl
 ·exact (h k).elim
theorem msgR_an {m : Msg} (w : whoR m = true) (k : m.kind = 2) (h : m.hs = []) (l : m.ps.length + m.es.length ≤ 4) (hp : ∀ (j : Nat) (h : j < m.ps.length), prfR m.ps[j] = true) (he : ∀ (j : Nat) (h : j < m.es.length), entR m.es[j] = true) : msgR m = true := by
 unfold msgR
 rw [w, if_neg (by omega), if_pos k, h]
 simp only [Bool.true_and, Bool.and_eq_true, decide_eq_true_eq, Bool.not_eq_true', List.any_eq_false, List.length_nil]
 refine ⟨⟨⟨⟨trivial, by omega⟩, by omega⟩, fun p hx => ?_⟩, fun p hx => ?_⟩
 ·obtain ⟨j, hj, rfl⟩ := List.mem_iff_getElem.1 hx
  rw [hp j hj]; simp
 ·obtain ⟨j, hj, rfl⟩ := List.mem_iff_getElem.1 hx
  rw [he j hj]; simp
set_option maxRecDepth 20000 in
set_option maxHeartbeats 2000000 in
theorem refmsg_ok (m : Msg) (hm : MsgS m) : ACall Tryd.prog 31 [.agg (msgC m)] (.bool (msgR m)) [] := by
 have i1 := in_ok m.frm 0 7
 have i2 := in_ok m.to 0 7
 have ih := refheads_ok m.hs hm.hs hm.hl
 have F := fun h => msgR_facts (m := m) h
 have hl1 := hm.hl
 have hl2 := hm.pl
 have hl3 := hm.el
 have f1 := hm.frm
 have f2 := hm.to
 refine ACall.of_does TTok Tryd.func31 rfl Tryd.call31 rfl (wpc_sound (M := MF) (PL := PL0) (CU := cutAt [100001]) TTok mixed _ _ _ ?_)
 conv => whnf
 repeat ((refine ⟨rfl, ?_⟩); conv => whnf)
 refine Does.freeze 0 rfl (Does.tidy [(1, .rop (msgC m))] [] 1 95 rfl rfl rfl (by kernel_rfl) (by kernel_rfl) ?_)
 refine wpc_sound (M := MF) (PL := PL0) (CU := noCut) TTok mixed _ _ _ ?_
 by_cases c1 : 0 ≤ m.frm ∧ m.frm ≤ 7
 case neg =>
  rw [msgR_not fun h => c1 ⟨(F h).1.1, by have := (F h).1.2; omega⟩]
  rw [df c1] at i1
  conv => whnf
  repeat ((first | refine ⟨rfl, ?_⟩ | refine ⟨_, rfl, ?_⟩); conv => whnf)
  refine ⟨_, _, i1, by first | rfl | simp [noRoIf, noRoL, noRoV, noRoL_bys], ?_⟩
  conv => whnf
  repeat ((first | refine ifB_t ?_ | refine ⟨rfl, ?_⟩); conv => whnf)
  rfl
 rw [dt c1] at i1
 by_cases c2 : 0 ≤ m.to ∧ m.to ≤ 7
 case neg =>
  rw [msgR_not fun h => c2 ⟨(F h).2.1.1, by have := (F h).2.1.2; omega⟩]
  rw [df c2] at i2
  conv => whnf
  repeat ((first | refine ⟨rfl, ?_⟩ | refine ⟨_, rfl, ?_⟩); conv => whnf)
  refine ⟨_, _, i1, by first | rfl | simp [noRoIf, noRoL, noRoV, noRoL_bys], ?_⟩
  conv => whnf
  repeat ((first | refine ifB_f ?_ | refine ⟨rfl, ?_⟩ | refine ⟨_, rfl, ?_⟩); conv => whnf)
  refine ⟨_, _, i2, by first | rfl | simp [noRoIf, noRoL, noRoV, noRoL_bys], ?_⟩
  conv => whnf
  repeat ((first | refine ifB_t ?_ | refine ifB_f ?_ | refine ⟨rfl, ?_⟩); conv => whnf)
  rfl
 rw [dt c2] at i2
 by_cases c3 : m.frm = m.to
 ·rw [msgR_not fun h => (F h).2.2.1 c3]
  conv => whnf
  repeat ((first | refine ⟨rfl, ?_⟩ | refine ⟨_, rfl, ?_⟩); conv => whnf)
  refine ⟨_, _, i1, by first | rfl | simp [noRoIf, noRoL, noRoV, noRoL_bys], ?_⟩
  conv => whnf
  repeat ((first | refine ifB_f ?_ | refine ⟨rfl, ?_⟩ | refine ⟨_, rfl, ?_⟩); conv => whnf)
  refine ⟨_, _, i2, by first | rfl | simp [noRoIf, noRoL, noRoV, noRoL_bys], ?_⟩
  conv => whnf
  repeat ((first | refine ifB_f ?_ | (refine ifB_pos (decide_eq_true (by first | omega | rfl | (dsimp only; omega))) ?_) | refine ⟨rfl, ?_⟩ | refine ⟨_, rfl, ?_⟩); conv => whnf)
  rfl
 have w : whoR m = true := by
  unfold whoR
  simp only [Bool.and_eq_true, decide_eq_true_eq]
  omega
 conv => whnf
 repeat ((first | refine ⟨rfl, ?_⟩ | refine ⟨_, rfl, ?_⟩); conv => whnf)
 refine ⟨_, _, i1, by first | rfl | simp [noRoIf, noRoL, noRoV, noRoL_bys], ?_⟩
 conv => whnf
 repeat ((first | refine ifB_f ?_ | refine ⟨rfl, ?_⟩ | refine ⟨_, rfl, ?_⟩); conv => whnf)
 refine ⟨_, _, i2, by first | rfl | simp [noRoIf, noRoL, noRoV, noRoL_bys], ?_⟩
 conv => whnf
 repeat ((first | refine ifB_f ?_ | (refine ifB_neg (decide_eq_false (by first | omega | rfl | (dsimp only; omega))) ?_) | refine ⟨_, rfl, ?_⟩); conv => whnf)
 by_cases k1 : m.kind = 1
 ·have e : msgR m = (headsR m.hs && decide ((m.ps.length : Int) + m.es.length = 0)) := by unfold msgR; rw [w, if_pos k1, Bool.true_and]
  rw [e]
  conv => whnf
  repeat ((first | (refine ifB_pos (decide_eq_true (by first | omega | rfl | (dsimp only; omega))) ?_) | refine ⟨rfl, ?_⟩ | refine ⟨_, rfl, ?_⟩ | refine ⟨(show pureL (rowsC _ _) = true from by first | exact prfs_pure _ | exact ents_pure _ | exact hds_pure _ | exact lets_pure _), ?_⟩); conv => whnf)
  cases c4 : headsR m.hs <;> rw [c4] at ih
  ·refine ⟨_, _, ih, by first | rfl | simp [noRoIf, noRoL, noRoV, noRoL_bys], ?_⟩
   conv => whnf
   repeat ((first | refine ifB_f ?_ | refine ⟨rfl, ?_⟩); conv => whnf)
   rfl
  ·refine ⟨_, _, ih, by first | rfl | simp [noRoIf, noRoL, noRoV, noRoL_bys], ?_⟩
   conv => whnf
   repeat ((first | refine ifB_t ?_ | (refine fit_i64 ⟨by first | omega | rfl | (dsimp only; omega), by first | omega | rfl | (dsimp only; omega)⟩ ?_) | refine ⟨rfl, ?_⟩ | refine ⟨_, rfl, ?_⟩); conv => whnf)
   rfl
 by_cases k2 : m.kind = 2
 case neg =>
  rw [msgR_not fun h => by rcases (F h).2.2.2 with h | h <;> omega]
  conv => whnf
  repeat ((first | (refine ifB_neg (decide_eq_false (by first | omega | rfl | (dsimp only; omega))) ?_) | refine ⟨rfl, ?_⟩); conv => whnf)
  rfl
 have G : msgR m = true → m.hs = [] ∧ m.ps.length + m.es.length ≤ 4 ∧ (∀ p ∈ m.ps, prfR p = true) ∧ ∀ e ∈ m.es, entR e = true := fun h => by
  rcases (F h).2.2.2 with h | h
  ·omega
  ·exact h.2
 by_cases c4 : 0 < m.hs.length
 ·rw [msgR_not fun h => by rw [(G h).1] at c4; simp at c4]
  conv => whnf
  repeat ((first | refine ifB_t ?_ | (refine ifB_neg (decide_eq_false (by first | omega | rfl | (dsimp only; omega))) ?_) | (refine ifB_pos (decide_eq_true (by first | omega | rfl | (dsimp only; omega))) ?_) | refine ⟨rfl, ?_⟩ | refine ⟨_, rfl, ?_⟩); conv => whnf)
  rfl
 by_cases c5 : 4 < m.ps.length
 ·rw [msgR_not fun h => by have := (G h).2.1; omega]
  conv => whnf
  repeat ((first | refine ifB_t ?_ | refine ifB_f ?_ | (refine ifB_neg (decide_eq_false (by first | omega | rfl | (dsimp only; omega))) ?_) | (refine ifB_pos (decide_eq_true (by first | omega | rfl | (dsimp only; omega))) ?_) | refine ⟨rfl, ?_⟩ | refine ⟨_, rfl, ?_⟩); conv => whnf)
  rfl
 by_cases c6 : 4 < m.es.length
 ·rw [msgR_not fun h => by have := (G h).2.1; omega]
  conv => whnf
  repeat ((first | refine ifB_t ?_ | refine ifB_f ?_ | (refine ifB_neg (decide_eq_false (by first | omega | rfl | (dsimp only; omega))) ?_) | (refine ifB_pos (decide_eq_true (by first | omega | rfl | (dsimp only; omega))) ?_) | refine ⟨rfl, ?_⟩ | refine ⟨_, rfl, ?_⟩); conv => whnf)
  rfl
 by_cases c7 : 4 < m.ps.length + m.es.length
 ·rw [msgR_not fun h => by have := (G h).2.1; omega]
  conv => whnf
  repeat ((first | refine ifB_f ?_ | (refine ifB_neg (decide_eq_false (by first | omega | rfl | (dsimp only; omega))) ?_) | (refine ifB_pos (decide_eq_true (by first | omega | rfl | (dsimp only; omega))) ?_) | (refine fit_i64 ⟨by first | omega | rfl | (dsimp only; omega), by first | omega | rfl | (dsimp only; omega)⟩ ?_) | refine ⟨rfl, ?_⟩ | refine ⟨_, rfl, ?_⟩); conv => whnf)
  rfl
 conv => whnf
 repeat ((first | refine ifB_f ?_ | (refine ifB_neg (decide_eq_false (by first | omega | rfl | (dsimp only; omega))) ?_) | (refine ifB_pos (decide_eq_true (by first | omega | rfl | (dsimp only; omega))) ?_) | (refine fit_i64 ⟨by first | omega | rfl | (dsimp only; omega), by first | omega | rfl | (dsimp only; omega)⟩ ?_) | refine ⟨_, rfl, ?_⟩); conv => whnf)
 refine Does.loop (fun c : Nat => mkSt [(1, .rop (msgC m)), (3, .int .i64 c)] [] 0 95)
  (fun c => c ≤ m.ps.length ∧ ∀ (j : Nat) (h : j < m.ps.length), j < c → prfR m.ps[j] = true) (fun c => m.ps.length - c) ?_ 0 ⟨Nat.zero_le _, fun j _ h => by omega⟩ ?_
 ·rintro c ⟨hc, hx⟩
  rcases Nat.lt_or_ge c m.ps.length with d1 | d1
  ·have hp := refproof_ok m.ps[c] (hm.ps _ (List.getElem_mem d1))
   refine wpc_sound (M := MF) (PL := PL0) (CU := noCut) TTok mixed _ _ _ ?_
   conv => whnf
   repeat ((first | (refine ifB_pos (decide_eq_true (by first | omega | rfl | (dsimp only; omega))) ?_) | refine ⟨_, rfl, ?_⟩ | (refine ⟨⟨?_, ?_, ?_⟩, ?_⟩; (focus omega); (focus (first | omega | (simp; done) | (simp; omega))); (focus (first | (rw [prfs_len]; simp; omega) | (rw [ents_len]; simp; omega) | (rw [hds_len]; simp; omega) | (rw [lets_len]; simp; omega))))); conv => whnf)
   refine ⟨_, takeN_row prfC_length d1 (by simp; omega) rfl, ?_⟩
   conv => whnf
   repeat ((first | refine ⟨rfl, ?_⟩ | refine ⟨(show pureL _ = true from by first | exact prfC_pure _ | exact hdC_pure _ | exact msgC_pure _ | exact letC_pure _), ?_⟩); conv => whnf)
   cases d2 : prfR m.ps[c] <;> rw [d2] at hp
   ·rw [msgR_not fun h => by have := (G h).2.2.1 _ (List.getElem_mem d1); rw [d2] at this; cases this]
    refine ⟨_, _, hp, by first | rfl | simp [noRoIf, noRoL, noRoV, noRoL_bys], ?_⟩
    conv => whnf
    repeat ((first | refine ifB_t ?_ | refine ⟨rfl, ?_⟩); conv => whnf)
    rfl
   ·refine ⟨_, _, hp, by first | rfl | simp [noRoIf, noRoL, noRoV, noRoL_bys], ?_⟩
    conv => whnf
    repeat ((first | refine ifB_f ?_ | (refine fit_i64 ⟨by first | omega | rfl | (dsimp only; omega), by first | omega | rfl | (dsimp only; omega)⟩ ?_)); conv => whnf)
    refine ⟨c + 1, ⟨by omega, fun j h1 h2 => ?_⟩, by omega, weaker_of [] rfl rfl ⟨⟨rfl, msgC_pure m⟩, ⟨rfl, rfl⟩, trivial⟩ trivial⟩
    rcases Nat.lt_or_ge j c with h' | h'
    ·exact hx j h1 h'
    ·obtain rfl : j = c := by omega
     exact d2
  ·obtain rfl : c = m.ps.length := by omega
   refine wpc_sound (M := MF) (PL := PL0) (CU := noCut) TTok mixed _ _ _ ?_
   conv => whnf
   repeat ((first | (refine ifB_neg (decide_eq_false (by first | omega | rfl | (dsimp only; omega))) ?_) | refine ⟨_, rfl, ?_⟩); conv => whnf)
   refine Does.loop (fun c : Nat => mkSt [(1, .rop (msgC m)), (4, .int .i64 c)] [] 0 95)
    (fun c => c ≤ m.es.length ∧ ∀ (j : Nat) (h : j < m.es.length), j < c → entR m.es[j] = true) (fun c => m.es.length - c) ?_ 0 ⟨Nat.zero_le _, fun j _ h => by omega⟩ ?_
   ·rintro c ⟨hc', hy⟩
    rcases Nat.lt_or_ge c m.es.length with d1 | d1
    ·have hp := refentry_ok m.es[c] (hm.es _ (List.getElem_mem d1))
     refine wpc_sound (M := MF) (PL := PL0) (CU := noCut) TTok mixed _ _ _ ?_
     conv => whnf
     repeat ((first | (refine ifB_pos (decide_eq_true (by first | omega | rfl | (dsimp only; omega))) ?_) | refine ⟨_, rfl, ?_⟩ | (refine ⟨⟨?_, ?_, ?_⟩, ?_⟩; (focus omega); (focus (first | omega | (simp; done) | (simp; omega))); (focus (first | (rw [prfs_len]; simp; omega) | (rw [ents_len]; simp; omega) | (rw [hds_len]; simp; omega) | (rw [lets_len]; simp; omega))))); conv => whnf)
     refine ⟨_, takeN_row entC_length d1 (by simp; omega) rfl, ?_⟩
     conv => whnf
     repeat ((first | refine ⟨entC_pure _, ?_⟩ | refine ⟨rfl, ?_⟩); conv => whnf)
     cases d2 : entR m.es[c] <;> rw [d2] at hp
     ·rw [msgR_not fun h => by have := (G h).2.2.2 _ (List.getElem_mem d1); rw [d2] at this; cases this]
      refine ⟨_, _, hp, by first | rfl | simp [noRoIf, noRoL, noRoV, noRoL_bys], ?_⟩
      conv => whnf
      repeat ((first | refine ifB_t ?_ | refine ⟨rfl, ?_⟩); conv => whnf)
      rfl
     ·refine ⟨_, _, hp, by first | rfl | simp [noRoIf, noRoL, noRoV, noRoL_bys], ?_⟩
      conv => whnf
      repeat ((first | refine ifB_f ?_ | (refine fit_i64 ⟨by first | omega | rfl | (dsimp only; omega), by first | omega | rfl | (dsimp only; omega)⟩ ?_)); conv => whnf)
      refine ⟨c + 1, ⟨by omega, fun j h1 h2 => ?_⟩, by omega, weaker_of [] rfl rfl ⟨⟨rfl, msgC_pure m⟩, ⟨rfl, rfl⟩, trivial⟩ trivial⟩
      rcases Nat.lt_or_ge j c with h' | h'
      ·exact hy j h1 h'
      ·obtain rfl : j = c := by omega
       exact d2
    ·obtain rfl : c = m.es.length := by omega
     rw [msgR_an w k2 (List.length_eq_zero_iff.1 (by omega)) (by omega) (fun j h => hx j h h) (fun j h => hy j h h)]
     refine wpc_sound (M := MF) (PL := PL0) (CU := noCut) TTok mixed _ _ _ ?_
     conv => whnf
     repeat ((first | (refine ifB_neg (decide_eq_false (by first | omega | rfl | (dsimp only; omega))) ?_) | refine ⟨rfl, ?_⟩ | refine ⟨_, rfl, ?_⟩); conv => whnf)
     rfl
   ·exact weaker_of [] rfl rfl ⟨⟨rfl, msgC_pure m⟩, ⟨rfl, rfl⟩, trivial⟩ trivial
 ·exact weaker_of [] rfl rfl ⟨⟨rfl, msgC_pure m⟩, ⟨rfl, rfl⟩, trivial⟩ trivial
end
section
--KR
attribute [local irreducible] ifB fitP Does Weaker
end
section
--KR
attribute [local irreducible] ifB fitP Does Weaker
def ML3 : FuncId → List Mode := orElse [(27, [.bw, .bw]), (32, [.bw]), (11, [.rd]), (28, []), (13, [.rd]), (17, [.rd, .rd]), (73, [.rd])] MF2
end
section
--KR
attribute [local irreducible] ifB fitP Does Weaker
def cuM : Mode := .rf [.rd, .rd, .rd]
def MQ : FuncId → List Mode := orElse [(51, [cuM, .rd]), (52, [cuM])] MF2
def curC (l : List Tok) (r : Rw) : List AV := [.ro l.length (toksC l), .int .i64 ((l.length : Int) - r.l.length), .bool r.bad]
theorem rNext_suf {l : List Tok} {r : Rw} (h : r.l <:+ l) (k : Int) : (rNext k r).2.l <:+ l := by
 obtain ⟨q, bad⟩ := r
 unfold rNext
 cases bad
 ·cases q with
  | nil => exact h
  | cons t q =>
   dsimp only
   rw [if_neg (by simp)]
   split
   ·exact List.IsSuffix.trans (List.suffix_cons t q) h
   ·exact h
 ·exact h
def PLtk : Nat → Bool × Plan := plans [(1, (true, takes [0, 1, 2, 3, 4, 5, 6, 7, 8, 9, 10, 11, 12, 13, 14, 15, 16, 17, 18, 19, 20, 21, 22, 23, 24, 25, 26, 27, 28, 29, 30])), (5, (false, takesTo [0, 1, 2, 4, 5, 6] (.all [(3, (.all [(7, (takesTo [8, 9] (.all [(10, (.all [(11, .done)]))])))])), (7, (takesTo [8] (.all [(3, (takesTo [9] (.all [(10, (.all [(11, .done)]))])))])))])))]
set_option maxHeartbeats 1000000 in
theorem take_ok (l : List Tok) (r : Rw) (k : Int) (hs : r.l <:+ l) (hl : l.length ≤ 1000000) : ACall Tryd.prog 51 [.ref (curC l r), .int .i64 k] (.agg (tokC (rNext k r).1)) [.ref (curC l (rNext k r).2)] := by
 obtain ⟨p, hp⟩ := hs
 obtain ⟨q, bad⟩ := r
 dsimp only at hp
 have hlen : p.length + q.length = l.length := by rw [← hp, List.length_append]
 refine ACall.of_does TTok Tryd.func51 rfl Tryd.call51 rfl (wpc_sound (M := MQ) (PL := PLtk) (CU := noCut) TTok mixed _ _ _ ?_)
 unfold rNext curC
 cases bad with
 | true =>
  dsimp only
  rw [if_pos rfl]
  conv => whnf
  repeat ((refine ⟨rfl, ?_⟩); conv => whnf)
  refine ⟨by kernel_rfl, ?_⟩
  conv => whnf
  repeat ((first | refine ifB_t ?_ | refine ⟨(⟨by kernel_rfl, by kernel_rfl, Nat.le_of_ble_eq_true (by kernel_rfl)⟩ : AV.ones _ = true ∧ _ ∧ _), ?_⟩ | refine ⟨rfl, ?_⟩ | refine ⟨_, rfl, ?_⟩ | refine ⟨⟨rfl, rfl⟩, ?_⟩ | (refine ⟨⟨rfl, rfl, ?_⟩, ?_⟩; (focus (first | assumption | exact pureL_bys _ | exact pureL_toks _)))); conv => whnf)
  rfl
 | false =>
  dsimp only
  rw [if_neg (by simp)]
  cases q with
  | nil =>
   dsimp only
   conv => whnf
   repeat ((refine ⟨rfl, ?_⟩); conv => whnf)
   refine ⟨by kernel_rfl, ?_⟩
   conv => whnf
   repeat ((first | refine ifB_t ?_ | refine ifB_f ?_ | refine ⟨(⟨by kernel_rfl, by kernel_rfl, Nat.le_of_ble_eq_true (by kernel_rfl)⟩ : AV.ones _ = true ∧ _ ∧ _), ?_⟩ | refine ⟨rfl, ?_⟩ | refine ⟨_, rfl, ?_⟩ | refine ⟨⟨rfl, rfl⟩, ?_⟩ | (refine ⟨⟨rfl, rfl, ?_⟩, ?_⟩; (focus (first | assumption | exact pureL_bys _ | exact pureL_toks _))) | (refine ifB_pos (decide_eq_true (by first | (simp; done) | (simp; omega))) ?_)); conv => whnf)
   rfl
  | cons t q =>
   have hc : p.length < l.length := by rw [← hlen]; simp
   have e : l[p.length] = t := by
    subst hp
    simp
   rw [List.length_cons] at hlen
   dsimp only
   split
   ·rename_i hk
    dsimp only
    rw [show (l.length : Int) - q.length = (l.length : Int) - ((t :: q).length : Nat) + 1 by rw [List.length_cons]; omega]
    conv => whnf
    repeat ((refine ⟨rfl, ?_⟩); conv => whnf)
    refine ⟨by kernel_rfl, ?_⟩
    conv => whnf
    repeat ((first | refine ifB_f ?_ | refine ⟨_, rfl, ?_⟩ | (refine ifB_neg (decide_eq_false (by first | (simp; done) | (simp; omega))) ?_) | (refine And.intro ?_ ?_; (focus (first | (simp [toksC_length]; done) | (simp [toksC_length]; omega))))); conv => whnf)
    refine ⟨_, tok_k hc (by simp; omega), ?_⟩
    conv => whnf
    repeat ((refine ifB_f ?_); conv => whnf)
    rw [e]
    conv => whnf
    repeat ((first | (refine ifB_neg (decide_eq_false (by first | omega | rfl | (dsimp only; omega))) ?_) | refine ⟨(⟨by kernel_rfl, by kernel_rfl, Nat.le_of_ble_eq_true (by kernel_rfl)⟩ : AV.ones _ = true ∧ _ ∧ _), ?_⟩ | refine ⟨_, rfl, ?_⟩ | (refine fit_i64 ⟨by first | (simp; done) | (simp; omega), by first | (simp; done) | (simp; omega)⟩ ?_)); conv => whnf)
    refine ⟨by kernel_rfl, ?_⟩
    conv => whnf
    refine ⟨?_, ?_⟩
    all_goals
     conv => whnf
     repeat ((first | refine ⟨_, rfl, ?_⟩ | (refine fit_i64 ⟨by first | (simp; done) | (simp; omega), by first | (simp; done) | (simp; omega)⟩ ?_) | (refine And.intro ?_ ?_; (focus (first | (simp [toksC_length]; done) | (simp [toksC_length]; omega))))); conv => whnf)
     refine ⟨_, takeN_tok hc (by simp; omega) rfl, ?_⟩
     conv => whnf
     repeat ((first | refine ⟨(⟨by kernel_rfl, by kernel_rfl, Nat.le_of_ble_eq_true (by kernel_rfl)⟩ : AV.ones _ = true ∧ _ ∧ _), ?_⟩ | refine ⟨rfl, ?_⟩ | refine ⟨_, rfl, ?_⟩ | refine ⟨⟨rfl, rfl⟩, ?_⟩ | (refine ⟨⟨rfl, rfl, ?_⟩, ?_⟩; (focus (first | assumption | exact pureL_bys _ | exact pureL_toks _)))); conv => whnf)
     rw [e]
     conv => whnf
     repeat ((first | refine ⟨⟨rfl, rfl⟩, ?_⟩ | (refine ⟨⟨rfl, rfl, ?_⟩, ?_⟩; (focus (first | assumption | exact pureL_bys _ | exact pureL_toks _)))); conv => whnf)
     rfl
   ·rename_i hk
    conv => whnf
    repeat ((refine ⟨rfl, ?_⟩); conv => whnf)
    refine ⟨by kernel_rfl, ?_⟩
    conv => whnf
    repeat ((first | refine ifB_f ?_ | refine ⟨_, rfl, ?_⟩ | (refine ifB_neg (decide_eq_false (by first | (simp; done) | (simp; omega))) ?_) | (refine And.intro ?_ ?_; (focus (first | (simp [toksC_length]; done) | (simp [toksC_length]; omega))))); conv => whnf)
    refine ⟨_, tok_k hc (by simp; omega), ?_⟩
    conv => whnf
    repeat ((refine ifB_f ?_); conv => whnf)
    rw [e]
    conv => whnf
    repeat ((first | (refine ifB_pos (decide_eq_true (by first | omega | rfl | (dsimp only; omega))) ?_) | refine ⟨(⟨by kernel_rfl, by kernel_rfl, Nat.le_of_ble_eq_true (by kernel_rfl)⟩ : AV.ones _ = true ∧ _ ∧ _), ?_⟩ | refine ⟨rfl, ?_⟩ | refine ⟨_, rfl, ?_⟩ | refine ⟨⟨rfl, rfl⟩, ?_⟩ | (refine ⟨⟨rfl, rfl, ?_⟩, ?_⟩; (focus (first | assumption | exact pureL_bys _ | exact pureL_toks _)))); conv => whnf)
    rfl
end
section
--KR
attribute [local irreducible] ifB fitP Does Weaker
def pad32 (b : List Int) : List Int := b.take (Nat.min b.length 32) ++ List.replicate (32 - Nat.min b.length 32) 0
theorem pad32_len (b : List Int) : (pad32 b).length = 32 := by
 have : Nat.min b.length 32 ≤ 32 := Nat.min_le_right _ _
 have : Nat.min b.length 32 ≤ b.length := Nat.min_le_left _ _
 simp only [pad32, List.length_append, List.length_take, List.length_replicate]
 omega
theorem pad32_eq {b : List Int} (h : b.length = 32) : pad32 b = b := by
 unfold pad32
 rw [h, show Nat.min 32 32 = 32 from rfl, List.take_of_length_le (by omega)]
 simp
theorem pad32_byt {b : List Int} (h : Byt b) : Byt (pad32 b) := by
 intro x hx
 rcases List.mem_append.1 hx with hx | hx
 ·exact h x (List.mem_of_mem_take hx)
 ·simp only [List.mem_replicate] at hx; omega
theorem setN_mid : ∀ (xs pre suf : List AV), xs.length ≤ suf.length → setN (pre ++ suf) pre.length xs = pre ++ xs ++ suf.drop xs.length
 | [], pre, suf, _ => by simp [setN]
 | x :: xs, pre, [], h => by simp at h
 | x :: xs, pre, y :: suf, h => by
  have : (pre ++ y :: suf).set pre.length x = (pre ++ [x]) ++ suf := by simp
  rw [setN, this]
  have e := setN_mid xs (pre ++ [x]) suf (by simpa using h)
  rw [List.length_append, List.length_singleton] at e
  rw [e]
  simp
theorem copy32 (b : List Int) : setN (List.replicate 32 (AV.int .u8 0)) 0 (List.take (Nat.min b.length 32 * 1) (bys b)) = c32 (pad32 b) [] := by
 have h1 : Nat.min b.length 32 ≤ 32 := Nat.min_le_right _ _
 have h2 : Nat.min b.length 32 ≤ b.length := Nat.min_le_left _ _
 rw [c32_eq (pad32_len b), List.append_nil, Nat.mul_one, bys_take]
 have := setN_mid (bys (b.take (Nat.min b.length 32))) [] (List.replicate 32 (AV.int .u8 0)) (by simp [bys]; omega)
 rw [List.nil_append, List.length_nil] at this
 rw [this]
 have hl : (bys (b.take (Nat.min b.length 32))).length = Nat.min b.length 32 := by simp only [bys, List.length_map, List.length_take]; omega
 rw [hl, List.nil_append, List.drop_replicate]
 unfold pad32 bys
 rw [List.map_append, List.map_replicate]
def idR (r : Rw) : List Int := pad32 (rNext 3 r).1.b
theorem rArr_suf {l : List Tok} {r : Rw} (h : r.l <:+ l) (m : Nat) : (rArr m r).2.l <:+ l := by
 unfold rArr
 split
 ·exact rNext_suf h 3
 ·exact rNext_suf h 3
def PLid : Nat → Bool × Plan := plans [(4, (false, takesTo [0, 1] (.all [(2, (.all [(3, .done)]))])))]
set_option maxHeartbeats 1000000 in
theorem refid_ok0 (l : List Tok) (r : Rw) (hs : r.l <:+ l) (hl : l.length ≤ 1000000) : ACall Tryd.prog 52 [.ref (curC l r)] (.agg (bys (idR r))) [.ref (curC l (rArr 32 r).2)] := by
 have h1 := take_ok l r 3 hs hl
 unfold rArr idR
 generalize rNext 3 r = q at h1 ⊢
 obtain ⟨t, r1⟩ := q
 obtain ⟨tk, tn, b⟩ := t
 obtain ⟨r1, bad⟩ := r1
 dsimp only at h1 ⊢
 refine ACall.of_does TTok Tryd.func52 rfl Tryd.call52 rfl (wpc_sound (M := MQ) (PL := PLid) (CU := cutAt [100005]) TTok mixed _ _ _ ?_)
 by_cases hb : b.length = 32
 ·rw [if_pos hb]
  dsimp only
  cases bad
  ·
   conv => whnf
   repeat ((first | refine ⟨rfl, ?_⟩ | (refine And.intro ?_ ?_; (focus (first | (simp only [pureL, pureV, pureL_bys, Bool.and_true, Bool.and_self]; done) | (simp only [pureL, pureV, pureL_bys, pureL_toks, Bool.and_true, Bool.and_self]; done))))); conv => whnf)
   refine ⟨_, _, h1, by first | rfl | simp [noRoIf, noRoL, noRoV, noRoL_bys], ?_⟩
   conv => whnf
   repeat ((first | refine ifB_f ?_ | refine ⟨(⟨by kernel_rfl, by kernel_rfl, Nat.le_of_ble_eq_true (by kernel_rfl)⟩ : AV.ones _ = true ∧ _ ∧ _), ?_⟩ | refine ⟨rfl, ?_⟩ | refine ⟨_, rfl, ?_⟩); conv => whnf)
   refine ⟨by kernel_rfl, ?_⟩
   conv => whnf
   repeat ((first | (refine ⟨⟨by first | (simp only [List.drop_zero, List.length_drop, hds_len]; omega) | exact Nat.le_of_ble_eq_true (by kernel_rfl), okB_none _⟩, ?_⟩) | refine ⟨_, rfl, ?_⟩ | (refine And.intro ?_ ?_; (focus (first | (simp [limB, lenB, offB]; done) | (simp [limB, lenB, offB]; omega))))); conv => whnf)
   refine ⟨⟨ones_bys _, rfl, by decide⟩, ?_⟩
   conv => whnf
   refine Does.weakerTo' (env := [(0, .ptr 0 0), (2, .ptr 1 0), (4, .ptr 3 0)]) (heap := [(0, curC l ⟨r1, false⟩), (1, List.replicate 32 (.int .u8 0)), (3, bys (pad32 b))]) (nx := 4) (n := 25) [(0, 0), (1, 1), (3, 3)] rfl rfl ⟨⟨rfl, rfl⟩, ⟨rfl, rfl⟩, ⟨rfl, rfl⟩, trivial⟩ ⟨⟨⟨rfl, rfl, pureL_toks _⟩, ⟨rfl, rfl⟩, (by first | rfl | exact leP_bool (by simp; omega) | exact leP_bool (decide_eq_true (by omega))), trivial⟩, (show lesP _ (c32 z32 []) (c32 z32 []) from c32_les trivial), (by show lesP _ (bys (pad32 b)) (setN (List.replicate 32 (AV.int .u8 0)) 0 (List.take (Nat.min b.length 32 * 1) (bys b))); rw [copy32, c32_eq (pad32_len b), List.append_nil]; exact lesP_bys rfl), trivial⟩ ?_
   have hx := pad32_len b
   clear hb h1
   generalize pad32 b = x at hx ⊢
   refine wpc_sound (M := MQ) (PL := PLid) (CU := noCut) TTok mixed _ _ _ ?_
   conv => whnf
   refine ⟨_, takeN_all (cs := bys x) (by simp; omega), ?_⟩
   conv => whnf
   refine ⟨⟨ones_bys _, by simp [cellsA]; omega⟩, ?_⟩
   conv => whnf
   refine ⟨bys x, ?_, ?_⟩
   ·show takeN 32 (setN (List.replicate 32 (AV.int .u8 0)) 0 (bys x)) = some (bys x)
    rw [setN_eq _ _ _ (by simp; omega)]
    have : (List.replicate 32 (AV.int .u8 0)).take 0 ++ bys x ++ (List.replicate 32 (AV.int .u8 0)).drop (0 + (bys x).length) = bys x := by rw [List.drop_eq_nil_of_le (by simp; omega)]; simp
    rw [this]
    exact takeN_all (by simp; omega)
   refine ⟨⟨rfl, rfl, pureL_toks _⟩, ?_⟩
   conv => whnf
   repeat ((first | refine ⟨rfl, ?_⟩ | refine ⟨⟨rfl, rfl⟩, ?_⟩); conv => whnf)
   exact demsP_bys _ _ rfl
  ·
   conv => whnf
   repeat ((first | refine ⟨rfl, ?_⟩ | (refine And.intro ?_ ?_; (focus (first | (simp only [pureL, pureV, pureL_bys, Bool.and_true, Bool.and_self]; done) | (simp only [pureL, pureV, pureL_bys, pureL_toks, Bool.and_true, Bool.and_self]; done))))); conv => whnf)
   refine ⟨_, _, h1, by first | rfl | simp [noRoIf, noRoL, noRoV, noRoL_bys], ?_⟩
   conv => whnf
   repeat ((first | refine ifB_t ?_ | refine ⟨(⟨by kernel_rfl, by kernel_rfl, Nat.le_of_ble_eq_true (by kernel_rfl)⟩ : AV.ones _ = true ∧ _ ∧ _), ?_⟩ | refine ⟨rfl, ?_⟩ | refine ⟨_, rfl, ?_⟩); conv => whnf)
   refine ⟨by kernel_rfl, ?_⟩
   conv => whnf
   repeat ((first | (refine ⟨⟨by first | (simp only [List.drop_zero, List.length_drop, hds_len]; omega) | exact Nat.le_of_ble_eq_true (by kernel_rfl), okB_none _⟩, ?_⟩) | refine ⟨_, rfl, ?_⟩ | (refine And.intro ?_ ?_; (focus (first | (simp [limB, lenB, offB]; done) | (simp [limB, lenB, offB]; omega))))); conv => whnf)
   refine ⟨⟨ones_bys _, rfl, by decide⟩, ?_⟩
   conv => whnf
   refine Does.weakerTo' (env := [(0, .ptr 0 0), (2, .ptr 1 0), (4, .ptr 3 0)]) (heap := [(0, curC l ⟨r1, true⟩), (1, List.replicate 32 (.int .u8 0)), (3, bys (pad32 b))]) (nx := 4) (n := 25) [(0, 0), (1, 1), (3, 3)] rfl rfl ⟨⟨rfl, rfl⟩, ⟨rfl, rfl⟩, ⟨rfl, rfl⟩, trivial⟩ ⟨⟨⟨rfl, rfl, pureL_toks _⟩, ⟨rfl, rfl⟩, (by first | rfl | exact leP_bool (by simp; omega) | exact leP_bool (decide_eq_true (by omega))), trivial⟩, (show lesP _ (c32 z32 []) (c32 z32 []) from c32_les trivial), (by show lesP _ (bys (pad32 b)) (setN (List.replicate 32 (AV.int .u8 0)) 0 (List.take (Nat.min b.length 32 * 1) (bys b))); rw [copy32, c32_eq (pad32_len b), List.append_nil]; exact lesP_bys rfl), trivial⟩ ?_
   have hx := pad32_len b
   clear hb h1
   generalize pad32 b = x at hx ⊢
   refine wpc_sound (M := MQ) (PL := PLid) (CU := noCut) TTok mixed _ _ _ ?_
   conv => whnf
   refine ⟨_, takeN_all (cs := bys x) (by simp; omega), ?_⟩
   conv => whnf
   refine ⟨⟨ones_bys _, by simp [cellsA]; omega⟩, ?_⟩
   conv => whnf
   refine ⟨bys x, ?_, ?_⟩
   ·show takeN 32 (setN (List.replicate 32 (AV.int .u8 0)) 0 (bys x)) = some (bys x)
    rw [setN_eq _ _ _ (by simp; omega)]
    have : (List.replicate 32 (AV.int .u8 0)).take 0 ++ bys x ++ (List.replicate 32 (AV.int .u8 0)).drop (0 + (bys x).length) = bys x := by rw [List.drop_eq_nil_of_le (by simp; omega)]; simp
    rw [this]
    exact takeN_all (by simp; omega)
   refine ⟨⟨rfl, rfl, pureL_toks _⟩, ?_⟩
   conv => whnf
   repeat ((first | refine ⟨rfl, ?_⟩ | refine ⟨⟨rfl, rfl⟩, ?_⟩); conv => whnf)
   exact demsP_bys _ _ rfl
 ·rw [if_neg hb]
  dsimp only
  cases bad
  all_goals
   conv => whnf
   repeat ((first | refine ⟨rfl, ?_⟩ | (refine And.intro ?_ ?_; (focus (first | (simp only [pureL, pureV, pureL_bys, Bool.and_true, Bool.and_self]; done) | (simp only [pureL, pureV, pureL_bys, pureL_toks, Bool.and_true, Bool.and_self]; done))))); conv => whnf)
   refine ⟨_, _, h1, by first | rfl | simp [noRoIf, noRoL, noRoV, noRoL_bys], ?_⟩
   conv => whnf
   repeat ((first | refine ifB_t ?_ | refine ifB_f ?_ | refine ⟨(⟨by kernel_rfl, by kernel_rfl, Nat.le_of_ble_eq_true (by kernel_rfl)⟩ : AV.ones _ = true ∧ _ ∧ _), ?_⟩ | refine ⟨rfl, ?_⟩ | refine ⟨_, rfl, ?_⟩); conv => whnf)
   refine ⟨by kernel_rfl, ?_⟩
   conv => whnf
   repeat ((first | (refine ⟨⟨by first | (simp only [List.drop_zero, List.length_drop, hds_len]; omega) | exact Nat.le_of_ble_eq_true (by kernel_rfl), okB_none _⟩, ?_⟩) | refine ⟨_, rfl, ?_⟩ | (refine And.intro ?_ ?_; (focus (first | (simp [limB, lenB, offB]; done) | (simp [limB, lenB, offB]; omega))))); conv => whnf)
   refine ⟨⟨ones_bys _, rfl, by decide⟩, ?_⟩
   conv => whnf
   refine Does.weakerTo' (env := [(0, .ptr 0 0), (2, .ptr 1 0), (4, .ptr 3 0)]) (heap := [(0, curC l ⟨r1, true⟩), (1, List.replicate 32 (.int .u8 0)), (3, bys (pad32 b))]) (nx := 4) (n := 25) [(0, 0), (1, 1), (3, 3)] rfl rfl ⟨⟨rfl, rfl⟩, ⟨rfl, rfl⟩, ⟨rfl, rfl⟩, trivial⟩ ⟨⟨⟨rfl, rfl, pureL_toks _⟩, ⟨rfl, rfl⟩, (by first | rfl | exact leP_bool (by simp; omega) | exact leP_bool (decide_eq_true (by omega))), trivial⟩, (show lesP _ (c32 z32 []) (c32 z32 []) from c32_les trivial), (by show lesP _ (bys (pad32 b)) (setN (List.replicate 32 (AV.int .u8 0)) 0 (List.take (Nat.min b.length 32 * 1) (bys b))); rw [copy32, c32_eq (pad32_len b), List.append_nil]; exact lesP_bys rfl), trivial⟩ ?_
   have hx := pad32_len b
   clear hb h1
   generalize pad32 b = x at hx ⊢
   refine wpc_sound (M := MQ) (PL := PLid) (CU := noCut) TTok mixed _ _ _ ?_
   conv => whnf
   refine ⟨_, takeN_all (cs := bys x) (by simp; omega), ?_⟩
   conv => whnf
   refine ⟨⟨ones_bys _, by simp [cellsA]; omega⟩, ?_⟩
   conv => whnf
   refine ⟨bys x, ?_, ?_⟩
   ·show takeN 32 (setN (List.replicate 32 (AV.int .u8 0)) 0 (bys x)) = some (bys x)
    rw [setN_eq _ _ _ (by simp; omega)]
    have : (List.replicate 32 (AV.int .u8 0)).take 0 ++ bys x ++ (List.replicate 32 (AV.int .u8 0)).drop (0 + (bys x).length) = bys x := by rw [List.drop_eq_nil_of_le (by simp; omega)]; simp
    rw [this]
    exact takeN_all (by simp; omega)
   refine ⟨⟨rfl, rfl, pureL_toks _⟩, ?_⟩
   conv => whnf
   repeat ((first | refine ⟨rfl, ?_⟩ | refine ⟨⟨rfl, rfl⟩, ?_⟩); conv => whnf)
   exact demsP_bys _ _ rfl
theorem refid_ok (l : List Tok) (r : Rw) (hs : r.l <:+ l) (hl : l.length ≤ 1000000) : ACall Tryd.prog 52 [.ref (curC l r)] (.agg (c32 (idR r) [])) [.ref (curC l (rArr 32 r).2)] := by
 have := refid_ok0 l r hs hl
 unfold idR at this ⊢
 rw [c32_eq (pad32_len _), List.append_nil]; exact this
end
end Go.Proofs.YthnhpkpbjaelnaaDoor.Abs
