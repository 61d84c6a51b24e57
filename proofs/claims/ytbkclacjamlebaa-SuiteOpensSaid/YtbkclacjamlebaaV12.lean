/- Texts SG to X1, merged. -/
import Derived.Test.YtbkclacjamlebaaRows
import Derived.WalkKit
import Derived.ProofKit
import Derived.OpenShut
import Derived.ShutString
import Derived.ChangeOld
import Derived.Below
import Derived.SizedLaws
import Derived.Carry
import Derived.ChangeSlices
import Derived.Test.YtbkclacjamlebaaV11
set_option linter.unusedVariables false
set_option linter.unusedSimpArgs false
section
--KR
namespace Go.Proofs.Ytbkclacjamlebaa.Abs
open Go
attribute [local irreducible] ifB fitP Does Weaker
theorem ssum1_ok (k : Int) (x : List Int) (hk : 0 ≤ k ∧ k < 256) (hx : Byt x) (h0 : 0 < x.length) (lx : x.length ≤ 300000) : ACall Try.prog 15 [.int .u8 k, .ro 1 [.ro x.length (bys x)]] (.agg (c32 (shaL (k :: x)) [])) [] :=
 ssumG_ok k 1 _ x (by simp [pureL, pureV, pureL_bys]) (bconcat1_ok x (by omega)) hk hx h0 lx
theorem ssum2_ok (k : Int) (p t : List Int) (hk : 0 ≤ k ∧ k < 256) (hp : Byt p) (ht : Byt t) (h0 : 0 < p.length) (lx : (p ++ t).length ≤ 300000) : ACall Try.prog 15 [.int .u8 k, .ro 2 (cat2 p t)] (.agg (c32 (shaL (k :: (p ++ t))) [])) [] :=
 ssumG_ok k 2 _ (p ++ t) (cat2_pure p t) (bconcat_ok p t (by simp at lx; omega) (by simp at lx; omega)) hk (fun x hx => by
  rcases List.mem_append.1 hx with h | h
  ·exact hp x h
  ·exact ht x h) (by simp; omega) lx
def openL (p t : List Int) : List Int := shaL (2 :: (p ++ t)) ++ shaL (3 :: (p ++ t))
theorem c64_two {x y : List Int} (hx : x.length = 32) (hy : y.length = 32) : c32 x (c32 y []) = c64 (x ++ y) [] := by
 rw [c64_eq (by simp [hx, hy]), c32_eq hx, c32_eq hy, ← bys_append, List.append_assoc]
theorem c64_dems1 {H : Heap} {x : List Int} {zs : List AV} {K : List Nat → Prop} (hz : zs = c64 x []) (h : K []) : demsP H [.agg (c64 x [])] [.agg zs] K := by
 subst hz
 simp only [demsP, demP]
 refine c64_dems ?_
 simpa only [demsP, and_self, true_and, List.nil_append] using h
theorem open_leaf {st : St} {i j : Nat} {x y : List Int} (hn : st.n = 20) (h4 : st.env 4 = .ptr 1 0) (h5 : st.env 5 = .ptr i 0) (h6 : st.env 6 = .ptr j 0) (hi : 2 ≤ i ∧ i < 6) (hj : 2 ≤ j ∧ j < 6) (ne : i ≠ j)
  (b1 : st.heap 1 = some (bys z64)) (bi : st.heap i = some (c32 x [])) (bj : st.heap j = some (c32 y [])) : ∃ g : Unit, True ∧ Weaker 0 st (mkSt [(4, .ptr 0 0), (5, .ptr 1 0), (6, .ptr 2 0)] [(0, bys z64), (1, c32 x []), (2, c32 y [])] 3 20) := by
 have e : renOk 0 [(0, 1), (1, i), (2, j)] [(0, bys z64), (1, c32 x []), (2, c32 y [])] 3 = true := by
  have h1 : i = 2 ∨ i = 3 ∨ i = 4 ∨ i = 5 := by omega
  have h2 : j = 2 ∨ j = 3 ∨ j = 4 ∨ j = 5 := by omega
  rcases h1 with rfl | rfl | rfl | rfl <;> rcases h2 with rfl | rfl | rfl | rfl <;> first | rfl | exact absurd rfl ne
 refine ⟨(), trivial, weaker_of [(0, 1), (1, i), (2, j)] hn e ⟨?_, ?_, ?_, trivial⟩ ⟨?_, ?_, ?_, trivial⟩⟩
 ·rw [h4]; exact ⟨rfl, rfl⟩
 ·rw [h5]; exact ⟨rfl, rfl⟩
 ·rw [h6]; exact ⟨rfl, rfl⟩
 ·show (match st.heap 1 with
   | some xs => lesP _ (bys z64) xs
   | none => False)
  rw [b1]; exact lesP_bys rfl
 ·show (match st.heap i with
   | some xs => lesP _ (c32 x []) xs
   | none => False)
  rw [bi]; exact c32_les trivial
 ·show (match st.heap j with
   | some xs => lesP _ (c32 y []) xs
   | none => False)
  rw [bj]; exact c32_les trivial
def PLopen : Nat → Bool × Plan := plans [(1, (false, (takesTo [0, 1, 4, 5] (.all [(2, (.all [(3, (.all [(6, (.all [(7, (.all [(8, (.all [(9, (.all [(10, (.all [(11, .done)]))]))])), (9, (.all [(8, (.all [(10, (.all [(11, .done)]))]))]))])), (8, (.all [(7, (.all [(9, (.all [(10, (.all [(11, .done)]))]))])), (9, (.all [(7, (.all [(10, (.all [(11, .done)]))]))]))])), (9, (.all [(7, (.all [(8, (.all [(10, (.all [(11, .done)]))]))])), (8, (.all [(7, (.all [(10, (.all [(11, .done)]))]))]))]))])), (8, (.all [(6, (.all [(7, (.all [(9, (.all [(10, (.all [(11, .done)]))]))])), (9, (.all [(7, (.all [(10, (.all [(11, .done)]))]))]))])), (9, (.all [(6, (.all [(7, (.all [(10, (.all [(11, .done)]))]))]))]))])), (9, (.all [(6, (.all [(7, (.all [(8, (.all [(10, (.all [(11, .done)]))]))])), (8, (.all [(7, (.all [(10, (.all [(11, .done)]))]))]))])), (8, (.all [(6, (.all [(7, (.all [(10, (.all [(11, .done)]))]))]))]))]))])), (6, (.all [(3, (.all [(7, (.all [(8, (.all [(9, (.all [(10, (.all [(11, .done)]))]))])), (9, (.all [(8, (.all [(10, (.all [(11, .done)]))]))]))])), (8, (.all [(7, (.all [(9, (.all [(10, (.all [(11, .done)]))]))])), (9, (.all [(7, (.all [(10, (.all [(11, .done)]))]))]))])), (9, (.all [(7, (.all [(8, (.all [(10, (.all [(11, .done)]))]))])), (8, (.all [(7, (.all [(10, (.all [(11, .done)]))]))]))]))])), (8, (.all [(3, (.all [(7, (.all [(9, (.all [(10, (.all [(11, .done)]))]))])), (9, (.all [(7, (.all [(10, (.all [(11, .done)]))]))]))])), (9, (.all [(3, (.all [(7, (.all [(10, (.all [(11, .done)]))]))]))]))])), (9, (.all [(3, (.all [(7, (.all [(8, (.all [(10, (.all [(11, .done)]))]))])), (8, (.all [(7, (.all [(10, (.all [(11, .done)]))]))]))])), (8, (.all [(3, (.all [(7, (.all [(10, (.all [(11, .done)]))]))]))]))]))])), (8, (.all [(3, (.all [(6, (.all [(7, (.all [(9, (.all [(10, (.all [(11, .done)]))]))])), (9, (.all [(7, (.all [(10, (.all [(11, .done)]))]))]))])), (9, (.all [(6, (.all [(7, (.all [(10, (.all [(11, .done)]))]))]))]))])), (6, (.all [(3, (.all [(7, (.all [(9, (.all [(10, (.all [(11, .done)]))]))])), (9, (.all [(7, (.all [(10, (.all [(11, .done)]))]))]))])), (9, (.all [(3, (.all [(7, (.all [(10, (.all [(11, .done)]))]))]))]))])), (9, (.all [(3, (.all [(6, (.all [(7, (.all [(10, (.all [(11, .done)]))]))]))])), (6, (.all [(3, (.all [(7, (.all [(10, (.all [(11, .done)]))]))]))]))]))])), (9, (.all [(3, (.all [(6, (.all [(7, (.all [(8, (.all [(10, (.all [(11, .done)]))]))])), (8, (.all [(7, (.all [(10, (.all [(11, .done)]))]))]))])), (8, (.all [(6, (.all [(7, (.all [(10, (.all [(11, .done)]))]))]))]))])), (6, (.all [(3, (.all [(7, (.all [(8, (.all [(10, (.all [(11, .done)]))]))])), (8, (.all [(7, (.all [(10, (.all [(11, .done)]))]))]))])), (8, (.all [(3, (.all [(7, (.all [(10, (.all [(11, .done)]))]))]))]))])), (8, (.all [(3, (.all [(6, (.all [(7, (.all [(10, (.all [(11, .done)]))]))]))])), (6, (.all [(3, (.all [(7, (.all [(10, (.all [(11, .done)]))]))]))]))]))]))])), (6, (.all [(2, (.all [(3, (.all [(7, (.all [(8, (.all [(9, (.all [(10, (.all [(11, .done)]))]))])), (9, (.all [(8, (.all [(10, (.all [(11, .done)]))]))]))])), (8, (.all [(7, (.all [(9, (.all [(10, (.all [(11, .done)]))]))])), (9, (.all [(7, (.all [(10, (.all [(11, .done)]))]))]))])), (9, (.all [(7, (.all [(8, (.all [(10, (.all [(11, .done)]))]))])), (8, (.all [(7, (.all [(10, (.all [(11, .done)]))]))]))]))])), (8, (.all [(3, (.all [(7, (.all [(9, (.all [(10, (.all [(11, .done)]))]))])), (9, (.all [(7, (.all [(10, (.all [(11, .done)]))]))]))])), (9, (.all [(3, (.all [(7, (.all [(10, (.all [(11, .done)]))]))]))]))])), (9, (.all [(3, (.all [(7, (.all [(8, (.all [(10, (.all [(11, .done)]))]))])), (8, (.all [(7, (.all [(10, (.all [(11, .done)]))]))]))])), (8, (.all [(3, (.all [(7, (.all [(10, (.all [(11, .done)]))]))]))]))]))])), (8, (.all [(2, (.all [(3, (.all [(7, (.all [(9, (.all [(10, (.all [(11, .done)]))]))])), (9, (.all [(7, (.all [(10, (.all [(11, .done)]))]))]))])), (9, (.all [(3, (.all [(7, (.all [(10, (.all [(11, .done)]))]))]))]))])), (9, (.all [(2, (.all [(3, (.all [(7, (.all [(10, (.all [(11, .done)]))]))]))]))]))])), (9, (.all [(2, (.all [(3, (.all [(7, (.all [(8, (.all [(10, (.all [(11, .done)]))]))])), (8, (.all [(7, (.all [(10, (.all [(11, .done)]))]))]))])), (8, (.all [(3, (.all [(7, (.all [(10, (.all [(11, .done)]))]))]))]))])), (8, (.all [(2, (.all [(3, (.all [(7, (.all [(10, (.all [(11, .done)]))]))]))]))]))]))])), (8, (.all [(2, (.all [(3, (.all [(6, (.all [(7, (.all [(9, (.all [(10, (.all [(11, .done)]))]))])), (9, (.all [(7, (.all [(10, (.all [(11, .done)]))]))]))])), (9, (.all [(6, (.all [(7, (.all [(10, (.all [(11, .done)]))]))]))]))])), (6, (.all [(3, (.all [(7, (.all [(9, (.all [(10, (.all [(11, .done)]))]))])), (9, (.all [(7, (.all [(10, (.all [(11, .done)]))]))]))])), (9, (.all [(3, (.all [(7, (.all [(10, (.all [(11, .done)]))]))]))]))])), (9, (.all [(3, (.all [(6, (.all [(7, (.all [(10, (.all [(11, .done)]))]))]))])), (6, (.all [(3, (.all [(7, (.all [(10, (.all [(11, .done)]))]))]))]))]))])), (6, (.all [(2, (.all [(3, (.all [(7, (.all [(9, (.all [(10, (.all [(11, .done)]))]))])), (9, (.all [(7, (.all [(10, (.all [(11, .done)]))]))]))])), (9, (.all [(3, (.all [(7, (.all [(10, (.all [(11, .done)]))]))]))]))])), (9, (.all [(2, (.all [(3, (.all [(7, (.all [(10, (.all [(11, .done)]))]))]))]))]))])), (9, (.all [(2, (.all [(3, (.all [(6, (.all [(7, (.all [(10, (.all [(11, .done)]))]))]))])), (6, (.all [(3, (.all [(7, (.all [(10, (.all [(11, .done)]))]))]))]))])), (6, (.all [(2, (.all [(3, (.all [(7, (.all [(10, (.all [(11, .done)]))]))]))]))]))]))])), (9, (.all [(2, (.all [(3, (.all [(6, (.all [(7, (.all [(8, (.all [(10, (.all [(11, .done)]))]))])), (8, (.all [(7, (.all [(10, (.all [(11, .done)]))]))]))])), (8, (.all [(6, (.all [(7, (.all [(10, (.all [(11, .done)]))]))]))]))])), (6, (.all [(3, (.all [(7, (.all [(8, (.all [(10, (.all [(11, .done)]))]))])), (8, (.all [(7, (.all [(10, (.all [(11, .done)]))]))]))])), (8, (.all [(3, (.all [(7, (.all [(10, (.all [(11, .done)]))]))]))]))])), (8, (.all [(3, (.all [(6, (.all [(7, (.all [(10, (.all [(11, .done)]))]))]))])), (6, (.all [(3, (.all [(7, (.all [(10, (.all [(11, .done)]))]))]))]))]))])), (6, (.all [(2, (.all [(3, (.all [(7, (.all [(8, (.all [(10, (.all [(11, .done)]))]))])), (8, (.all [(7, (.all [(10, (.all [(11, .done)]))]))]))])), (8, (.all [(3, (.all [(7, (.all [(10, (.all [(11, .done)]))]))]))]))])), (8, (.all [(2, (.all [(3, (.all [(7, (.all [(10, (.all [(11, .done)]))]))]))]))]))])), (8, (.all [(2, (.all [(3, (.all [(6, (.all [(7, (.all [(10, (.all [(11, .done)]))]))]))])), (6, (.all [(3, (.all [(7, (.all [(10, (.all [(11, .done)]))]))]))]))])), (6, (.all [(2, (.all [(3, (.all [(7, (.all [(10, (.all [(11, .done)]))]))]))]))]))]))]))])))), (2, (false, (takesTo [0, 1] (.all [(2, (.all [(3, (.all [(4, (.all [(5, .done)]))]))]))]))))]
section
attribute [local irreducible] demsP
set_option maxRecDepth 20000 in
set_option maxHeartbeats 40000000 in
theorem sopen_ok (p t : List Int) (hp : Byt p) (lp : p.length = 32) (ht : Byt t) (lt : t.length ≤ 200000) : ACall Try.prog 19 [.agg (c32 p []), .ro t.length (bys t)] (.agg (c64 (openL p t) [])) [] := by
 have h1 := ssum2_ok 2 p t (by omega) hp ht (by omega) (by simp; omega)
 have h2 := ssum2_ok 3 p t (by omega) hp ht (by omega) (by simp; omega)
 unfold openL
 have l1 := shaL_len (2 :: (p ++ t))
 have l2 := shaL_len (3 :: (p ++ t))
 generalize shaL (2 :: (p ++ t)) = x at h1 l1 ⊢
 generalize shaL (3 :: (p ++ t)) = y at h2 l2 ⊢
 refine ACall.of_does TTok Try.func19 rfl Try.call19 rfl (wpc_sound (M := MU) (PL := PLopen) (CU := cutAt [200001]) TTok mixed _ _ _ ?_)
 conv => whnf
 repeat (first | (refine ifB_t ?_; conv => whnf) | (refine ifB_f ?_; conv => whnf) | (refine ifB_neg (decide_eq_false (by first | omega | rfl | (dsimp only; omega))) ?_; conv => whnf) | (refine ifB_pos (decide_eq_true (by first | omega | rfl | (dsimp only; omega))) ?_; conv => whnf) | (refine fit_i64 ⟨by first | omega | rfl | (dsimp only; omega), by first | omega | rfl | (dsimp only; omega)⟩ ?_; conv => whnf) | (refine fit_u64 ⟨by first | omega | rfl | (dsimp only; omega), by first | omega | rfl | (dsimp only; omega)⟩ ?_; conv => whnf) | (refine fit_u8 ⟨by first | omega | rfl | (dsimp only; omega), by first | omega | rfl | (dsimp only; omega)⟩ ?_; conv => whnf) | (refine ⟨pureL_bys _, ?_⟩; conv => whnf) | (refine ⟨ones_bys _, ?_⟩; conv => whnf) | (refine ⟨pureL_cutB _ _ _ _, ?_⟩; conv => whnf) | (refine ⟨(⟨by kernel_rfl, by kernel_rfl, Nat.le_of_ble_eq_true (by kernel_rfl)⟩ : AV.ones _ = true ∧ _ ∧ _), ?_⟩; conv => whnf) | (refine ⟨⟨by first | (simp only [List.drop_zero, List.length_drop, hds_len]; omega) | exact Nat.le_of_ble_eq_true (by kernel_rfl), okB_none _⟩, ?_⟩; conv => whnf) | (refine ⟨entC_pure _, ?_⟩; conv => whnf) | (refine Or.inl ⟨⟨rfl, ?_⟩, ?_⟩; (focus (first | rfl | (simp; done) | (rw [toksC_length]; omega))); conv => whnf) | (refine ⟨rfl, ?_⟩; conv => whnf) | (refine ⟨_, rfl, ?_⟩; conv => whnf) | (refine ⟨⟨rfl, rfl⟩, ?_⟩; conv => whnf) | (refine ⟨⟨rfl, rfl, rfl, ?_, pureL_bys _⟩, ?_⟩; (focus (simp; done)); conv => whnf) | (refine ⟨⟨rfl, rfl, ?_, pureL_bys _⟩, ?_⟩; (focus (simp; done)); conv => whnf) | (refine ⟨⟨rfl, rfl, rfl, ?_, pureL_toks _⟩, ?_⟩; (focus (rw [toksC_length]; omega)); conv => whnf) | (refine ⟨⟨rfl, rfl, ?_, pureL_toks _⟩, ?_⟩; (focus (rw [toksC_length]; omega)); conv => whnf) | (refine ⟨⟨rfl, rfl, ?_⟩, ?_⟩; (focus (first | assumption | exact pureL_bys _ | exact pureL_toks _)); conv => whnf) | (refine ⟨⟨rfl, rfl, ?_⟩, ?_⟩; (focus (first | exact Nat.le_of_ble_eq_true rfl | (simp; done))); conv => whnf) | (refine And.intro (by first | omega | rfl | (dsimp only; omega)) ?_; conv => whnf) | (refine ⟨⟨rfl, ?_⟩, ?_⟩; (focus (first | (simp only [okB]; omega) | (simp [okB]; omega))); conv => whnf) | (refine ⟨⟨?_, ?_, ?_⟩, ?_⟩; (focus omega); (focus (first | omega | (simp; done) | (simp; omega))); (focus (first | (simp; done) | (simp; omega) | (rw [toksC_length]; simp; omega))); conv => whnf) | (refine ⟨roLoad_ok rfl ?_, ?_⟩; (focus (simp [toksC_length]; omega)); conv => whnf) | (refine ⟨⟨?_, ?_⟩, ?_⟩; (focus (simp; done)); (focus (first | (simp only [okB]; omega) | (simp [okB]; omega))); conv => whnf) | (refine And.intro ?_ ?_; (focus (first | (simp only [pureL, pureV, pureL_bys, Bool.and_true, Bool.and_self]; done) | (simp only [pureL, pureV, pureL_bys, pureL_toks, Bool.and_true, Bool.and_self]; done))); conv => whnf) | (refine ⟨⟨rfl, rfl, ?_, ?_⟩, ?_⟩; (focus (first | (simp [lenB, offB]; done) | (simp [lenB, offB]; omega))); (focus (first | (simp [limB, lenB, offB]; done) | (simp [limB, lenB, offB]; omega))); conv => whnf) | (refine ⟨⟨rfl, ?_, ?_, ?_⟩, ?_⟩; (focus (first | (simp; done) | (simp; omega))); (focus (first | exact Or.inl rfl | exact Or.inr (by omega))); (focus (first | (simp [limB, lenB, offB]; done) | (simp [limB, lenB, offB]; omega))); conv => whnf) | (refine And.intro ?_ ?_; (focus (first | (simp [limB, lenB, offB]; done) | (simp [limB, lenB, offB]; omega))); conv => whnf) | (refine ⟨ones_toks _, ?_⟩; conv => whnf) | (refine And.intro ?_ ?_; (focus (simp [pureL, pureV, pureL_bys, pureL_toks, pureL_app]; done)); conv => whnf) | (refine fit_i64 ⟨by first | (simp; done) | (simp; omega), by first | (simp; done) | (simp; omega)⟩ ?_; conv => whnf) | (refine ifB_neg (decide_eq_false (by first | (simp; done) | (simp; omega))) ?_; conv => whnf) | (refine ifB_pos (decide_eq_true (by first | (simp; done) | (simp; omega))) ?_; conv => whnf) | (refine Or.inl ⟨⟨rfl, ?_⟩, ?_⟩; (focus (first | (simp [toksC_length]; done) | (simp [toksC_length]; omega))); conv => whnf) | (refine ⟨⟨rfl, rfl, ?_, ?_⟩, ?_⟩; (focus (first | (simp [toksC_length]; done) | (simp [toksC_length]; omega))); (focus (first | (simp [limB, lenB, offB]; done) | (simp [limB, lenB, offB]; omega))); conv => whnf) | (refine ⟨⟨rfl, ?_, ?_, ?_⟩, ?_⟩; (focus (first | (simp [toksC_length]; done) | (simp [toksC_length]; omega))); (focus (first | exact Or.inl rfl | exact Or.inr (by omega))); (focus (first | (simp [limB, lenB, offB]; done) | (simp [limB, lenB, offB]; omega))); conv => whnf) | (refine And.intro ?_ ?_; (focus (first | (simp [toksC_length]; done) | (simp [toksC_length]; omega))); conv => whnf) | (refine ⟨pureL_take (pureL_drop (pureL_bys _) _) _, ?_⟩; conv => whnf) | (refine ⟨pureL_take (pureL_drop (pureL_toks _) _) _, ?_⟩; conv => whnf) | (refine ⟨pureL_ints _, ?_⟩; conv => whnf) | (refine ⟨ones_ints _, ?_⟩; conv => whnf) | (refine ⟨ones_part (ones_ints _) _ _, ?_⟩; conv => whnf) | (refine ⟨ones_part (ones_toks _) _ _, ?_⟩; conv => whnf) | (refine ⟨ones_part (ones_bys _) _ _, ?_⟩; conv => whnf) | (refine ⟨⟨?_, ?_, ?_⟩, ?_⟩; (focus omega); (focus (first | omega | (simp; done) | (simp; omega))); (focus (first | (rw [prfs_len]; simp; omega) | (rw [ents_len]; simp; omega) | (rw [hds_len]; simp; omega) | (rw [lets_len]; simp; omega))); conv => whnf) | (refine ⟨(show pureL (rowsC _ _) = true from by first | exact prfs_pure _ | exact ents_pure _ | exact hds_pure _ | exact lets_pure _), ?_⟩; conv => whnf) | (refine ⟨(show pureL _ = true from by first | exact prfC_pure _ | exact hdC_pure _ | exact msgC_pure _ | exact letC_pure _), ?_⟩; conv => whnf))
 have hl : (c32 p []).length = 32 := c32_len p []
 have hA : ∀ (k : Int) (z : AV), ACall Try.prog 15 [.int .u8 k, .ro 2 (cat2 p t)] z [] → ACall Try.prog 15 [.int .u8 k, .ro 2 [.ro 32 (cutB ((c32 p []).take (32 * 1)) none none 1), .ro t.length (bys t)]] z [] := fun k z h => h.args (by rw [cut32 lp, cat2, lp])
 have hpu : pureL [.ro 32 (cutB ((c32 p []).take (32 * 1)) none none 1), .ro t.length (bys t)] = true := by rw [cut32 lp]; simp [pureL, pureV, pureL_bys]
 have h1 := hA 2 _ h1
 have h2 := hA 3 _ h2
 clear hA
 refine Does.freeze 0 rfl (Does.tidy [(1, .ro t.length (bys t)), (2, .rop (c32 p [])), (4, .ptr 1 0)] [(1, bys z64)] 2 20 rfl rfl rfl (by kernel_rfl) (by kernel_rfl) ?_)
 rw [show (matL [AV.agg (c32 p []), AV.ro t.length (bys t)] (noHeap, 0)).snd.snd = 0 from rfl]
 generalize c32 p [] = P at hl hpu h1 h2 ⊢
 refine Does.seqCut (α := Unit) (fun _ => mkSt [(4, .ptr 0 0), (5, .ptr 1 0), (6, .ptr 2 0)] [(0, bys z64), (1, c32 x []), (2, c32 y [])] 3 20) (fun _ => True) ?_ (fun _ _ => ?_)
 ·refine wpc_sound (M := MU) (PL := PLopen) (CU := noCut) TTok mixed _ _ _ ?_
  conv => whnf
  refine ⟨by kernel_rfl, ?_⟩
  conv => whnf
  refine ⟨⟨by show 32 * 1 ≤ (List.drop 0 P).length; simp [hl], okB_none _⟩, ?_⟩
  conv => whnf
  refine ⟨⟨by show 32 * 1 ≤ (List.drop 0 P).length; simp [hl], okB_none _⟩, ?_⟩
  conv => whnf
  repeat' (first | ((with_reducible refine And.intro (?_ : _ = _) ?_); (focus first | exact hpu | exact rfl); conv => whnf) | ((with_reducible refine And.intro (And.intro (?_ : _ = _) ?_) ?_); (focus exact rfl); (focus exact ⟨by kernel_rfl, Nat.le_of_ble_eq_true (by kernel_rfl)⟩); conv => whnf) | ((with_reducible refine Or.inl ?_); refine ⟨⟨rfl, rfl⟩, ?_⟩; conv => whnf) | ((with_reducible refine And.intro ?_ ?_) <;> conv => whnf) | (refine ⟨_, _, h1, by first | rfl | simp [noRoIf, noRoL, noRoV, noRoL_bys], ?_⟩; conv => whnf) | (refine ⟨_, _, h2, by first | rfl | simp [noRoIf, noRoL, noRoV, noRoL_bys], ?_⟩; conv => whnf))
  all_goals exact open_leaf rfl rfl rfl rfl (by omega) (by omega) (by omega) rfl (by kernel_rfl) (by kernel_rfl)
 ·refine wpc_sound (M := MU) (PL := PLopen) (CU := noCut) TTok mixed _ _ _ ?_
  conv => whnf
  refine ⟨by kernel_rfl, ?_⟩
  conv => whnf
  refine ⟨⟨Nat.le_of_ble_eq_true (by kernel_rfl), okB_none _⟩, ?_⟩
  conv => whnf
  refine ⟨⟨Nat.le_of_ble_eq_true (by kernel_rfl), okB_none _⟩, ?_⟩
  conv => whnf
  refine Or.inl ⟨⟨rfl, rfl, rfl⟩, ?_⟩
  conv => whnf
  refine ⟨by kernel_rfl, ?_⟩
  conv => whnf
  refine ⟨⟨rfl, Nat.le_of_ble_eq_true (by kernel_rfl), Or.inr (by decide), Nat.le_of_ble_eq_true (by kernel_rfl)⟩, ?_⟩
  conv => whnf
  refine ⟨⟨Nat.le_of_ble_eq_true (by kernel_rfl), Nat.le_of_ble_eq_true (by kernel_rfl)⟩, ?_⟩
  conv => whnf
  refine ⟨c64 (x ++ y) [], by rw [← c64_two l1 l2]; kernel_rfl, ?_⟩
  conv => whnf
  refine ⟨(⟨by kernel_rfl, by kernel_rfl, Nat.le_of_ble_eq_true (by kernel_rfl)⟩ : AV.ones _ = true ∧ _ ∧ _), ?_⟩
  conv => whnf
  refine ⟨c64 (x ++ y) [], by kernel_rfl, ?_⟩
  conv => whnf
  refine c64_dems1 (by kernel_rfl) ?_
  rfl
end
end Go.Proofs.Ytbkclacjamlebaa.Abs
end
section
--KR
namespace Go.Proofs.Ytbkclacjamlebaa.Abs
open Go
attribute [local irreducible] ifB fitP Does Weaker
theorem c32_int_dems {H : Heap} {x : List Int} {n : Int} {zs : List AV} {K : List Nat → Prop} (hz : zs = c32 x []) (h : K []) : demsP H [.tuple [.agg (c32 x []), .int .i64 n]] [.tuple [.agg zs, .int .i64 n]] K := by
 subst hz
 simp only [demsP, demP]
 refine c32_dems ?_
 simpa only [demsP, and_self, true_and, List.nil_append] using h
theorem c64_int_dems {H : Heap} {x : List Int} {n : Int} {zs : List AV} {K : List Nat → Prop} (hz : zs = c64 x []) (h : K []) : demsP H [.tuple [.agg (c64 x []), .int .i64 n]] [.tuple [.agg zs, .int .i64 n]] K := by
 subst hz
 simp only [demsP, demP]
 refine c64_dems ?_
 simpa only [demsP, and_self, true_and, List.nil_append] using h
theorem known2_ok : ACall Try.prog 14 [.int .i64 2] (.bool true) [] := known_ok 2
section
attribute [local irreducible] demsP
set_option maxRecDepth 20000 in
set_option maxHeartbeats 4000000 in
theorem spublic_ok (s : List Int) (hs : Byt s) (ls : s.length = 32) : ACall Try.prog 5 [.int .i64 2, .agg (c32 s [])] (.tuple [.agg (c32 (shaL (1 :: s)) []), .int .i64 0]) [] := by
 have h1 := ssum1_ok 1 s (by omega) hs (by omega) (by omega)
 generalize shaL (1 :: s) = x at h1 ⊢
 have hl : (c32 s []).length = 32 := c32_len s []
 have hA : ACall Try.prog 15 [.int .u8 1, .ro 1 [.ro 32 (cutB ((c32 s []).take (32 * 1)) none none 1)]] (.agg (c32 x [])) [] := h1.args (by rw [cut32 ls, ls])
 have hpu : pureL [.ro 32 (cutB ((c32 s []).take (32 * 1)) none none 1)] = true := by rw [cut32 ls]; simp [pureL, pureV, pureL_bys]
 clear h1
 refine ACall.of_does TTok Try.func5 rfl Try.call5 rfl (wpc_sound (M := MU) (PL := PL0) (CU := cutAt [100005, 99999]) TTok mixed _ _ _ ?_)
 conv => whnf
 repeat ((refine ⟨rfl, ?_⟩); conv => whnf)
 refine ⟨_, _, known2_ok, by first | rfl | simp [noRoIf, noRoL, noRoV, noRoL_bys], ?_⟩
 conv => whnf
 repeat ((refine ifB_f ?_); conv => whnf)
 refine Does.freeze 0 rfl (Does.tidy [(3, .rop (c32 s [])), (4, .ptr 1 0)] [(1, bys z32)] 2 19 rfl rfl rfl (by kernel_rfl) (by kernel_rfl) ?_)
 generalize c32 s [] = P at hl hpu hA ⊢
 refine wpc_sound (M := MU) (PL := PL0) (CU := cutAt [99999]) TTok mixed _ _ _ ?_
 conv => whnf
 refine ⟨⟨by show 32 * 1 ≤ (List.drop 0 P).length; simp [hl], okB_none _⟩, ?_⟩
 conv => whnf
 repeat ((first | (refine Or.inl ⟨⟨rfl, ?_⟩, ?_⟩; (focus (first | rfl | (simp; done) | (rw [toksC_length]; omega)))) | refine ⟨rfl, ?_⟩ | (refine And.intro ?_ ?_; (focus (first | (simp [limB, lenB, offB]; done) | (simp [limB, lenB, offB]; omega))))); conv => whnf)
 refine ⟨_, _, hA, by first | rfl | simp [noRoIf, noRoL, noRoV, noRoL_bys], ?_⟩
 conv => whnf
 repeat ((refine ⟨(⟨by kernel_rfl, by kernel_rfl, Nat.le_of_ble_eq_true (by kernel_rfl)⟩ : AV.ones _ = true ∧ _ ∧ _), ?_⟩); conv => whnf)
 refine Does.tidy [(4, .ptr 1 0), (5, .int .i64 0)] [(1, c32 x []), (2, [.ro 32 (cutB (P.take (32 * 1)) none none 1)])] 3 19 rfl rfl rfl (by kernel_rfl) (by kernel_rfl) ?_
 refine wpc_sound (M := MU) (PL := PL0) (CU := noCut) TTok mixed _ _ _ ?_
 conv => whnf
 refine ⟨c32 x [], by kernel_rfl, ?_⟩
 conv => whnf
 refine c32_int_dems (by kernel_rfl) ?_
 rfl
set_option maxRecDepth 20000 in
set_option maxHeartbeats 4000000 in
theorem ssign_ok (s t : List Int) (hs : Byt s) (ls : s.length = 32) (ht : Byt t) (lt : t.length ≤ 200000) : ACall Try.prog 8 [.int .i64 2, .agg (c32 s []), .ro t.length (bys t)] (.tuple [.agg (c64 (openL (shaL (1 :: s)) t) []), .int .i64 0]) [] := by
 have h1 := ssum1_ok 1 s (by omega) hs (by omega) (by omega)
 have h2 := sopen_ok (shaL (1 :: s)) t (shaL_byt _) (shaL_len _) ht lt
 generalize openL (shaL (1 :: s)) t = z at h2 ⊢
 generalize shaL (1 :: s) = x at h1 h2
 have hl : (c32 s []).length = 32 := c32_len s []
 have hA : ACall Try.prog 15 [.int .u8 1, .ro 1 [.ro 32 (cutB ((c32 s []).take (32 * 1)) none none 1)]] (.agg (c32 x [])) [] := h1.args (by rw [cut32 ls, ls])
 have hpu : pureL [.ro 32 (cutB ((c32 s []).take (32 * 1)) none none 1)] = true := by rw [cut32 ls]; simp [pureL, pureV, pureL_bys]
 clear h1
 refine ACall.of_does TTok Try.func8 rfl Try.call8 rfl (wpc_sound (M := MU) (PL := PL0) (CU := cutAt [100005, 99999]) TTok mixed _ _ _ ?_)
 conv => whnf
 repeat ((refine ⟨rfl, ?_⟩); conv => whnf)
 refine ⟨_, _, known2_ok, by first | rfl | simp [noRoIf, noRoL, noRoV, noRoL_bys], ?_⟩
 conv => whnf
 repeat ((refine ifB_f ?_); conv => whnf)
 refine Does.freeze 0 rfl (Does.tidy [(2, .ro t.length (bys t)), (4, .rop (c32 s [])), (6, .ptr 1 0)] [(1, bys z64)] 2 24 rfl rfl rfl (by kernel_rfl) (by kernel_rfl) ?_)
 generalize c32 s [] = P at hl hpu hA ⊢
 refine wpc_sound (M := MU) (PL := PL0) (CU := cutAt [99999]) TTok mixed _ _ _ ?_
 conv => whnf
 refine ⟨⟨by show 32 * 1 ≤ (List.drop 0 P).length; simp [hl], okB_none _⟩, ?_⟩
 conv => whnf
 repeat ((first | (refine Or.inl ⟨⟨rfl, ?_⟩, ?_⟩; (focus (first | rfl | (simp; done) | (rw [toksC_length]; omega)))) | refine ⟨rfl, ?_⟩ | (refine And.intro ?_ ?_; (focus (first | (simp [limB, lenB, offB]; done) | (simp [limB, lenB, offB]; omega))))); conv => whnf)
 refine ⟨_, _, hA, by first | rfl | simp [noRoIf, noRoL, noRoV, noRoL_bys], ?_⟩
 conv => whnf
 repeat ((first | refine ⟨pureL_bys _, ?_⟩ | refine ⟨rfl, ?_⟩); conv => whnf)
 refine ⟨_, _, h2, by first | rfl | simp [noRoIf, noRoL, noRoV, noRoL_bys], ?_⟩
 conv => whnf
 repeat ((refine ⟨(⟨by kernel_rfl, by kernel_rfl, Nat.le_of_ble_eq_true (by kernel_rfl)⟩ : AV.ones _ = true ∧ _ ∧ _), ?_⟩); conv => whnf)
 refine Does.tidy [(6, .ptr 1 0), (7, .int .i64 0)] [(1, c64 z []), (2, [.ro 32 (cutB (P.take (32 * 1)) none none 1)])] 3 24 rfl rfl rfl (by kernel_rfl) (by kernel_rfl) ?_
 refine wpc_sound (M := MU) (PL := PL0) (CU := noCut) TTok mixed _ _ _ ?_
 conv => whnf
 refine ⟨c64 z [], by kernel_rfl, ?_⟩
 conv => whnf
 refine c64_int_dems (by kernel_rfl) ?_
 rfl
end
def PLver : Nat → Bool × Plan := plans [(5, (false, (takesTo [0, 1, 2] (.all [(3, (takes [4, 5]))]))))]
set_option maxRecDepth 20000 in
set_option maxHeartbeats 4000000 in
theorem sverify_ok (p t g : List Int) (hp : Byt p) (lp : p.length = 32) (ht : Byt t) (lt : t.length ≤ 200000) (lg : g.length = 64) : ACall Try.prog 7 [.int .i64 2, .agg (c32 p []), .ro t.length (bys t), .agg (c64 g [])] (.bool (decide (g = openL p t))) [] := by
 have h2 := sopen_ok p t hp lp ht lt
 have lz : (openL p t).length = 64 := by unfold openL; rw [List.length_append, shaL_len, shaL_len]
 generalize openL p t = z at h2 lz ⊢
 refine ACall.of_does TTok Try.func7 rfl Try.call7 rfl (wpc_sound (M := MU) (PL := PLver) (CU := cutAt [100005]) TTok mixed _ _ _ ?_)
 conv => whnf
 repeat ((first | refine ifB_t ?_ | refine ifB_f ?_ | refine ⟨rfl, ?_⟩); conv => whnf)
 refine Does.freeze 0 rfl (Does.freeze 1 (zs := c64 g []) (by show some (frzL 0 _ (c64 g [])) = _; rw [c64_frz]; rfl) (Does.tidy [(2, .ro t.length (bys t)), (5, .rop (c32 p [])), (7, .rop (c64 g []))] [] 2 23 rfl rfl rfl (by kernel_rfl) (by kernel_rfl) ?_))
 refine wpc_sound (M := MU) (PL := PLver) (CU := noCut) TTok mixed _ _ _ ?_
 conv => whnf
 refine ⟨by kernel_rfl, ?_⟩
 conv => whnf
 repeat ((first | refine ⟨pureL_bys _, ?_⟩ | refine ⟨rfl, ?_⟩ | refine ⟨_, rfl, ?_⟩); conv => whnf)
 refine ⟨_, _, h2, by first | rfl | simp [noRoIf, noRoL, noRoV, noRoL_bys], ?_⟩
 conv => whnf
 refine ⟨g, z, ⟨rfl, c64_map lg, c64_map lz, lg, lz⟩, ?_⟩
 conv => whnf
 repeat ((refine ⟨rfl, ?_⟩); conv => whnf)
 rfl
end Go.Proofs.Ytbkclacjamlebaa.Abs
end
section
--KR
namespace Go.Proofs.Ytbkclacjamlebaa.Abs
open Go
attribute [local irreducible] ifB fitP Does Weaker
def MLo : FuncId → List Mode := orElse [(10, []), (9, [.bw])] MU
def wk8 : List Int := 1 :: List.replicate 31 0
section
attribute [local irreducible] demsP
set_option maxRecDepth 20000 in
set_option maxHeartbeats 4000000 in
theorem ssign_bad (s : List Int) : ACall Try.prog 8 [.int .i64 3, .agg (c32 s []), .ro 0 []] (.tuple [.agg (c64 z64 []), .int .i64 1]) [] := by
 have h := known_ok 3
 refine ACall.of_does TTok Try.func8 rfl Try.call8 rfl (wpc_sound (M := MU) (PL := PL0) (CU := cutAt [99999]) TTok mixed _ _ _ ?_)
 conv => whnf
 repeat ((refine ⟨rfl, ?_⟩); conv => whnf)
 refine ⟨_, _, h, by first | rfl | simp [noRoIf, noRoL, noRoV, noRoL_bys], ?_⟩
 conv => whnf
 repeat ((first | refine ifB_t ?_ | refine ⟨(⟨by kernel_rfl, by kernel_rfl, Nat.le_of_ble_eq_true (by kernel_rfl)⟩ : AV.ones _ = true ∧ _ ∧ _), ?_⟩); conv => whnf)
 refine Does.tidy [(6, .ptr 1 0), (7, .int .i64 1)] [(0, c32 s []), (1, c64 z64 [])] 2 24 rfl rfl rfl (by kernel_rfl) (by kernel_rfl) ?_
 refine wpc_sound (M := MU) (PL := PL0) (CU := noCut) TTok mixed _ _ _ ?_
 conv => whnf
 refine ⟨c64 z64 [], by kernel_rfl, ?_⟩
 conv => whnf
 refine c64_int_dems (by kernel_rfl) ?_
 rfl
end
set_option maxRecDepth 100000 in
theorem wk8_a : decide (shaL (1 :: wk8) = z32) = false := by kernel_rfl
set_option maxRecDepth 100000 in
theorem wk8_b : decide (openL (shaL (1 :: wk8)) [116] = openL (shaL (1 :: wk8)) [117]) = false := by kernel_rfl
theorem openL_len (p t : List Int) : (openL p t).length = 64 := by unfold openL; rw [List.length_append, shaL_len, shaL_len]
set_option maxRecDepth 20000 in
set_option maxHeartbeats 4000000 in
theorem wakes08_ok : ACall Try.prog 10 [] (.bool true) [] := by
 have b8 : Byt wk8 := by intro x hx; simp [wk8, List.mem_replicate] at hx; omega
 have bt : ∀ c : Int, 0 ≤ c ∧ c < 256 → Byt [c] := fun c hc x hx => by rw [List.mem_singleton] at hx; rw [hx]; exact hc
 have h1 := spublic_ok wk8 b8 rfl
 have h2 := ssign_ok wk8 [116] b8 rfl (bt 116 (by omega)) (by decide)
 have h3 := ssign_bad z32
 have lp : (shaL (1 :: wk8)).length = 32 := shaL_len _
 have lz : (openL (shaL (1 :: wk8)) [116]).length = 64 := openL_len _ _
 have h4 := sverify_ok (shaL (1 :: wk8)) [116] (openL (shaL (1 :: wk8)) [116]) (shaL_byt _) lp (bt 116 (by omega)) (by decide) lz
 have h5 := sverify_ok (shaL (1 :: wk8)) [117] (openL (shaL (1 :: wk8)) [116]) (shaL_byt _) lp (bt 117 (by omega)) (by decide) lz
 rw [wk8_b] at h5
 rw [decide_eq_true rfl] at h4
 have hd := wk8_a
 generalize openL (shaL (1 :: wk8)) [116] = g at h2 h4 h5 lz
 generalize shaL (1 :: wk8) = p at h1 h4 h5 lp hd
 refine ACall.of_does TTok Try.func10 rfl Try.call10 rfl (wpc_sound (M := MLo) (PL := PL0) (CU := cutAt [100002, 100003, 100004]) TTok mixed _ _ _ ?_)
 conv => whnf
 repeat ((refine ⟨rfl, ?_⟩); conv => whnf)
 refine ⟨_, _, h1, by first | rfl | simp [noRoIf, noRoL, noRoV, noRoL_bys], ?_⟩
 conv => whnf
 repeat ((first | refine ⟨(⟨by kernel_rfl, by kernel_rfl, Nat.le_of_ble_eq_true (by kernel_rfl)⟩ : AV.ones _ = true ∧ _ ∧ _), ?_⟩ | refine ⟨rfl, ?_⟩); conv => whnf)
 refine Does.freeze 0 (zs := c32 p []) (by kernel_rfl) (Does.tidy [(1, .rop (c32 p [])), (2, .int .i64 0)] [] 1 54 rfl rfl rfl (by kernel_rfl) (by kernel_rfl) ?_)
 refine wpc_sound (M := MLo) (PL := PL0) (CU := noCut) TTok mixed _ _ _ ?_
 conv => whnf
 repeat ((first | refine ⟨rfl, ?_⟩ | (refine And.intro (by first | omega | rfl | (dsimp only; omega)) ?_)); conv => whnf)
 refine ⟨_, _, h2, by first | rfl | simp [noRoIf, noRoL, noRoV, noRoL_bys], ?_⟩
 conv => whnf
 repeat ((first | refine ⟨(⟨by kernel_rfl, by kernel_rfl, Nat.le_of_ble_eq_true (by kernel_rfl)⟩ : AV.ones _ = true ∧ _ ∧ _), ?_⟩ | refine ⟨rfl, ?_⟩); conv => whnf)
 refine Does.freeze 2 (zs := c64 g []) (by kernel_rfl) (Does.tidy [(1, .rop (c32 p [])), (2, .int .i64 0), (3, .rop (c64 g [])), (4, .int .i64 0)] [] 3 54 rfl rfl rfl (by kernel_rfl) (by kernel_rfl) ?_)
 refine wpc_sound (M := MLo) (PL := PL0) (CU := noCut) TTok mixed _ _ _ ?_
 conv => whnf
 repeat ((refine ⟨rfl, ?_⟩); conv => whnf)
 refine ⟨_, _, h3, by first | rfl | simp [noRoIf, noRoL, noRoV, noRoL_bys], ?_⟩
 conv => whnf
 repeat ((first | refine ⟨(⟨by kernel_rfl, by kernel_rfl, Nat.le_of_ble_eq_true (by kernel_rfl)⟩ : AV.ones _ = true ∧ _ ∧ _), ?_⟩ | refine ⟨rfl, ?_⟩); conv => whnf)
 refine Does.tidy [(1, .rop (c32 p [])), (2, .int .i64 0), (3, .rop (c64 g [])), (4, .int .i64 0), (6, .int .i64 1)] [(3, c64 z64 [])] 4 54 rfl rfl rfl (by kernel_rfl) (by kernel_rfl) ?_
 refine wpc_sound (M := MLo) (PL := PL0) (CU := noCut) TTok mixed _ _ _ ?_
 conv => whnf
 repeat ((first | refine ifB_t ?_ | refine ⟨_, rfl, ?_⟩); conv => whnf)
 refine ⟨p, z32, ⟨rfl, c32_map lp, by kernel_rfl, lp, rfl⟩, ?_⟩
 rw [hd]
 conv => whnf
 repeat ((first | refine ifB_t ?_ | refine ⟨rfl, ?_⟩ | refine ⟨_, rfl, ?_⟩ | (refine And.intro (by first | omega | rfl | (dsimp only; omega)) ?_)); conv => whnf)
 refine ⟨_, _, h4, by first | rfl | simp [noRoIf, noRoL, noRoV, noRoL_bys], ?_⟩
 conv => whnf
 repeat ((first | refine ifB_t ?_ | refine ⟨rfl, ?_⟩ | refine ⟨_, rfl, ?_⟩ | (refine And.intro (by first | omega | rfl | (dsimp only; omega)) ?_)); conv => whnf)
 refine ⟨_, _, h5, by first | rfl | simp [noRoIf, noRoL, noRoV, noRoL_bys], ?_⟩
 conv => whnf
 repeat ((first | refine ifB_t ?_ | refine ⟨rfl, ?_⟩); conv => whnf)
 rfl
end Go.Proofs.Ytbkclacjamlebaa.Abs
end
section

namespace Go.Proofs.Ytbkclacjamlebaa.Abs
open Go
theorem a32_of_ty {n : Nat} {y : List AV} (h : TyL TT (n + 2) 22 y) : ∃ l : List Int, y = c32 l [] ∧ (Byt l ∧ l.length = 32) := by
 obtain ⟨es, rfl, hl, he⟩ := h
 obtain ⟨l, h1, h2, h3⟩ := bytes_of_ty ⟨_, show TT 5 = some _ from rfl, rfl⟩ es he
 have hh : l.length = 32 := by rw [h2, hl]
 exact ⟨l, by rw [h1, c32_eq hh, List.append_nil], h3, hh⟩
end Go.Proofs.Ytbkclacjamlebaa.Abs
end
section
--KR
namespace Go.Proofs.Ytbkclacjamlebaa.Abs
open Go
attribute [local irreducible] ifB fitP Does Weaker
def PLos : Nat → Bool × Plan := plans [(4, (false, (takesTo [0, 1, 2, 3, 5] (.all [(4, (.all [(6, (.all [(7, (takes [8, 9]))]))]))])))), (12, (false, (takesTo [0, 1, 2, 3, 4, 5, 6, 7, 8, 9] (.all [(10, (takesTo [11] (.all [(12, .done)])))]))))]
theorem one_byt8 {k : Int} {y : List Int} (hk : 0 ≤ k ∧ k < 256) (hy : Byt y) : Byt (k :: y) := fun x hx => by
 rcases List.mem_cons.1 hx with h | h
 ·rw [h]; exact hk
 ·exact hy x h
theorem ap_len (k : Int) {y : List Int} (ly : y.length = 32) : (List.take (1 * 1) (List.drop 0 [AV.int .u8 k]) ++ cutB ((c32 y []).take (32 * 1)) none none 1).length = (1 + 32) * 1 := by rw [cut32 ly]; simp [ly]
theorem ap_pure (k : Int) {y : List Int} (ly : y.length = 32) : pureL (List.take (1 * 1) (List.drop 0 [AV.int .u8 k]) ++ cutB ((c32 y []).take (32 * 1)) none none 1) = true := by rw [cut32 ly]; simp [pureL, pureV, pureL_bys]
theorem ap2_len (k : Int) {y t : List Int} (ly : y.length = 32) : (List.take (1 * 1) (List.drop 0 [AV.int .u8 k]) ++ cutB ((c32 y []).take (32 * 1)) none none 1 ++ bys t).length = (1 + 32 + t.length) * 1 := by rw [cut32 ly]; simp [ly]; omega
theorem ap2_pure (k : Int) {y t : List Int} (ly : y.length = 32) : pureL (List.take (1 * 1) (List.drop 0 [AV.int .u8 k]) ++ cutB ((c32 y []).take (32 * 1)) none none 1 ++ bys t) = true := by rw [cut32 ly]; simp [pureL, pureV, pureL_bys, pureL_app]
def cpy (a b : List Int) (i : Nat) : List Int := (a.take i ++ List.replicate (32 - i) 0) ++ (b.take i ++ List.replicate (32 - i) 0)
theorem cpy_zero (a b : List Int) : cpy a b 0 = List.replicate 64 0 := by simp [cpy]
theorem cpy_all {a b : List Int} (la : a.length = 32) (lb : b.length = 32) : cpy a b 32 = a ++ b := by simp [cpy, List.take_of_length_le, la, lb]
theorem cpy_len (a b : List Int) {i : Nat} (la : a.length = 32) (lb : b.length = 32) (hi : i ≤ 32) : (cpy a b i).length = 64 := by simp [cpy, la, lb]; omega
theorem half_set {a : List Int} {i : Nat} (la : a.length = 32) (hi : i < 32) : (a.take i ++ List.replicate (32 - i) 0).set i a[i] = a.take (i + 1) ++ List.replicate (32 - (i + 1)) 0 := by
 rw [List.set_append_right _ _ (by simp [la]; omega), List.length_take, Nat.min_eq_left (by omega), Nat.sub_self, show 32 - i = (32 - (i + 1)) + 1 by omega, List.replicate_succ, List.set_cons_zero, List.take_succ_eq_append_getElem (by omega), List.append_assoc]
 rfl
theorem cpy_set {a b : List Int} {i : Nat} (la : a.length = 32) (lb : b.length = 32) (hi : i < 32) : ((cpy a b i).set i a[i]).set (32 + i) b[i] = cpy a b (i + 1) := by
 have l1 : (a.take i ++ List.replicate (32 - i) 0).length = 32 := by simp [la]; omega
 have l2 : (a.take (i + 1) ++ List.replicate (32 - (i + 1)) 0).length = 32 := by simp [la]; omega
 unfold cpy
 rw [List.set_append_left _ _ (by rw [l1]; omega), half_set la hi, List.set_append_right _ _ (by rw [l2]; omega), l2, Nat.add_sub_cancel_left, half_set lb hi]
def fs7 (l : List Int) : List Int := [l.getD 0 0, l.getD 1 0, l.getD 2 0, l.getD 3 0, l.getD 4 0, l.getD 5 0, l.getD 6 0, bits .xor .u8 (l.getD 7 0) 1, l.getD 8 0, l.getD 9 0, l.getD 10 0, l.getD 11 0, l.getD 12 0, l.getD 13 0, l.getD 14 0, l.getD 15 0, l.getD 16 0, l.getD 17 0, l.getD 18 0, l.getD 19 0, l.getD 20 0, l.getD 21 0, l.getD 22 0, l.getD 23 0, l.getD 24 0, l.getD 25 0, l.getD 26 0, l.getD 27 0, l.getD 28 0, l.getD 29 0, l.getD 30 0, l.getD 31 0, l.getD 32 0, l.getD 33 0, l.getD 34 0, l.getD 35 0, l.getD 36 0, l.getD 37 0, l.getD 38 0, l.getD 39 0, l.getD 40 0, l.getD 41 0, l.getD 42 0, l.getD 43 0, l.getD 44 0, l.getD 45 0, l.getD 46 0, l.getD 47 0, l.getD 48 0, l.getD 49 0, l.getD 50 0, l.getD 51 0, l.getD 52 0, l.getD 53 0, l.getD 54 0, l.getD 55 0, l.getD 56 0, l.getD 57 0, l.getD 58 0, l.getD 59 0, l.getD 60 0, l.getD 61 0, l.getD 62 0, l.getD 63 0]
theorem xor1 : ∀ n : Nat, n < 256 → (0 ≤ bits .xor .u8 (n : Int) 1 ∧ bits .xor .u8 (n : Int) 1 < 256) ∧ bits .xor .u8 (n : Int) 1 ≠ n := by decide +kernel
theorem getD_byt' {l : List Int} (h : Byt l) (i : Nat) : 0 ≤ l.getD i 0 ∧ l.getD i 0 < 256 := by
 rw [List.getD_eq_getElem?_getD]
 cases hx : l[i]? with
 | none => simp
 | some x => exact h x (List.mem_of_getElem? hx)
theorem xor1b {x : Int} (h : 0 ≤ x ∧ x < 256) : (0 ≤ bits .xor .u8 x 1 ∧ bits .xor .u8 x 1 < 256) ∧ bits .xor .u8 x 1 ≠ x := by
 obtain ⟨n, rfl⟩ : ∃ n : Nat, x = n := ⟨x.toNat, by omega⟩
 exact xor1 n (by omega)
theorem fs7_ok {l : List Int} (h : Byt l) : Byt (fs7 l) ∧ (fs7 l).length = 64 := by
 refine ⟨fun x hx => ?_, rfl⟩
 unfold fs7 at hx
 simp only [List.mem_cons, List.not_mem_nil, or_false] at hx
 rcases hx with rfl | rfl | rfl | rfl | rfl | rfl | rfl | rfl | rfl | rfl | rfl | rfl | rfl | rfl | rfl | rfl | rfl | rfl | rfl | rfl | rfl | rfl | rfl | rfl | rfl | rfl | rfl | rfl | rfl | rfl | rfl | rfl | rfl | rfl | rfl | rfl | rfl | rfl | rfl | rfl | rfl | rfl | rfl | rfl | rfl | rfl | rfl | rfl | rfl | rfl | rfl | rfl | rfl | rfl | rfl | rfl | rfl | rfl | rfl | rfl | rfl | rfl | rfl | rfl
 ·exact getD_byt' h 0
 ·exact getD_byt' h 1
 ·exact getD_byt' h 2
 ·exact getD_byt' h 3
 ·exact getD_byt' h 4
 ·exact getD_byt' h 5
 ·exact getD_byt' h 6
 ·exact (xor1b (getD_byt' h 7)).1
 ·exact getD_byt' h 8
 ·exact getD_byt' h 9
 ·exact getD_byt' h 10
 ·exact getD_byt' h 11
 ·exact getD_byt' h 12
 ·exact getD_byt' h 13
 ·exact getD_byt' h 14
 ·exact getD_byt' h 15
 ·exact getD_byt' h 16
 ·exact getD_byt' h 17
 ·exact getD_byt' h 18
 ·exact getD_byt' h 19
 ·exact getD_byt' h 20
 ·exact getD_byt' h 21
 ·exact getD_byt' h 22
 ·exact getD_byt' h 23
 ·exact getD_byt' h 24
 ·exact getD_byt' h 25
 ·exact getD_byt' h 26
 ·exact getD_byt' h 27
 ·exact getD_byt' h 28
 ·exact getD_byt' h 29
 ·exact getD_byt' h 30
 ·exact getD_byt' h 31
 ·exact getD_byt' h 32
 ·exact getD_byt' h 33
 ·exact getD_byt' h 34
 ·exact getD_byt' h 35
 ·exact getD_byt' h 36
 ·exact getD_byt' h 37
 ·exact getD_byt' h 38
 ·exact getD_byt' h 39
 ·exact getD_byt' h 40
 ·exact getD_byt' h 41
 ·exact getD_byt' h 42
 ·exact getD_byt' h 43
 ·exact getD_byt' h 44
 ·exact getD_byt' h 45
 ·exact getD_byt' h 46
 ·exact getD_byt' h 47
 ·exact getD_byt' h 48
 ·exact getD_byt' h 49
 ·exact getD_byt' h 50
 ·exact getD_byt' h 51
 ·exact getD_byt' h 52
 ·exact getD_byt' h 53
 ·exact getD_byt' h 54
 ·exact getD_byt' h 55
 ·exact getD_byt' h 56
 ·exact getD_byt' h 57
 ·exact getD_byt' h 58
 ·exact getD_byt' h 59
 ·exact getD_byt' h 60
 ·exact getD_byt' h 61
 ·exact getD_byt' h 62
 ·exact getD_byt' h 63
theorem fs7_ne {l : List Int} (h : Byt l) : fs7 l ≠ l := fun k => by
 have : (fs7 l).getD 7 0 = l.getD 7 0 := congrArg (fun x => x.getD 7 0) k
 exact (xor1b (getD_byt' h 7)).2 this
theorem openL_byt (p t : List Int) : Byt (openL p t) := fun x hx => (List.mem_append.1 hx).elim (shaL_byt _ x) (shaL_byt _ x)
theorem setN_bys' {l : List Int} {i m : Nat} {x : Int} (h : i < l.length) (hm : m = i) : setN (bys l) m [AV.int .u8 x] = bys (l.set i x) := by subst hm; exact setN_bys _ _ _ h
theorem sha1_ok {k : Int} {y : List Int} (hk : 0 ≤ k ∧ k < 256) (hy : Byt y) (ly : y.length = 32) : ACall Try.prog 6 [.own (1 + 32) 1 (List.take (1 * 1) (List.drop 0 [AV.int .u8 k]) ++ cutB ((c32 y []).take (32 * 1)) none none 1)] (.agg (c32 (shaL (k :: y)) [])) [] := by
 have hs := sha_ok (k :: y) (one_byt8 hk hy) (by simp; omega)
 exact (ACall.arg1 hs (by simp; omega) (by rw [cut32 ly]; simp [bys])).ownArg
theorem sha2_ok {k : Int} {y t : List Int} (hk : 0 ≤ k ∧ k < 256) (hy : Byt y ∧ y.length = 32) (ht : Byt t ∧ t.length ≤ 200000) : ACall Try.prog 6 [.own (1 + 32 + t.length) 1 (List.take (1 * 1) (List.drop 0 [AV.int .u8 k]) ++ cutB ((c32 y []).take (32 * 1)) none none 1 ++ bys t)] (.agg (c32 (shaL (k :: (y ++ t))) [])) [] := by
 have hs := sha_ok (k :: (y ++ t)) (one_byt8 hk (fun x hx => (List.mem_append.1 hx).elim (hy.1 x) (ht.1 x))) (by simp; omega)
 exact (ACall.arg1 hs (by simp; omega) (by rw [cut32 hy.2]; simp [bys])).ownArg
set_option maxRecDepth 20000 in
set_option maxHeartbeats 4000000 in
theorem suiteOpens_ok (s q t : List Int) (os : Byt s ∧ s.length = 32) (oq : Byt q ∧ q.length = 32) (ot : Byt t ∧ t.length ≤ 9223372036854775807) : ACall Try.prog 3 [.agg (c32 s []), .agg (c32 q []), .ro t.length (bys t)] (.bool true) [] := by
 refine ACall.of_does TTok Try.func3 rfl Try.call3 rfl (wpc_sound (M := MLo) (PL := PLos) (CU := cutAt [100001, 100003, 100004, 100006, 100007, 100008, 100009, 100013, 100015, 100016, 100017, 100018]) TTok mixed _ _ _ ?_)
 conv => whnf
 repeat ((refine ⟨rfl, ?_⟩); conv => whnf)
 refine Does.freeze 0 rfl (Does.freeze 1 (zs := c32 q []) (by kernel_rfl) (Does.tidy [(2, .ro t.length (bys t)), (3, .rop (c32 s [])), (4, .rop (c32 q []))] [] 2 96 rfl rfl rfl (by kernel_rfl) (by kernel_rfl) ?_))
 refine wpc_sound (M := MLo) (PL := PLos) (CU := noCut) TTok mixed _ _ _ ?_
 by_cases h200 : 200 < t.length
 ·conv => whnf
  repeat ((first | (refine ifB_pos (decide_eq_true (by first | omega | rfl | (dsimp only; omega))) ?_) | refine ⟨rfl, ?_⟩); conv => whnf)
  rfl
 conv => whnf
 repeat ((refine ifB_neg (decide_eq_false (by first | omega | rfl | (dsimp only; omega))) ?_); conv => whnf)
 have h1 := spublic_ok s os.1 os.2
 have s1 := sha1_ok (k := 1) (by omega) os.1 os.2
 have lx : (shaL (1 :: s)).length = 32 := shaL_len _
 have hlS : (c32 s []).length = 32 := c32_len s []
 have hlQ : (c32 q []).length = 32 := c32_len q []
 have pS : pureL (cutB ((c32 s []).take (32 * 1)) none none 1) = true := by rw [cut32 os.2]; exact pureL_bys _
 have lt : t.length ≤ 200000 := by omega
 have hs := ssign_ok s t os.1 os.2 ot.1 lt
 have v3 := sverify_ok (shaL (1 :: s)) t (openL (shaL (1 :: s)) t) (shaL_byt _) lx ot.1 lt (openL_len _ _)
 rw [decide_eq_true rfl] at v3
 have lz : (openL (shaL (1 :: s)) t).length = 64 := openL_len _ _
 generalize openL (shaL (1 :: s)) t = z at hs v3 lz
 generalize shaL (1 :: s) = x at h1 s1 lx v3
 refine wpc_sound (M := MLo) (PL := PLos) (CU := noCut) TTok mixed _ _ _ ?_
 conv => whnf
 repeat ((first | refine ⟨rfl, ?_⟩ | refine ⟨_, rfl, ?_⟩); conv => whnf)
 refine ⟨_, _, h1, by first | rfl | simp [noRoIf, noRoL, noRoV, noRoL_bys], ?_⟩
 conv => whnf
 repeat ((first | refine ⟨(⟨by kernel_rfl, by kernel_rfl, Nat.le_of_ble_eq_true (by kernel_rfl)⟩ : AV.ones _ = true ∧ _ ∧ _), ?_⟩ | refine ⟨rfl, ?_⟩); conv => whnf)
 refine Does.freeze 2 (zs := c32 x []) (by kernel_rfl) (Does.tidy [(2, .ro t.length (bys t)), (3, .rop (c32 s [])), (4, .rop (c32 q [])), (7, .rop (c32 x [])), (8, .int .i64 0)] [] 3 96 rfl rfl rfl (by kernel_rfl) (by kernel_rfl) ?_)
 refine wpc_sound (M := MLo) (PL := PLos) (CU := noCut) TTok mixed _ _ _ ?_
 conv => whnf
 refine ⟨by kernel_rfl, ?_⟩
 conv => whnf
 repeat ((first | refine ifB_f ?_ | (refine ⟨⟨by first | (simp only [List.drop_zero, List.length_drop, hds_len]; omega) | exact Nat.le_of_ble_eq_true (by kernel_rfl), okB_none _⟩, ?_⟩) | refine ⟨rfl, ?_⟩ | refine ⟨_, rfl, ?_⟩ | (refine And.intro ?_ ?_; (focus (first | (simp [limB, lenB, offB]; done) | (simp [limB, lenB, offB]; omega))))); conv => whnf)
 refine ⟨⟨rfl, rfl, ap_len 1 os.2, ap_pure 1 os.2⟩, ?_⟩
 conv => whnf
 repeat ((refine ⟨rfl, ?_⟩); conv => whnf)
 refine ⟨_, _, s1, by first | rfl | simp [noRoIf, noRoL, noRoV, noRoL_bys], ?_⟩
 conv => whnf
 repeat ((refine ifB_f ?_); conv => whnf)
 refine ⟨x, x, ⟨rfl, c32_map lx, c32_map lx, lx, lx⟩, ?_⟩
 rw [decide_eq_true rfl]
 conv => whnf
 repeat ((refine ifB_f ?_); conv => whnf)
 have a1 := sha2_ok (k := 2) (by omega) oq ⟨ot.1, lt⟩
 have b1 := sha2_ok (k := 3) (by omega) oq ⟨ot.1, lt⟩
 have la : (shaL (2 :: (q ++ t))).length = 32 := shaL_len _
 have lb : (shaL (3 :: (q ++ t))).length = 32 := shaL_len _
 have ab : openL q t = shaL (2 :: (q ++ t)) ++ shaL (3 :: (q ++ t)) := rfl
 generalize shaL (2 :: (q ++ t)) = a at a1 la ab
 generalize shaL (3 :: (q ++ t)) = b at b1 lb ab
 refine Does.tidy [(2, .ro t.length (bys t)), (3, .rop (c32 s [])), (4, .rop (c32 q [])), (7, .rop (c32 x []))] [(3, [.int .u8 1])] 5 96 rfl rfl rfl (by kernel_rfl) (by kernel_rfl) ?_
 refine wpc_sound (M := MLo) (PL := PLos) (CU := noCut) TTok mixed _ _ _ ?_
 conv => whnf
 repeat ((first | refine ⟨ones_bys _, ?_⟩ | (refine ⟨⟨by first | (simp only [List.drop_zero, List.length_drop, hds_len]; omega) | exact Nat.le_of_ble_eq_true (by kernel_rfl), okB_none _⟩, ?_⟩) | refine ⟨rfl, ?_⟩ | (refine And.intro ?_ ?_; (focus (first | (simp [limB, lenB, offB]; done) | (simp [limB, lenB, offB]; omega))))); conv => whnf)
 refine ⟨⟨rfl, rfl, ap_len 2 oq.2, (show (1 + 32 + t.length) * 1 ≤ limB from by simp [limB]; omega)⟩, ?_⟩
 conv => whnf
 refine ⟨⟨rfl, rfl, ap2_len (t := t) 2 oq.2, ap2_pure (t := t) 2 oq.2⟩, ?_⟩
 conv => whnf
 repeat ((refine ⟨rfl, ?_⟩); conv => whnf)
 refine ⟨_, _, a1, by first | rfl | simp [noRoIf, noRoL, noRoV, noRoL_bys], ?_⟩
 conv => whnf
 repeat ((first | refine ⟨(⟨by kernel_rfl, by kernel_rfl, Nat.le_of_ble_eq_true (by kernel_rfl)⟩ : AV.ones _ = true ∧ _ ∧ _), ?_⟩ | refine ⟨rfl, ?_⟩); conv => whnf)
 refine Does.freeze 8 (zs := c32 a []) (by kernel_rfl) (Does.tidy [(2, .ro t.length (bys t)), (3, .rop (c32 s [])), (4, .rop (c32 q [])), (7, .rop (c32 x [])), (9, .rop (c32 a []))] [(3, [.int .u8 1]), (5, [.int .u8 2])] 9 96 rfl rfl rfl (by kernel_rfl) (by kernel_rfl) ?_)
 refine wpc_sound (M := MLo) (PL := PLos) (CU := noCut) TTok mixed _ _ _ ?_
 conv => whnf
 repeat ((first | refine ⟨ones_bys _, ?_⟩ | (refine ⟨⟨by first | (simp only [List.drop_zero, List.length_drop, hds_len]; omega) | exact Nat.le_of_ble_eq_true (by kernel_rfl), okB_none _⟩, ?_⟩) | refine ⟨rfl, ?_⟩ | (refine And.intro ?_ ?_; (focus (first | (simp [limB, lenB, offB]; done) | (simp [limB, lenB, offB]; omega))))); conv => whnf)
 refine ⟨⟨rfl, rfl, ap_len 3 oq.2, (show (1 + 32 + t.length) * 1 ≤ limB from by simp [limB]; omega)⟩, ?_⟩
 conv => whnf
 refine ⟨⟨rfl, rfl, ap2_len (t := t) 3 oq.2, ap2_pure (t := t) 3 oq.2⟩, ?_⟩
 conv => whnf
 repeat ((refine ⟨rfl, ?_⟩); conv => whnf)
 refine ⟨_, _, b1, by first | rfl | simp [noRoIf, noRoL, noRoV, noRoL_bys], ?_⟩
 conv => whnf
 repeat ((first | refine ⟨(⟨by kernel_rfl, by kernel_rfl, Nat.le_of_ble_eq_true (by kernel_rfl)⟩ : AV.ones _ = true ∧ _ ∧ _), ?_⟩ | refine ⟨rfl, ?_⟩); conv => whnf)
 refine Does.freeze 12 (zs := c32 b []) (by kernel_rfl) (Does.tidy [(2, .ro t.length (bys t)), (3, .rop (c32 s [])), (4, .rop (c32 q [])), (7, .rop (c32 x [])), (9, .rop (c32 a [])), (10, .rop (c32 b []))] [(3, [.int .u8 1]), (5, [.int .u8 2]), (9, [.int .u8 3])] 13 96 rfl rfl rfl (by kernel_rfl) (by kernel_rfl) ?_)
 rw [show c32 a [] = bys a from (c32_eq la []).trans (List.append_nil _), show c32 b [] = bys b from (c32_eq lb []).trans (List.append_nil _)]
 refine wpc_sound (M := MLo) (PL := PLos) (CU := noCut) TTok mixed _ _ _ ?_
 conv => whnf
 repeat ((refine ⟨rfl, ?_⟩); conv => whnf)
 refine wpc_sound (M := MLo) (PL := PLos) (CU := noCut) TTok mixed _ _ _ ?_
 conv => whnf
 refine Does.loop (fun i : Nat => mkSt [(2, .ro t.length (bys t)), (3, .rop (c32 s [])), (4, .rop (c32 q [])), (7, .rop (c32 x [])), (9, .rop (bys a)), (10, .rop (bys b)), (11, .ptr 0 0), (12, .int .i64 i)] [(0, bys (cpy a b i))] 1 96) (fun i => i ≤ 32) (fun i => 32 - i) ?_ 0 (Nat.zero_le _) ?_
 ·intro i hi
  have hcl := cpy_len a b (i := i) la lb hi
  rcases Nat.lt_or_ge i 32 with i1 | i1
  ·refine wpc_sound (M := MLo) (PL := PLos) (CU := noCut) TTok mixed _ _ _ ?_
   conv => whnf
   repeat ((refine ifB_pos (decide_eq_true (by first | omega | rfl | (dsimp only; omega))) ?_); conv => whnf)
   refine ⟨by kernel_rfl, ?_⟩
   conv => whnf
   repeat ((first | (refine fit_i64 ⟨by first | omega | rfl | (dsimp only; omega), by first | omega | rfl | (dsimp only; omega)⟩ ?_) | (refine And.intro (by first | omega | rfl | (dsimp only; omega)) ?_) | (refine ⟨roLoad_ok rfl ?_, ?_⟩; (focus (simp [toksC_length]; omega)))); conv => whnf)
   refine ⟨_, get_bys2 (l := a) (c := i) (by omega) (by simp), ?_⟩
   conv => whnf
   repeat ((first | (refine And.intro (by first | omega | rfl | (dsimp only; omega)) ?_) | (refine ⟨roLoad_ok rfl ?_, ?_⟩; (focus (simp [toksC_length]; omega)))); conv => whnf)
   refine ⟨_, get_bys2 (l := b) (c := i) (by omega) (by simp), ?_⟩
   conv => whnf
   repeat ((refine And.intro (by first | omega | rfl | (dsimp only; omega)) ?_); conv => whnf)
   refine ⟨⟨rfl, rfl, by simp [hcl]; omega⟩, ?_⟩
   conv => whnf
   repeat ((refine And.intro (by first | omega | rfl | (dsimp only; omega)) ?_); conv => whnf)
   refine ⟨⟨rfl, rfl, (by rw [setN_length]; simp [hcl]; omega)⟩, ?_⟩
   conv => whnf
   repeat ((refine fit_i64 ⟨by first | omega | rfl | (dsimp only; omega), by first | omega | rfl | (dsimp only; omega)⟩ ?_); conv => whnf)
   refine ⟨i + 1, by omega, by omega, weaker_of [(0, 0)] rfl rfl ⟨⟨rfl, rfl, pureL_bys _⟩, ⟨rfl, by simp [c32_pure, pureL]⟩, ⟨rfl, by simp [c32_pure, pureL]⟩, ⟨rfl, by simp [c32_pure, pureL]⟩, ⟨rfl, pureL_bys _⟩, ⟨rfl, pureL_bys _⟩, ⟨rfl, rfl⟩, ⟨rfl, rfl⟩, trivial⟩ ⟨?_, trivial⟩⟩
   refine lesP_bys ?_
   rw [← cpy_set la lb i1]
   show setN (setN (bys (cpy a b i)) _ [AV.int .u8 a[i]]) _ [AV.int .u8 b[i]] = _
   rw [setN_bys' (l := cpy a b i) (i := i) (by omega) (by simp)]
   exact setN_bys' (by simp [hcl]; omega) (by simp; omega)
  ·obtain rfl : i = 32 := by omega
   rw [cpy_all la lb, ← ab]
   have lo : (openL q t).length = 64 := openL_len _ _
   rw [show bys (openL q t) = c64 (openL q t) [] from ((c64_eq lo []).trans (List.append_nil _)).symm]
   have v1 := sverify_ok q t (openL q t) oq.1 oq.2 ot.1 lt lo
   rw [decide_eq_true rfl] at v1
   have fo := fs7_ok (openL_byt q t)
   have v2 := sverify_ok q t (fs7 (openL q t)) oq.1 oq.2 ot.1 lt fo.2
   rw [decide_eq_false (fs7_ne (openL_byt q t))] at v2
   have tw := (twin_ok t (by omega)).roRes
   have wk := wakes08_ok
   generalize openL q t = g at *
   refine wpc_sound (M := MLo) (PL := PLos) (CU := noCut) TTok mixed _ _ _ ?_
   conv => whnf
   repeat ((refine ifB_f ?_); conv => whnf)
   refine Does.tidy [(2, .ro t.length (bys t)), (3, .rop (c32 s [])), (4, .rop (c32 q [])), (7, .rop (c32 x [])), (11, .ptr 0 0)] [(0, c64 g [])] 1 96 rfl rfl rfl (by kernel_rfl) (by kernel_rfl) ?_
   refine wpc_sound (M := MLo) (PL := PLos) (CU := noCut) TTok mixed _ _ _ ?_
   conv => whnf
   refine ⟨c32 q [], by kernel_rfl, ?_⟩
   conv => whnf
   refine ⟨c64 g [], by kernel_rfl, ?_⟩
   conv => whnf
   repeat ((first | refine ⟨pureL_bys _, ?_⟩ | refine ⟨rfl, ?_⟩); conv => whnf)
   refine ⟨_, _, v1, by first | rfl | simp [noRoIf, noRoL, noRoV, noRoL_bys], ?_⟩
   conv => whnf
   repeat ((refine ifB_f ?_); conv => whnf)
   refine wpc_sound (M := MLo) (PL := PLos) (CU := noCut) TTok mixed _ _ _ ?_
   conv => whnf
   repeat ((first | refine ⟨(⟨by kernel_rfl, by kernel_rfl, Nat.le_of_ble_eq_true (by kernel_rfl)⟩ : AV.ones _ = true ∧ _ ∧ _), ?_⟩ | refine ⟨_, rfl, ?_⟩ | (refine And.intro (by first | omega | rfl | (dsimp only; omega)) ?_)); conv => whnf)
   refine Does.tidy [(2, .ro t.length (bys t)), (3, .rop (c32 s [])), (4, .rop (c32 q [])), (7, .rop (c32 x [])), (11, .ptr 0 0)] [(0, c64 (fs7 g) [])] 1 96 rfl rfl rfl (by kernel_rfl) (by kernel_rfl) ?_
   generalize fs7 g = g' at fo v2 ⊢
   refine wpc_sound (M := MLo) (PL := PLos) (CU := noCut) TTok mixed _ _ _ ?_
   conv => whnf
   repeat ((first | refine ⟨pureL_bys _, ?_⟩ | refine ⟨rfl, ?_⟩ | refine ⟨_, rfl, ?_⟩); conv => whnf)
   refine ⟨_, _, hs, by first | rfl | simp [noRoIf, noRoL, noRoV, noRoL_bys], ?_⟩
   conv => whnf
   repeat ((first | refine ⟨(⟨by kernel_rfl, by kernel_rfl, Nat.le_of_ble_eq_true (by kernel_rfl)⟩ : AV.ones _ = true ∧ _ ∧ _), ?_⟩ | refine ⟨rfl, ?_⟩); conv => whnf)
   refine Does.freeze 1 (zs := c64 z []) (by kernel_rfl) (Does.tidy [(2, .ro t.length (bys t)), (3, .rop (c32 s [])), (4, .rop (c32 q [])), (7, .rop (c32 x [])), (11, .ptr 0 0), (13, .rop (c64 z [])), (14, .int .i64 0)] [(0, c64 g' [])] 2 96 rfl rfl rfl (by kernel_rfl) (by kernel_rfl) ?_)
   refine wpc_sound (M := MLo) (PL := PLos) (CU := noCut) TTok mixed _ _ _ ?_
   conv => whnf
   repeat ((first | refine ⟨pureL_bys _, ?_⟩ | refine ⟨rfl, ?_⟩); conv => whnf)
   refine ⟨_, _, tw, by first | rfl | simp [noRoIf, noRoL, noRoV, noRoL_bys], ?_⟩
   conv => whnf
   refine wpc_sound (M := MLo) (PL := PLos) (CU := noCut) TTok mixed _ _ _ ?_
   conv => whnf
   refine ⟨c32 q [], by kernel_rfl, ?_⟩
   conv => whnf
   refine ⟨c64 g' [], by kernel_rfl, ?_⟩
   conv => whnf
   repeat ((first | refine ⟨pureL_bys _, ?_⟩ | refine ⟨rfl, ?_⟩); conv => whnf)
   refine ⟨_, _, v2, by first | rfl | simp [noRoIf, noRoL, noRoV, noRoL_bys], ?_⟩
   conv => whnf
   repeat ((first | refine ifB_t ?_ | refine ⟨pureL_bys _, ?_⟩ | refine ⟨rfl, ?_⟩ | refine ⟨_, rfl, ?_⟩); conv => whnf)
   refine ⟨_, _, v3, by first | rfl | simp [noRoIf, noRoL, noRoV, noRoL_bys], ?_⟩
   conv => whnf
   repeat ((first | refine ifB_t ?_ | refine ⟨rfl, ?_⟩); conv => whnf)
   refine ⟨_, _, wk, by first | rfl | simp [noRoIf, noRoL, noRoV, noRoL_bys], ?_⟩
   conv => whnf
   repeat ((first | refine ifB_t ?_ | refine ⟨rfl, ?_⟩); conv => whnf)
   rfl
 ·exact weaker_of [(0, 13)] rfl rfl ⟨⟨rfl, rfl, pureL_bys _⟩, ⟨rfl, by simp [c32_pure, pureL]⟩, ⟨rfl, by simp [c32_pure, pureL]⟩, ⟨rfl, by simp [c32_pure, pureL]⟩, ⟨rfl, pureL_bys _⟩, ⟨rfl, pureL_bys _⟩, ⟨rfl, rfl⟩, ⟨rfl, rfl⟩, trivial⟩ ⟨lesP_bys (by rw [cpy_zero]; rfl), trivial⟩
end Go.Proofs.Ytbkclacjamlebaa.Abs
end
section
namespace Go.Proofs.Ytbkclacjamlebaa.suiteOpens
open Go Go.ChangeShapes Go.WideShapes Go.ChangeAt Go.RowKit Go.Proofs.Ytbkclacjamlebaa.Abs
theorem own : ownKnob Try.prog.godebug = none := by kernel_rfl
theorem laidOut : laidOutB Try.prog = true := by kernel_rfl
theorem okWide_array {P : Program} {w : World} {r : Reach} {base : Nat} {t : TypeId} {v : Value} {n : Nat} {e : TypeId} (ht : P.underlying t = some (.array n e)) (h : Value.okWide P w r base t v) : ∃ cs, v = .agg cs ∧ cs.size = P.cellsOf t := by
 simp only [Value.okWide, ht] at h
 obtain ⟨cs, h1, h2, _⟩ := h
 exact ⟨cs, h1, h2⟩
set_option maxRecDepth 100000 in
theorem lifted (os : Os) (started : os.Started) (H : Type) (enc : TypeId × Value → H) :
  ReturnsInHanded {} Try.checked os 3 .any (Rows.suiteOpensSpec.pre6 enc Try.prog Try.f3 Rows.suiteOpensRow.domain false) (Rows.suiteOpensSpec.post enc Try.prog Try.f3 false true false false) := by
 refine returnsInHanded_of_change_sized (C := Try.checked) own started (by kernel_rfl) Try.func3
  (ChangeSpec.witness6 (enc := enc) (C := Try.checked) false ⟨#[], #[.agg (Array.replicate 32 (.int .u8 0)), .agg (Array.replicate 32 (.int .u8 0)), .slice none 0 0], []⟩ 8 (by kernel_rfl) (by kernel_rfl) (by kernel_rfl) (by kernel_rfl)) ?_
 intro W base args ds gs before hval0 hW hcnd hsz0 _
 have hval : ∀ (j : Nat) t v, Try.f3.params[j]? = some t → args[j]? = some v → Value.okWide Try.prog W .any base t v := hval0
 have hW' := hW
 obtain ⟨p, q, hA0, hV, rfl, hfz, hnd⟩ := hW
 have hA : DataW.TrodAll enc Try.prog W 0 (fun _ => true) true Try.f3.params.toList args.toList ds p := hA0
 rw [Try.params3] at hA hval
 obtain ⟨v0, vs0, d0, ds0, p0, q0, hargs, rfl, rfl, h0, r0⟩ := trodAll_cons hA
 obtain ⟨v1, vs1, d1, ds1, p1, q1, rfl, rfl, rfl, h1, r1⟩ := trodAll_cons r0
 obtain ⟨v2, vs2, d2, ds2, p2, q2, rfl, rfl, rfl, h2, r2⟩ := trodAll_cons r1
 obtain ⟨rfl, rfl, rfl⟩ := trodAll_nil r2
 obtain rfl : args = #[v0, v1, v2] := by cases args; simp_all
 obtain ⟨rfl, rfl⟩ := trodVars_none hV
 obtain ⟨a0, rfl, _⟩ := okWide_array Try.underlying22 (hval 0 22 v0 rfl rfl)
 have k0 := h0
 have lt0 : ∀ x ∈ p0, x.block < W.heap.size := by obtain ⟨m, hm⟩ := k0; exact DataW.trod_lt m _ _ _ hm
 obtain ⟨x0, w0, t0⟩ := (by obtain ⟨fuel, hf⟩ := h0; exact open_any TTok 6 fuel 22 _ _ (by kernel_rfl) hf : ∃ xs, RepL (env0 W) xs (Value.cells _).toList ∧ TyL TT 6 22 xs)
 obtain ⟨l0, rfl, b0⟩ := a32_of_ty t0
 have w0 := rep_agg w0
 obtain ⟨a1, rfl, _⟩ := okWide_array Try.underlying22 (hval 1 22 v1 rfl rfl)
 have k1 := h1
 have lt1 : ∀ x ∈ p1, x.block < W.heap.size := by obtain ⟨m, hm⟩ := k1; exact DataW.trod_lt m _ _ _ hm
 obtain ⟨x1, w1, t1⟩ := (by obtain ⟨fuel, hf⟩ := h1; exact open_any TTok 6 fuel 22 _ _ (by kernel_rfl) hf : ∃ xs, RepL (env0 W) xs (Value.cells _).toList ∧ TyL TT 6 22 xs)
 obtain ⟨l1, rfl, b1⟩ := a32_of_ty t1
 have w1 := rep_agg w1
 obtain ⟨a2, len2, cap2, rfl⟩ := okWide_slice Try.underlying23 (hval 2 23 v2 rfl rfl)
 have k2 := h2
 have lt2 : ∀ x ∈ p2, x.block < W.heap.size := by obtain ⟨m, hm⟩ := k2; exact DataW.trod_lt m _ _ _ hm
 obtain ⟨x2, w2, t2⟩ := (by obtain ⟨fuel, hf⟩ := h2; exact open_any TTok 4 fuel 23 _ _ (by kernel_rfl) hf : ∃ xs, RepL (env0 W) xs (Value.cells _).toList ∧ TyL TT 4 23 xs)
 obtain ⟨l2, rfl, b2⟩ := bytes_of_slice t2
 have w2 := rep_one w2 rfl
 clear hA0 hval0 hsz0
 refine (ACall.row (suiteOpens_ok l0 l1 l2 b0 b1 b2) (by simp [pureL, pureV, pureL_bys, pureL_ints, pureL_toks, c32_pure, c64_pure]) (W := W) (vals := [.agg a0, .agg a1, .slice a2 len2 cap2]) (by simp only [RepL]; exact ⟨_, _, rfl, w0, ⟨_, _, rfl, w1, ⟨_, _, rfl, w2, rfl⟩⟩⟩) (fun g k l h => absurd h (noTabs g k l))).mono fun e W' ⟨he, bel⟩ => ?_
 subst he
 exact ⟨_, rfl, _, _, _, [], _, [], hW', trodAll_mk1 (shut_bool Try.underlying4 _), (trodAll_cons_mk (Below.trod laidOut (by kernel_rfl) (of_decide_eq_true (by kernel_rfl)) k0 bel lt0) (trodAll_cons_mk (Below.trod laidOut (by kernel_rfl) (of_decide_eq_true (by kernel_rfl)) k1 bel lt1) (trodAll_cons_mk (Below.trod laidOut (by kernel_rfl) (of_decide_eq_true (by kernel_rfl)) k2 bel lt2) trodAll_mk0))), rfl, bel.frame _, fun h => by cases h⟩
theorem over : Rows.suiteOpensRow.holds Try.pinned (OpenSpec.ofChange Rows.suiteOpensSpec) :=
 OpenClaim.holds_of_wide 3 Try.f3 rfl rfl rfl rfl rfl rfl rfl ⟨rfl, rfl, rfl, rfl, rfl⟩ rfl rfl rfl rfl rfl (by kernel_rfl) Try.func3 (by kernel_rfl)
  (of_decide_eq_true (by kernel_rfl)) (by unfold Func.isWrapper; first | (rw [if_pos (by decide +kernel)]; kernel_rfl) | (rw [if_neg (by decide +kernel)]; exact ⟨rfl, rfl⟩))
  (fun os started H enc _ => lifted os started H enc)
end Go.Proofs.Ytbkclacjamlebaa.suiteOpens
namespace Go.Proofs.Ytbkclacjamlebaa
theorem suiteOpens_holds : Rows.SuiteOpensSaid := suiteOpens.over
end Go.Proofs.Ytbkclacjamlebaa
end
