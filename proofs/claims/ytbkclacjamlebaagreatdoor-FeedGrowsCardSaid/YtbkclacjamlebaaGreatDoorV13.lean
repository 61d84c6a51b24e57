/- Texts SG to SK, merged. -/
import Derived.Test.YtbkclacjamlebaaGreatDoorV12
set_option linter.unusedVariables false
set_option linter.unusedSimpArgs false
namespace Go.Proofs.YtbkclacjamlebaaGreatDoor.Abs
open Go
section
--KR
attribute [local irreducible] ifB fitP Does Weaker
theorem ssum1_ok (k : Int) (x : List Int) (hk : 0 ≤ k ∧ k < 256) (hx : Byt x) (h0 : 0 < x.length) (lx : x.length ≤ 300000) : ACall Tryz.prog 102 [.int .u8 k, .ro 1 [.ro x.length (bys x)]] (.agg (c32 (shaL (k :: x)) [])) [] :=
 ssumG_ok k 1 _ x (by simp [pureL, pureV, pureL_bys]) (bconcat1_ok x (by omega)) hk hx h0 lx
theorem ssum2_ok (k : Int) (p t : List Int) (hk : 0 ≤ k ∧ k < 256) (hp : Byt p) (ht : Byt t) (h0 : 0 < p.length) (lx : (p ++ t).length ≤ 300000) : ACall Tryz.prog 102 [.int .u8 k, .ro 2 (cat2 p t)] (.agg (c32 (shaL (k :: (p ++ t))) [])) [] :=
 ssumG_ok k 2 _ (p ++ t) (cat2_pure p t) (bconcat_ok p t (by simp at lx; omega) (by simp at lx; omega)) hk (fun x hx => by
  rcases List.mem_append.1 hx with h | h
  ·exact hp x h
  ·exact ht x h) (by simp; omega) lx
def openL (p t : List Int) : List Int := shaL (2 :: (p ++ t)) ++ shaL (3 :: (p ++ t))
theorem c64_two {x y : List Int} (hx : x.length = 32) (hy : y.length = 32) : c32 x (c32 y []) = c64 (x ++ y) [] := by
 rw [c64_eq (by simp [hx, hy]), c32_eq hx, c32_eq hy, ← bys_append, List.append_assoc]
theorem c64_dems1 {H : Heap} {x : List Int} {zs : List AV} {K : List Nat → Prop} (hz : zs = c64 x []) (h : K []) : demsP H [.agg (c64 x [])] [.agg zs] K := by
 subst hz
 simp only [demsP, demP]
 refine c64_dems ?_
 simpa only [demsP, and_self, true_and, List.nil_append] using h
theorem open_leaf {st : St} {i j : Nat} {x y : List Int} (hn : st.n = 20) (h4 : st.env 4 = .ptr 1 0) (h5 : st.env 5 = .ptr i 0) (h6 : st.env 6 = .ptr j 0) (hi : 2 ≤ i ∧ i < 6) (hj : 2 ≤ j ∧ j < 6) (ne : i ≠ j)
  (b1 : st.heap 1 = some (bys z64)) (bi : st.heap i = some (c32 x [])) (bj : st.heap j = some (c32 y [])) : ∃ g : Unit, True ∧ Weaker 0 st (mkSt [(4, .ptr 0 0), (5, .ptr 1 0), (6, .ptr 2 0)] [(0, bys z64), (1, c32 x []), (2, c32 y [])] 3 20) := by
 have e : renOk 0 [(0, 1), (1, i), (2, j)] [(0, bys z64), (1, c32 x []), (2, c32 y [])] 3 = true := by
  have h1 : i = 2 ∨ i = 3 ∨ i = 4 ∨ i = 5 := by omega
  have h2 : j = 2 ∨ j = 3 ∨ j = 4 ∨ j = 5 := by omega
  rcases h1 with rfl | rfl | rfl | rfl <;> rcases h2 with rfl | rfl | rfl | rfl <;> first | rfl | exact absurd rfl ne
 refine ⟨(), trivial, weaker_of [(0, 1), (1, i), (2, j)] hn e ⟨?_, ?_, ?_, trivial⟩ ⟨?_, ?_, ?_, trivial⟩⟩
 ·rw [h4]; exact ⟨rfl, rfl⟩
 ·rw [h5]; exact ⟨rfl, rfl⟩
 ·rw [h6]; exact ⟨rfl, rfl⟩
 ·show (match st.heap 1 with
   | some xs => lesP _ (bys z64) xs
   | none => False)
  rw [b1]; exact lesP_bys rfl
 ·show (match st.heap i with
   | some xs => lesP _ (c32 x []) xs
   | none => False)
  rw [bi]; exact c32_les trivial
 ·show (match st.heap j with
   | some xs => lesP _ (c32 y []) xs
   | none => False)
  rw [bj]; exact c32_les trivial
def PLopen : Nat → Bool × Plan := plans [(1, (false, (takesTo [0, 1, 4, 5] (.all [(2, (.all [(3, (.all [(6, (.all [(7, (.all [(8, (.all [(9, (.all [(10, (.all [(11, .done)]))]))])), (9, (.all [(8, (.all [(10, (.all [(11, .done)]))]))]))])), (8, (.all [(7, (.all [(9, (.all [(10, (.all [(11, .done)]))]))])), (9, (.all [(7, (.all [(10, (.all [(11, .done)]))]))]))])), (9, (.all [(7, (.all [(8, (.all [(10, (.all [(11, .done)]))]))])), (8, (.all [(7, (.all [(10, (.all [(11, .done)]))]))]))]))])), (8, (.all [(6, (.all [(7, (.all [(9, (.all [(10, (.all [(11, .done)]))]))])), (9, (.all [(7, (.all [(10, (.all [(11, .done)]))]))]))])), (9, (.all [(6, (.all [(7, (.all [(10, (.all [(11, .done)]))]))]))]))])), (9, (.all [(6, (.all [(7, (.all [(8, (.all [(10, (.all [(11, .done)]))]))])), (8, (.all [(7, (.all [(10, (.all [(11, .done)]))]))]))])), (8, (.all [(6, (.all [(7, (.all [(10, (.all [(11, .done)]))]))]))]))]))])), (6, (.all [(3, (.all [(7, (.all [(8, (.all [(9, (.all [(10, (.all [(11, .done)]))]))])), (9, (.all [(8, (.all [(10, (.all [(11, .done)]))]))]))])), (8, (.all [(7, (.all [(9, (.all [(10, (.all [(11, .done)]))]))])), (9, (.all [(7, (.all [(10, (.all [(11, .done)]))]))]))])), (9, (.all [(7, (.all [(8, (.all [(10, (.all [(11, .done)]))]))])), (8, (.all [(7, (.all [(10, (.all [(11, .done)]))]))]))]))])), (8, (.all [(3, (.all [(7, (.all [(9, (.all [(10, (.all [(11, .done)]))]))])), (9, (.all [(7, (.all [(10, (.all [(11, .done)]))]))]))])), (9, (.all [(3, (.all [(7, (.all [(10, (.all [(11, .done)]))]))]))]))])), (9, (.all [(3, (.all [(7, (.all [(8, (.all [(10, (.all [(11, .done)]))]))])), (8, (.all [(7, (.all [(10, (.all [(11, .done)]))]))]))])), (8, (.all [(3, (.all [(7, (.all [(10, (.all [(11, .done)]))]))]))]))]))])), (8, (.all [(3, (.all [(6, (.all [(7, (.all [(9, (.all [(10, (.all [(11, .done)]))]))])), (9, (.all [(7, (.all [(10, (.all [(11, .done)]))]))]))])), (9, (.all [(6, (.all [(7, (.all [(10, (.all [(11, .done)]))]))]))]))])), (6, (.all [(3, (.all [(7, (.all [(9, (.all [(10, (.all [(11, .done)]))]))])), (9, (.all [(7, (.all [(10, (.all [(11, .done)]))]))]))])), (9, (.all [(3, (.all [(7, (.all [(10, (.all [(11, .done)]))]))]))]))])), (9, (.all [(3, (.all [(6, (.all [(7, (.all [(10, (.all [(11, .done)]))]))]))])), (6, (.all [(3, (.all [(7, (.all [(10, (.all [(11, .done)]))]))]))]))]))])), (9, (.all [(3, (.all [(6, (.all [(7, (.all [(8, (.all [(10, (.all [(11, .done)]))]))])), (8, (.all [(7, (.all [(10, (.all [(11, .done)]))]))]))])), (8, (.all [(6, (.all [(7, (.all [(10, (.all [(11, .done)]))]))]))]))])), (6, (.all [(3, (.all [(7, (.all [(8, (.all [(10, (.all [(11, .done)]))]))])), (8, (.all [(7, (.all [(10, (.all [(11, .done)]))]))]))])), (8, (.all [(3, (.all [(7, (.all [(10, (.all [(11, .done)]))]))]))]))])), (8, (.all [(3, (.all [(6, (.all [(7, (.all [(10, (.all [(11, .done)]))]))]))])), (6, (.all [(3, (.all [(7, (.all [(10, (.all [(11, .done)]))]))]))]))]))]))])), (6, (.all [(2, (.all [(3, (.all [(7, (.all [(8, (.all [(9, (.all [(10, (.all [(11, .done)]))]))])), (9, (.all [(8, (.all [(10, (.all [(11, .done)]))]))]))])), (8, (.all [(7, (.all [(9, (.all [(10, (.all [(11, .done)]))]))])), (9, (.all [(7, (.all [(10, (.all [(11, .done)]))]))]))])), (9, (.all [(7, (.all [(8, (.all [(10, (.all [(11, .done)]))]))])), (8, (.all [(7, (.all [(10, (.all [(11, .done)]))]))]))]))])), (8, (.all [(3, (.all [(7, (.all [(9, (.all [(10, (.all [(11, .done)]))]))])), (9, (.all [(7, (.all [(10, (.all [(11, .done)]))]))]))])), (9, (.all [(3, (.all [(7, (.all [(10, (.all [(11, .done)]))]))]))]))])), (9, (.all [(3, (.all [(7, (.all [(8, (.all [(10, (.all [(11, .done)]))]))])), (8, (.all [(7, (.all [(10, (.all [(11, .done)]))]))]))])), (8, (.all [(3, (.all [(7, (.all [(10, (.all [(11, .done)]))]))]))]))]))])), (8, (.all [(2, (.all [(3, (.all [(7, (.all [(9, (.all [(10, (.all [(11, .done)]))]))])), (9, (.all [(7, (.all [(10, (.all [(11, .done)]))]))]))])), (9, (.all [(3, (.all [(7, (.all [(10, (.all [(11, .done)]))]))]))]))])), (9, (.all [(2, (.all [(3, (.all [(7, (.all [(10, (.all [(11, .done)]))]))]))]))]))])), (9, (.all [(2, (.all [(3, (.all [(7, (.all [(8, (.all [(10, (.all [(11, .done)]))]))])), (8, (.all [(7, (.all [(10, (.all [(11, .done)]))]))]))])), (8, (.all [(3, (.all [(7, (.all [(10, (.all [(11, .done)]))]))]))]))])), (8, (.all [(2, (.all [(3, (.all [(7, (.all [(10, (.all [(11, .done)]))]))]))]))]))]))])), (8, (.all [(2, (.all [(3, (.all [(6, (.all [(7, (.all [(9, (.all [(10, (.all [(11, .done)]))]))])), (9, (.all [(7, (.all [(10, (.all [(11, .done)]))]))]))])), (9, (.all [(6, (.all [(7, (.all [(10, (.all [(11, .done)]))]))]))]))])), (6, (.all [(3, (.all [(7, (.all [(9, (.all [(10, (.all [(11, .done)]))]))])), (9, (.all [(7, (.all [(10, (.all [(11, .done)]))]))]))])), (9, (.all [(3, (.all [(7, (.all [(10, (.all [(11, .done)]))]))]))]))])), (9, (.all [(3, (.all [(6, (.all [(7, (.all [(10, (.all [(11, .done)]))]))]))])), (6, (.all [(3, (.all [(7, (.all [(10, (.all [(11, .done)]))]))]))]))]))])), (6, (.all [(2, (.all [(3, (.all [(7, (.all [(9, (.all [(10, (.all [(11, .done)]))]))])), (9, (.all [(7, (.all [(10, (.all [(11, .done)]))]))]))])), (9, (.all [(3, (.all [(7, (.all [(10, (.all [(11, .done)]))]))]))]))])), (9, (.all [(2, (.all [(3, (.all [(7, (.all [(10, (.all [(11, .done)]))]))]))]))]))])), (9, (.all [(2, (.all [(3, (.all [(6, (.all [(7, (.all [(10, (.all [(11, .done)]))]))]))])), (6, (.all [(3, (.all [(7, (.all [(10, (.all [(11, .done)]))]))]))]))])), (6, (.all [(2, (.all [(3, (.all [(7, (.all [(10, (.all [(11, .done)]))]))]))]))]))]))])), (9, (.all [(2, (.all [(3, (.all [(6, (.all [(7, (.all [(8, (.all [(10, (.all [(11, .done)]))]))])), (8, (.all [(7, (.all [(10, (.all [(11, .done)]))]))]))])), (8, (.all [(6, (.all [(7, (.all [(10, (.all [(11, .done)]))]))]))]))])), (6, (.all [(3, (.all [(7, (.all [(8, (.all [(10, (.all [(11, .done)]))]))])), (8, (.all [(7, (.all [(10, (.all [(11, .done)]))]))]))])), (8, (.all [(3, (.all [(7, (.all [(10, (.all [(11, .done)]))]))]))]))])), (8, (.all [(3, (.all [(6, (.all [(7, (.all [(10, (.all [(11, .done)]))]))]))])), (6, (.all [(3, (.all [(7, (.all [(10, (.all [(11, .done)]))]))]))]))]))])), (6, (.all [(2, (.all [(3, (.all [(7, (.all [(8, (.all [(10, (.all [(11, .done)]))]))])), (8, (.all [(7, (.all [(10, (.all [(11, .done)]))]))]))])), (8, (.all [(3, (.all [(7, (.all [(10, (.all [(11, .done)]))]))]))]))])), (8, (.all [(2, (.all [(3, (.all [(7, (.all [(10, (.all [(11, .done)]))]))]))]))]))])), (8, (.all [(2, (.all [(3, (.all [(6, (.all [(7, (.all [(10, (.all [(11, .done)]))]))]))])), (6, (.all [(3, (.all [(7, (.all [(10, (.all [(11, .done)]))]))]))]))])), (6, (.all [(2, (.all [(3, (.all [(7, (.all [(10, (.all [(11, .done)]))]))]))]))]))]))]))])))), (2, (false, (takesTo [0, 1] (.all [(2, (.all [(3, (.all [(4, (.all [(5, .done)]))]))]))]))))]
section
attribute [local irreducible] demsP
set_option maxRecDepth 20000 in
set_option maxHeartbeats 40000000 in
theorem sopen_ok (p t : List Int) (hp : Byt p) (lp : p.length = 32) (ht : Byt t) (lt : t.length ≤ 200000) : ACall Tryz.prog 104 [.agg (c32 p []), .ro t.length (bys t)] (.agg (c64 (openL p t) [])) [] := by
 have h1 := ssum2_ok 2 p t (by omega) hp ht (by omega) (by simp; omega)
 have h2 := ssum2_ok 3 p t (by omega) hp ht (by omega) (by simp; omega)
 unfold openL
 have l1 := shaL_len (2 :: (p ++ t))
 have l2 := shaL_len (3 :: (p ++ t))
 generalize shaL (2 :: (p ++ t)) = x at h1 l1 ⊢
 generalize shaL (3 :: (p ++ t)) = y at h2 l2 ⊢
 refine ACall.of_does TTok Tryz.func104 rfl Tryz.call104 rfl (wpc_sound (M := MU) (PL := PLopen) (CU := cutAt [200001]) TTok mixed _ _ _ ?_)
 conv => whnf
 repeat (first | (refine ifB_t ?_; conv => whnf) | (refine ifB_f ?_; conv => whnf) | (refine ifB_neg (decide_eq_false (by first | omega | rfl | (dsimp only; omega))) ?_; conv => whnf) | (refine ifB_pos (decide_eq_true (by first | omega | rfl | (dsimp only; omega))) ?_; conv => whnf) | (refine fit_i64 ⟨by first | omega | rfl | (dsimp only; omega), by first | omega | rfl | (dsimp only; omega)⟩ ?_; conv => whnf) | (refine fit_u64 ⟨by first | omega | rfl | (dsimp only; omega), by first | omega | rfl | (dsimp only; omega)⟩ ?_; conv => whnf) | (refine fit_u8 ⟨by first | omega | rfl | (dsimp only; omega), by first | omega | rfl | (dsimp only; omega)⟩ ?_; conv => whnf) | (refine ⟨pureL_bys _, ?_⟩; conv => whnf) | (refine ⟨ones_bys _, ?_⟩; conv => whnf) | (refine ⟨pureL_cutB _ _ _ _, ?_⟩; conv => whnf) | (refine ⟨(⟨by kernel_rfl, by kernel_rfl, Nat.le_of_ble_eq_true (by kernel_rfl)⟩ : AV.ones _ = true ∧ _ ∧ _), ?_⟩; conv => whnf) | (refine ⟨⟨by first | (simp only [List.drop_zero, List.length_drop, hds_len]; omega) | exact Nat.le_of_ble_eq_true (by kernel_rfl), okB_none _⟩, ?_⟩; conv => whnf) | (refine ⟨entC_pure _, ?_⟩; conv => whnf) | (refine Or.inl ⟨⟨rfl, ?_⟩, ?_⟩; (focus (first | rfl | (simp; done) | (rw [toksC_length]; omega))); conv => whnf) | (refine ⟨rfl, ?_⟩; conv => whnf) | (refine ⟨_, rfl, ?_⟩; conv => whnf) | (refine ⟨⟨rfl, rfl⟩, ?_⟩; conv => whnf) | (refine ⟨⟨rfl, rfl, rfl, ?_, pureL_bys _⟩, ?_⟩; (focus (simp; done)); conv => whnf) | (refine ⟨⟨rfl, rfl, ?_, pureL_bys _⟩, ?_⟩; (focus (simp; done)); conv => whnf) | (refine ⟨⟨rfl, rfl, rfl, ?_, pureL_toks _⟩, ?_⟩; (focus (rw [toksC_length]; omega)); conv => whnf) | (refine ⟨⟨rfl, rfl, ?_, pureL_toks _⟩, ?_⟩; (focus (rw [toksC_length]; omega)); conv => whnf) | (refine ⟨⟨rfl, rfl, ?_⟩, ?_⟩; (focus (first | assumption | exact pureL_bys _ | exact pureL_toks _)); conv => whnf) | (refine ⟨⟨rfl, rfl, ?_⟩, ?_⟩; (focus (first | exact Nat.le_of_ble_eq_true rfl | (simp; done))); conv => whnf) | (refine And.intro (by first | omega | rfl | (dsimp only; omega)) ?_; conv => whnf) | (refine ⟨⟨rfl, ?_⟩, ?_⟩; (focus (first | (simp only [okB]; omega) | (simp [okB]; omega))); conv => whnf) | (refine ⟨⟨?_, ?_, ?_⟩, ?_⟩; (focus omega); (focus (first | omega | (simp; done) | (simp; omega))); (focus (first | (simp; done) | (simp; omega) | (rw [toksC_length]; simp; omega))); conv => whnf) | (refine ⟨roLoad_ok rfl ?_, ?_⟩; (focus (simp [toksC_length]; omega)); conv => whnf) | (refine ⟨⟨?_, ?_⟩, ?_⟩; (focus (simp; done)); (focus (first | (simp only [okB]; omega) | (simp [okB]; omega))); conv => whnf) | (refine And.intro ?_ ?_; (focus (first | (simp only [pureL, pureV, pureL_bys, Bool.and_true, Bool.and_self]; done) | (simp only [pureL, pureV, pureL_bys, pureL_toks, Bool.and_true, Bool.and_self]; done))); conv => whnf) | (refine ⟨⟨rfl, rfl, ?_, ?_⟩, ?_⟩; (focus (first | (simp [lenB, offB]; done) | (simp [lenB, offB]; omega))); (focus (first | (simp [limB, lenB, offB]; done) | (simp [limB, lenB, offB]; omega))); conv => whnf) | (refine ⟨⟨rfl, ?_, ?_, ?_⟩, ?_⟩; (focus (first | (simp; done) | (simp; omega))); (focus (first | exact Or.inl rfl | exact Or.inr (by omega))); (focus (first | (simp [limB, lenB, offB]; done) | (simp [limB, lenB, offB]; omega))); conv => whnf) | (refine And.intro ?_ ?_; (focus (first | (simp [limB, lenB, offB]; done) | (simp [limB, lenB, offB]; omega))); conv => whnf) | (refine ⟨ones_toks _, ?_⟩; conv => whnf) | (refine And.intro ?_ ?_; (focus (simp [pureL, pureV, pureL_bys, pureL_toks, pureL_app]; done)); conv => whnf) | (refine fit_i64 ⟨by first | (simp; done) | (simp; omega), by first | (simp; done) | (simp; omega)⟩ ?_; conv => whnf) | (refine ifB_neg (decide_eq_false (by first | (simp; done) | (simp; omega))) ?_; conv => whnf) | (refine ifB_pos (decide_eq_true (by first | (simp; done) | (simp; omega))) ?_; conv => whnf) | (refine Or.inl ⟨⟨rfl, ?_⟩, ?_⟩; (focus (first | (simp [toksC_length]; done) | (simp [toksC_length]; omega))); conv => whnf) | (refine ⟨⟨rfl, rfl, ?_, ?_⟩, ?_⟩; (focus (first | (simp [toksC_length]; done) | (simp [toksC_length]; omega))); (focus (first | (simp [limB, lenB, offB]; done) | (simp [limB, lenB, offB]; omega))); conv => whnf) | (refine ⟨⟨rfl, ?_, ?_, ?_⟩, ?_⟩; (focus (first | (simp [toksC_length]; done) | (simp [toksC_length]; omega))); (focus (first | exact Or.inl rfl | exact Or.inr (by omega))); (focus (first | (simp [limB, lenB, offB]; done) | (simp [limB, lenB, offB]; omega))); conv => whnf) | (refine And.intro ?_ ?_; (focus (first | (simp [toksC_length]; done) | (simp [toksC_length]; omega))); conv => whnf) | (refine ⟨pureL_take (pureL_drop (pureL_bys _) _) _, ?_⟩; conv => whnf) | (refine ⟨pureL_take (pureL_drop (pureL_toks _) _) _, ?_⟩; conv => whnf) | (refine ⟨pureL_ints _, ?_⟩; conv => whnf) | (refine ⟨ones_ints _, ?_⟩; conv => whnf) | (refine ⟨ones_part (ones_ints _) _ _, ?_⟩; conv => whnf) | (refine ⟨ones_part (ones_toks _) _ _, ?_⟩; conv => whnf) | (refine ⟨ones_part (ones_bys _) _ _, ?_⟩; conv => whnf) | (refine ⟨⟨?_, ?_, ?_⟩, ?_⟩; (focus omega); (focus (first | omega | (simp; done) | (simp; omega))); (focus (first | (rw [prfs_len]; simp; omega) | (rw [ents_len]; simp; omega) | (rw [hds_len]; simp; omega) | (rw [lets_len]; simp; omega))); conv => whnf) | (refine ⟨(show pureL (rowsC _ _) = true from by first | exact prfs_pure _ | exact ents_pure _ | exact hds_pure _ | exact lets_pure _), ?_⟩; conv => whnf) | (refine ⟨(show pureL _ = true from by first | exact prfC_pure _ | exact hdC_pure _ | exact msgC_pure _ | exact letC_pure _), ?_⟩; conv => whnf))
 have hl : (c32 p []).length = 32 := c32_len p []
 have hA : ∀ (k : Int) (z : AV), ACall Tryz.prog 102 [.int .u8 k, .ro 2 (cat2 p t)] z [] → ACall Tryz.prog 102 [.int .u8 k, .ro 2 [.ro 32 (cutB ((c32 p []).take (32 * 1)) none none 1), .ro t.length (bys t)]] z [] := fun k z h => h.args (by rw [cut32 lp, cat2, lp])
 have hpu : pureL [.ro 32 (cutB ((c32 p []).take (32 * 1)) none none 1), .ro t.length (bys t)] = true := by rw [cut32 lp]; simp [pureL, pureV, pureL_bys]
 have h1 := hA 2 _ h1
 have h2 := hA 3 _ h2
 clear hA
 refine Does.freeze 0 rfl (Does.tidy [(1, .ro t.length (bys t)), (2, .rop (c32 p [])), (4, .ptr 1 0)] [(1, bys z64)] 2 20 rfl rfl rfl (by kernel_rfl) (by kernel_rfl) ?_)
 rw [show (matL [AV.agg (c32 p []), AV.ro t.length (bys t)] (noHeap, 0)).snd.snd = 0 from rfl]
 generalize c32 p [] = P at hl hpu h1 h2 ⊢
 refine Does.seqCut (α := Unit) (fun _ => mkSt [(4, .ptr 0 0), (5, .ptr 1 0), (6, .ptr 2 0)] [(0, bys z64), (1, c32 x []), (2, c32 y [])] 3 20) (fun _ => True) ?_ (fun _ _ => ?_)
 ·refine wpc_sound (M := MU) (PL := PLopen) (CU := noCut) TTok mixed _ _ _ ?_
  conv => whnf
  refine ⟨by kernel_rfl, ?_⟩
  conv => whnf
  refine ⟨⟨by show 32 * 1 ≤ (List.drop 0 P).length; simp [hl], okB_none _⟩, ?_⟩
  conv => whnf
  refine ⟨⟨by show 32 * 1 ≤ (List.drop 0 P).length; simp [hl], okB_none _⟩, ?_⟩
  conv => whnf
  repeat' (first | ((with_reducible refine And.intro (?_ : _ = _) ?_); (focus first | exact hpu | exact rfl); conv => whnf) | ((with_reducible refine And.intro (And.intro (?_ : _ = _) ?_) ?_); (focus exact rfl); (focus exact ⟨by kernel_rfl, Nat.le_of_ble_eq_true (by kernel_rfl)⟩); conv => whnf) | ((with_reducible refine Or.inl ?_); refine ⟨⟨rfl, rfl⟩, ?_⟩; conv => whnf) | ((with_reducible refine And.intro ?_ ?_) <;> conv => whnf) | (refine ⟨_, _, h1, by first | rfl | simp [noRoIf, noRoL, noRoV, noRoL_bys], ?_⟩; conv => whnf) | (refine ⟨_, _, h2, by first | rfl | simp [noRoIf, noRoL, noRoV, noRoL_bys], ?_⟩; conv => whnf))
  all_goals exact open_leaf rfl rfl rfl rfl (by omega) (by omega) (by omega) rfl (by kernel_rfl) (by kernel_rfl)
 ·refine wpc_sound (M := MU) (PL := PLopen) (CU := noCut) TTok mixed _ _ _ ?_
  conv => whnf
  refine ⟨by kernel_rfl, ?_⟩
  conv => whnf
  refine ⟨⟨Nat.le_of_ble_eq_true (by kernel_rfl), okB_none _⟩, ?_⟩
  conv => whnf
  refine ⟨⟨Nat.le_of_ble_eq_true (by kernel_rfl), okB_none _⟩, ?_⟩
  conv => whnf
  refine Or.inl ⟨⟨rfl, rfl, rfl⟩, ?_⟩
  conv => whnf
  refine ⟨by kernel_rfl, ?_⟩
  conv => whnf
  refine ⟨⟨rfl, Nat.le_of_ble_eq_true (by kernel_rfl), Or.inr (by decide), Nat.le_of_ble_eq_true (by kernel_rfl)⟩, ?_⟩
  conv => whnf
  refine ⟨⟨Nat.le_of_ble_eq_true (by kernel_rfl), Nat.le_of_ble_eq_true (by kernel_rfl)⟩, ?_⟩
  conv => whnf
  refine ⟨c64 (x ++ y) [], by rw [← c64_two l1 l2]; kernel_rfl, ?_⟩
  conv => whnf
  refine ⟨(⟨by kernel_rfl, by kernel_rfl, Nat.le_of_ble_eq_true (by kernel_rfl)⟩ : AV.ones _ = true ∧ _ ∧ _), ?_⟩
  conv => whnf
  refine ⟨c64 (x ++ y) [], by kernel_rfl, ?_⟩
  conv => whnf
  refine c64_dems1 (by kernel_rfl) ?_
  rfl
end
end
section
--KR
attribute [local irreducible] ifB fitP Does Weaker
theorem c32_int_dems {H : Heap} {x : List Int} {n : Int} {zs : List AV} {K : List Nat → Prop} (hz : zs = c32 x []) (h : K []) : demsP H [.tuple [.agg (c32 x []), .int .i64 n]] [.tuple [.agg zs, .int .i64 n]] K := by
 subst hz
 simp only [demsP, demP]
 refine c32_dems ?_
 simpa only [demsP, and_self, true_and, List.nil_append] using h
theorem c64_int_dems {H : Heap} {x : List Int} {n : Int} {zs : List AV} {K : List Nat → Prop} (hz : zs = c64 x []) (h : K []) : demsP H [.tuple [.agg (c64 x []), .int .i64 n]] [.tuple [.agg zs, .int .i64 n]] K := by
 subst hz
 simp only [demsP, demP]
 refine c64_dems ?_
 simpa only [demsP, and_self, true_and, List.nil_append] using h
theorem known2_ok : ACall Tryz.prog 100 [.int .i64 2] (.bool true) [] := known_ok 2
section
attribute [local irreducible] demsP
set_option maxRecDepth 20000 in
set_option maxHeartbeats 4000000 in
theorem spublic_ok (s : List Int) (hs : Byt s) (ls : s.length = 32) : ACall Tryz.prog 79 [.int .i64 2, .agg (c32 s [])] (.tuple [.agg (c32 (shaL (1 :: s)) []), .int .i64 0]) [] := by
 have h1 := ssum1_ok 1 s (by omega) hs (by omega) (by omega)
 generalize shaL (1 :: s) = x at h1 ⊢
 have hl : (c32 s []).length = 32 := c32_len s []
 have hA : ACall Tryz.prog 102 [.int .u8 1, .ro 1 [.ro 32 (cutB ((c32 s []).take (32 * 1)) none none 1)]] (.agg (c32 x [])) [] := h1.args (by rw [cut32 ls, ls])
 have hpu : pureL [.ro 32 (cutB ((c32 s []).take (32 * 1)) none none 1)] = true := by rw [cut32 ls]; simp [pureL, pureV, pureL_bys]
 clear h1
 refine ACall.of_does TTok Tryz.func79 rfl Tryz.call79 rfl (wpc_sound (M := MU) (PL := PL0) (CU := cutAt [100005, 99999]) TTok mixed _ _ _ ?_)
 conv => whnf
 repeat ((refine ⟨rfl, ?_⟩); conv => whnf)
 refine ⟨_, _, known2_ok, by first | rfl | simp [noRoIf, noRoL, noRoV, noRoL_bys], ?_⟩
 conv => whnf
 repeat ((refine ifB_f ?_); conv => whnf)
 refine Does.freeze 0 rfl (Does.tidy [(3, .rop (c32 s [])), (4, .ptr 1 0)] [(1, bys z32)] 2 19 rfl rfl rfl (by kernel_rfl) (by kernel_rfl) ?_)
 generalize c32 s [] = P at hl hpu hA ⊢
 refine wpc_sound (M := MU) (PL := PL0) (CU := cutAt [99999]) TTok mixed _ _ _ ?_
 conv => whnf
 refine ⟨⟨by show 32 * 1 ≤ (List.drop 0 P).length; simp [hl], okB_none _⟩, ?_⟩
 conv => whnf
 repeat ((first | (refine Or.inl ⟨⟨rfl, ?_⟩, ?_⟩; (focus (first | rfl | (simp; done) | (rw [toksC_length]; omega)))) | refine ⟨rfl, ?_⟩ | (refine And.intro ?_ ?_; (focus (first | (simp [limB, lenB, offB]; done) | (simp [limB, lenB, offB]; omega))))); conv => whnf)
 refine ⟨_, _, hA, by first | rfl | simp [noRoIf, noRoL, noRoV, noRoL_bys], ?_⟩
 conv => whnf
 repeat ((refine ⟨(⟨by kernel_rfl, by kernel_rfl, Nat.le_of_ble_eq_true (by kernel_rfl)⟩ : AV.ones _ = true ∧ _ ∧ _), ?_⟩); conv => whnf)
 refine Does.tidy [(4, .ptr 1 0), (5, .int .i64 0)] [(1, c32 x []), (2, [.ro 32 (cutB (P.take (32 * 1)) none none 1)])] 3 19 rfl rfl rfl (by kernel_rfl) (by kernel_rfl) ?_
 refine wpc_sound (M := MU) (PL := PL0) (CU := noCut) TTok mixed _ _ _ ?_
 conv => whnf
 refine ⟨c32 x [], by kernel_rfl, ?_⟩
 conv => whnf
 refine c32_int_dems (by kernel_rfl) ?_
 rfl
set_option maxRecDepth 20000 in
set_option maxHeartbeats 4000000 in
theorem ssign_ok (s t : List Int) (hs : Byt s) (ls : s.length = 32) (ht : Byt t) (lt : t.length ≤ 200000) : ACall Tryz.prog 80 [.int .i64 2, .agg (c32 s []), .ro t.length (bys t)] (.tuple [.agg (c64 (openL (shaL (1 :: s)) t) []), .int .i64 0]) [] := by
 have h1 := ssum1_ok 1 s (by omega) hs (by omega) (by omega)
 have h2 := sopen_ok (shaL (1 :: s)) t (shaL_byt _) (shaL_len _) ht lt
 generalize openL (shaL (1 :: s)) t = z at h2 ⊢
 generalize shaL (1 :: s) = x at h1 h2
 have hl : (c32 s []).length = 32 := c32_len s []
 have hA : ACall Tryz.prog 102 [.int .u8 1, .ro 1 [.ro 32 (cutB ((c32 s []).take (32 * 1)) none none 1)]] (.agg (c32 x [])) [] := h1.args (by rw [cut32 ls, ls])
 have hpu : pureL [.ro 32 (cutB ((c32 s []).take (32 * 1)) none none 1)] = true := by rw [cut32 ls]; simp [pureL, pureV, pureL_bys]
 clear h1
 refine ACall.of_does TTok Tryz.func80 rfl Tryz.call80 rfl (wpc_sound (M := MU) (PL := PL0) (CU := cutAt [100005, 99999]) TTok mixed _ _ _ ?_)
 conv => whnf
 repeat ((refine ⟨rfl, ?_⟩); conv => whnf)
 refine ⟨_, _, known2_ok, by first | rfl | simp [noRoIf, noRoL, noRoV, noRoL_bys], ?_⟩
 conv => whnf
 repeat ((refine ifB_f ?_); conv => whnf)
 refine Does.freeze 0 rfl (Does.tidy [(2, .ro t.length (bys t)), (4, .rop (c32 s [])), (6, .ptr 1 0)] [(1, bys z64)] 2 24 rfl rfl rfl (by kernel_rfl) (by kernel_rfl) ?_)
 generalize c32 s [] = P at hl hpu hA ⊢
 refine wpc_sound (M := MU) (PL := PL0) (CU := cutAt [99999]) TTok mixed _ _ _ ?_
 conv => whnf
 refine ⟨⟨by show 32 * 1 ≤ (List.drop 0 P).length; simp [hl], okB_none _⟩, ?_⟩
 conv => whnf
 repeat ((first | (refine Or.inl ⟨⟨rfl, ?_⟩, ?_⟩; (focus (first | rfl | (simp; done) | (rw [toksC_length]; omega)))) | refine ⟨rfl, ?_⟩ | (refine And.intro ?_ ?_; (focus (first | (simp [limB, lenB, offB]; done) | (simp [limB, lenB, offB]; omega))))); conv => whnf)
 refine ⟨_, _, hA, by first | rfl | simp [noRoIf, noRoL, noRoV, noRoL_bys], ?_⟩
 conv => whnf
 repeat ((first | refine ⟨pureL_bys _, ?_⟩ | refine ⟨rfl, ?_⟩); conv => whnf)
 refine ⟨_, _, h2, by first | rfl | simp [noRoIf, noRoL, noRoV, noRoL_bys], ?_⟩
 conv => whnf
 repeat ((refine ⟨(⟨by kernel_rfl, by kernel_rfl, Nat.le_of_ble_eq_true (by kernel_rfl)⟩ : AV.ones _ = true ∧ _ ∧ _), ?_⟩); conv => whnf)
 refine Does.tidy [(6, .ptr 1 0), (7, .int .i64 0)] [(1, c64 z []), (2, [.ro 32 (cutB (P.take (32 * 1)) none none 1)])] 3 24 rfl rfl rfl (by kernel_rfl) (by kernel_rfl) ?_
 refine wpc_sound (M := MU) (PL := PL0) (CU := noCut) TTok mixed _ _ _ ?_
 conv => whnf
 refine ⟨c64 z [], by kernel_rfl, ?_⟩
 conv => whnf
 refine c64_int_dems (by kernel_rfl) ?_
 rfl
end
end
section

theorem rOpen_enc {l : List Tok} {a : List Int} (hl : ToksOk l) (h : encR validR l = (a, 0)) : rOpen a = ⟨l, false⟩ := by
 unfold rOpen
 rw [decR_enc hl h]
 rfl
theorem rNext_cons {k : Int} {t : Tok} {q : List Tok} (h : t.k = k) : rNext k ⟨t :: q, false⟩ = (t, ⟨q, false⟩) := by
 unfold rNext; simp [h]
theorem rArr_cons {m : Nat} {t : Tok} {q : List Tok} (h : t.k = 3) (hm : t.b.length = m) : rArr m ⟨t :: q, false⟩ = (t.b, ⟨q, false⟩) := by
 unfold rArr; rw [rNext_cons h]; simp [hm]
theorem rWant_cons {m f : Int} {t s : Tok} {q : List Tok} (h1 : t.k = 5) (h2 : t.n = m) (h3 : s.k = 1) (h4 : s.n = f) : rWant m f ⟨t :: s :: q, false⟩ = ⟨q, false⟩ := by
 unfold rWant
 rw [rNext_cons h1]
 dsimp only
 rw [if_neg (by omega), rNext_cons h3]
 dsimp only
 rw [if_neg (by omega)]
theorem rdE_cons {t2 t3 t4 t5 t6 t7 t8 t9 t10 : Tok} (h2 : t2.k = 3) (m2 : t2.b.length = 32) (h3 : t3.k = 1) (h4 : t4.k = 3) (m4 : t4.b.length = 32) (h5 : t5.k = 1) (h6 : t6.k = 5) (h7 : t7.k = 1) (h8 : t8.k = 4) (h9 : t9.k = 3) (h10 : t10.k = 3) (m10 : t10.b.length = 64) :
  rdE ⟨[t2, t3, t4, t5, t6, t7, t8, t9, t10], false⟩ = if t6.n ≠ 3 then (ent0, 3) else if entR ⟨t2.b, t3.n, t4.b, t5.n, t7.n, t8.b, t9.b, t10.b⟩ = true then (⟨t2.b, t3.n, t4.b, t5.n, t7.n, t8.b, t9.b, t10.b⟩, 0) else (ent0, 3) := by
 unfold rdE
 rw [rArr_cons h2 m2]; dsimp only
 rw [rNext_cons h3]; dsimp only
 rw [rArr_cons h4 m4]; dsimp only
 rw [rNext_cons h5]; dsimp only
 rw [rNext_cons h6]; dsimp only
 rw [rNext_cons h7]; dsimp only
 rw [rNext_cons h8]; dsimp only
 rw [rNext_cons h9]; dsimp only
 rw [rArr_cons h10 m10]; dsimp only
 rfl
theorem rdEnt_enc {e : Ent} (he : EntS e) (hr : entR e = true) {a : List Int} (h : encR validR (entTs e) = (a, 0)) : rdEnt a = (e, 0) := by
 unfold rdEnt
 rw [rOpen_enc (entTs_ok e he).1 h]
 rw [show entTs e = ⟨5, 7, []⟩ :: ⟨1, 1, []⟩ :: [⟨3, 0, e.au⟩, ⟨1, e.seq, []⟩, ⟨3, 0, e.prev⟩, ⟨1, e.stamp, []⟩, ⟨5, 3, []⟩, ⟨1, e.kind, []⟩, ⟨4, 0, e.key⟩, ⟨3, 0, e.val⟩, ⟨3, 0, e.sig⟩] from rfl]
 rw [rWant_cons (m := 7) (f := 1) (t := ⟨5, 7, []⟩) (s := ⟨1, 1, []⟩) rfl rfl rfl rfl, rdE_cons rfl he.au.2 rfl rfl he.prev.2 rfl rfl rfl rfl rfl rfl he.sig.2]
 rw [if_neg (by simp), if_pos hr]
theorem entB_right {e : Ent} (h : (entB e).2 = 0) : entR e = true ∧ encR validR (entTs e) = ((entB e).1, 0) := by
 unfold entB at h ⊢
 split at h
 ·rename_i c
  rw [if_pos c]
  exact ⟨c, Prod.ext rfl h⟩
 ·cases h
theorem rdEnt_bytes {e : Ent} (he : EntS e) (h : (entB e).2 = 0) : rdEnt (entB e).1 = (e, 0) := rdEnt_enc he (entB_right h).1 (entB_right h).2
end
section

def Items (g : Nat → Option (Nat × List Int)) : Nat → List (List Int) → Nat → Prop
 | a, [], b => a = b
 | a, x :: xs, b => ∃ c, g a = some (c, x) ∧ Items g c xs b
theorem rLoop_items {g : Nat → Option (Nat × List Int)} : ∀ (xs : List (List Int)) (i a b : Nat) (acc last : List Int), Items g a xs b → acc.length + xs.flatten.length ≤ 32768 → rLoop g false xs.length i a acc last = some (b, acc ++ xs.flatten)
 | [], i, a, b, acc, last, h, _ => by
  obtain rfl : a = b := h
  simp [rLoop]
 | x :: xs, i, a, b, acc, last, h, hl => by
  obtain ⟨c, hc, h⟩ := h
  simp only [List.flatten_cons, List.length_append] at hl
  rw [List.length_cons, rLoop, hc]
  dsimp only
  rw [if_neg (by omega), if_neg (by simp), rLoop_items xs (i + 1) c b (acc ++ x) last h (by simp only [List.length_append]; omega)]
  simp
def IsItem (u : List Int → Bool) (f : Nat) (ts : List Tok) (x : List Int) : Prop := ∀ pre post : List Tok, rItem u (pre ++ (ts ++ post)) f pre.length = some (pre.length + ts.length, x)
def AreItems (u : List Int → Bool) (f : Nat) (ts : List Tok) (xs : List (List Int)) : Prop := ∀ pre post : List Tok, Items (rItem u (pre ++ (ts ++ post)) f) pre.length xs (pre.length + ts.length)
theorem are_nil (u : List Int → Bool) (f : Nat) : AreItems u f [] [] := fun pre post => by simp [Items]
theorem are_cons {u : List Int → Bool} {f : Nat} {ts us : List Tok} {x : List Int} {xs : List (List Int)} (h : IsItem u f ts x) (k : AreItems u f us xs) : AreItems u f (ts ++ us) (x :: xs) := by
 intro pre post
 refine ⟨pre.length + ts.length, ?_, ?_⟩
 ·rw [List.append_assoc]; exact h pre (us ++ post)
 ·have := k (pre ++ ts) post
  simpa [List.append_assoc, Nat.add_assoc] using this
theorem are_one {u : List Int → Bool} {f : Nat} {ts : List Tok} {x : List Int} (h : IsItem u f ts x) : AreItems u f ts [x] := by
 have := are_cons h (are_nil u f)
 rwa [List.append_nil] at this
theorem are_app {u : List Int → Bool} {f : Nat} : ∀ {xs ys : List (List Int)} {ts us : List Tok}, AreItems u f ts xs → AreItems u f us ys → AreItems u f (ts ++ us) (xs ++ ys) := by
 intro xs ys ts us h k pre post
 have h1 := h pre (us ++ post)
 have h2 := k (pre ++ ts) post
 rw [List.append_assoc]
 have e : pre ++ ts ++ (us ++ post) = pre ++ (ts ++ (us ++ post)) := by simp
 rw [e] at h2
 have e2 : (pre ++ ts).length = pre.length + ts.length := by simp
 rw [e2] at h2
 rw [List.length_append, ← Nat.add_assoc]
 generalize rItem u (pre ++ (ts ++ (us ++ post))) f = g at h1 h2
 clear h k e e2
 generalize pre.length + ts.length = m at h1 h2
 generalize pre.length = n at h1
 induction xs generalizing n with
 | nil => obtain rfl : n = m := h1; exact h2
 | cons x xs ih =>
  obtain ⟨c, hc, h1⟩ := h1
  exact ⟨c, hc, ih c h1⟩
def tB (t : Tok) : List Int := if t.k = 1 then putL 0 t.n else if t.k = 3 then putL 2 t.b.length ++ t.b else putL 3 t.b.length ++ t.b
def FlatOk (u : List Int → Bool) (t : Tok) : Prop := (t.k = 1 ∧ 0 ≤ t.n ∧ t.b = []) ∨ (t.k = 3 ∧ t.n = 0) ∨ (t.k = 4 ∧ t.n = 0 ∧ u t.b = true)
theorem is_flat {u : List Int → Bool} {f : Nat} {t : Tok} (h : FlatOk u t) : IsItem u f [t] (tB t) := by
 intro pre post
 have hk : pre.length < (pre ++ ([t] ++ post)).length := by simp
 rw [rItem_tok u _ f pre.length hk]
 have e : (pre ++ ([t] ++ post))[pre.length] = t := by simp
 rw [e]
 unfold rTok tB
 have hb : ¬ rBad t := by
  unfold rBad
  rcases h with h | h | h
  ·rw [h.2.2]; simp; omega
  ·rw [h.1, h.2]; simp
  ·rw [h.1, h.2.1]; simp
 rw [if_neg hb]
 rcases h with h | h | h
 ·simp [h.1]
 ·simp [h.1]
 ·simp [h.1, h.2.2]
theorem is_arr {u : List Int → Bool} {f : Nat} {ts : List Tok} {xs : List (List Int)} (h : AreItems u f ts xs) (hx : xs.length ≤ 64) (hl : (putL 4 xs.length).length + xs.flatten.length ≤ 32768) : IsItem u (f + 1) (⟨5, xs.length, []⟩ :: ts) (putL 4 xs.length ++ xs.flatten) := by
 intro pre post
 have hk : pre.length < (pre ++ (⟨5, (xs.length : Int), []⟩ :: ts ++ post)).length := by simp
 rw [rItem_tok u _ (f + 1) pre.length hk]
 have e : (pre ++ (⟨5, (xs.length : Int), []⟩ :: ts ++ post))[pre.length] = ⟨5, (xs.length : Int), []⟩ := by simp
 rw [e]
 unfold rTok
 rw [if_neg (by unfold rBad; simp <;> omega)]
 dsimp only
 rw [if_neg (by omega), if_neg (by omega), if_neg (by omega), if_neg (by omega), if_pos (by omega), if_neg (by simp), if_neg (by omega), if_neg (by omega)]
 have := h (pre ++ [⟨5, (xs.length : Int), []⟩]) post
 have e2 : pre ++ [(⟨5, (xs.length : Int), []⟩ : Tok)] ++ (ts ++ post) = pre ++ (⟨5, (xs.length : Int), []⟩ :: ts ++ post) := by simp
 rw [e2, List.length_append, List.length_singleton] at this
 simp only [rSub, Int.toNat_natCast]
 rw [rLoop_items xs 0 _ _ _ _ this hl]
 simp
 omega
theorem enc_item {u : List Int → Bool} {ts : List Tok} {x : List Int} (h : IsItem u 6 ts x) (ht : ts.length ≤ 600) (hx : x.length ≤ 32768) : encR u ts = (x, 0) := by
 rw [encR_iff]
 have := h [] []
 simp at this
 exact ⟨ht, this, hx⟩
theorem flat_num {u : List Int → Bool} {n : Int} (h : 0 ≤ n) (f : Nat) : IsItem u f [⟨1, n, []⟩] (putL 0 n) := is_flat (.inl ⟨rfl, h, rfl⟩)
theorem flat_str {u : List Int → Bool} (b : List Int) (f : Nat) : IsItem u f [⟨3, 0, b⟩] (putL 2 b.length ++ b) := is_flat (.inr (.inl ⟨rfl, rfl⟩))
theorem flat_text {u : List Int → Bool} {b : List Int} (h : u b = true) (f : Nat) : IsItem u f [⟨4, 0, b⟩] (putL 3 b.length ++ b) := is_flat (.inr (.inr ⟨rfl, rfl, h⟩))
theorem putL_le (M : Int) {n : Int} (h : 0 ≤ n) : (putL M n).length ≤ 9 := by
 rw [putL_length]; have := (sizeR_le n h).1; omega
def entX (e : Ent) : List (List Int) := [putL 0 1, putL 2 e.au.length ++ e.au, putL 0 e.seq, putL 2 e.prev.length ++ e.prev, putL 0 e.stamp, putL 4 3 ++ [putL 0 e.kind, putL 3 e.key.length ++ e.key, putL 2 e.val.length ++ e.val].flatten]
theorem entR_facts {e : Ent} (hr : entR e = true) : (1 ≤ e.seq ∧ e.seq ≤ 200) ∧ 0 ≤ e.stamp ∧ (1 ≤ e.key.length ∧ e.key.length ≤ 16) ∧ validR e.key = true ∧ (e.kind = 1 ∨ e.kind = 2) ∧ e.val.length ≤ 40 := by
 unfold entR opR at hr
 simp only [Bool.and_eq_true, Bool.or_eq_true, decide_eq_true_eq] at hr
 obtain ⟨⟨⟨⟨h1, h2⟩, h3⟩, h4⟩, ⟨⟨h5, h6⟩, h7⟩, h8⟩ := hr
 refine ⟨⟨h1, h2⟩, h4, ⟨h5, h6⟩, h7, ?_, ?_⟩
 ·rcases h8 with h | h
  ·exact .inl h.1
  ·exact .inr h.1
 ·rcases h8 with h | h
  ·exact h.2
  ·omega
theorem entX_are {e : Ent} (hr : entR e = true) (h1 : e.au.length = 32) (h2 : e.prev.length = 32) (f : Nat) : AreItems validR (f + 1) [⟨1, 1, []⟩, ⟨3, 0, e.au⟩, ⟨1, e.seq, []⟩, ⟨3, 0, e.prev⟩, ⟨1, e.stamp, []⟩, ⟨5, 3, []⟩, ⟨1, e.kind, []⟩, ⟨4, 0, e.key⟩, ⟨3, 0, e.val⟩] (entX e) := by
 have F := entR_facts hr
 have op : IsItem validR (f + 1) [⟨5, 3, []⟩, ⟨1, e.kind, []⟩, ⟨4, 0, e.key⟩, ⟨3, 0, e.val⟩] (putL 4 3 ++ [putL 0 e.kind, putL 3 e.key.length ++ e.key, putL 2 e.val.length ++ e.val].flatten) := by
  have := is_arr (u := validR) (f := f) (are_cons (flat_num (n := e.kind) (by omega) f) (are_cons (flat_text F.2.2.2.1 f) (are_one (flat_str e.val f)))) (by simp) (by
   have a1 := putL_le 4 (n := 3) (by omega)
   have a2 := putL_le 0 (n := e.kind) (by omega)
   have a3 := putL_le 3 (n := e.key.length) (by omega)
   have a4 := putL_le 2 (n := e.val.length) (by omega)
   simp only [List.length_cons, List.length_nil, List.flatten_cons, List.flatten_nil, List.length_append]
   have : ((0 + 1 + 1 + 1 : Nat) : Int) = 3 := rfl
   rw [this]
   omega)
  exact this
 exact are_cons (flat_num (by omega) _) (are_cons (flat_str e.au _) (are_cons (flat_num (by omega) _) (are_cons (flat_str e.prev _) (are_cons (flat_num F.2.1 _) (are_one op)))))
theorem entX_len {e : Ent} (hr : entR e = true) (h1 : e.au.length = 32) (h2 : e.prev.length = 32) : (entX e).flatten.length ≤ 300 := by
 have F := entR_facts hr
 have a0 := putL_le 0 (n := 1) (by omega)
 have a1 := putL_le 4 (n := 3) (by omega)
 have a2 := putL_le 0 (n := e.kind) (by omega)
 have a3 := putL_le 3 (n := e.key.length) (by omega)
 have a4 := putL_le 2 (n := e.val.length) (by omega)
 have a5 := putL_le 2 (n := e.au.length) (by omega)
 have a6 := putL_le 0 (n := e.seq) (by omega)
 have a7 := putL_le 2 (n := e.prev.length) (by omega)
 have a8 := putL_le 0 (n := e.stamp) (by omega)
 simp only [entX, List.flatten_cons, List.flatten_nil, List.length_append, List.length_nil]
 omega
theorem entTs_bytes {e : Ent} (hr : entR e = true) (h1 : e.au.length = 32) (h2 : e.prev.length = 32) (h3 : e.sig.length = 64) : encR validR (entTs e) = (putL 4 7 ++ (entX e ++ [putL 2 e.sig.length ++ e.sig]).flatten, 0) := by
 have A := are_app (entX_are hr h1 h2 4) (are_one (flat_str e.sig 5))
 have L := entX_len hr h1 h2
 have a1 := putL_le 4 (n := 7) (by omega)
 have a2 := putL_le 2 (n := e.sig.length) (by omega)
 have := is_arr A (by simp [entX]) (by
  have : (((entX e ++ [putL 2 e.sig.length ++ e.sig]).length : Nat) : Int) = 7 := by simp [entX]
  rw [this]
  simp only [List.flatten_append, List.length_append, List.flatten_cons, List.flatten_nil, List.length_nil]
  omega)
 have e7 : (((entX e ++ [putL 2 e.sig.length ++ e.sig]).length : Nat) : Int) = 7 := by simp [entX]
 rw [e7] at this
 exact enc_item (ts := entTs e) this (by show 11 ≤ 600; decide) (by
  simp only [List.flatten_append, List.length_append, List.flatten_cons, List.flatten_nil, List.length_nil]
  omega)
theorem entBody_bytes {e : Ent} (hr : entR e = true) (h1 : e.au.length = 32) (h2 : e.prev.length = 32) : encR validR (entT 6 e) = (putL 4 6 ++ (entX e).flatten, 0) := by
 have A := entX_are hr h1 h2 4
 have L := entX_len hr h1 h2
 have a1 := putL_le 4 (n := 6) (by omega)
 have e6 : (((entX e).length : Nat) : Int) = 6 := by simp [entX]
 have := is_arr A (by simp [entX]) (by rw [e6]; omega)
 rw [e6] at this
 exact enc_item (ts := entT 6 e) this (by show 10 ≤ 600; decide) (by simp only [List.length_append]; omega)
theorem entB_yes {e : Ent} (he : EntS e) (hr : entR e = true) : entB e = (putL 4 7 ++ (entX e ++ [putL 2 e.sig.length ++ e.sig]).flatten, 0) := by
 unfold entB
 rw [if_pos hr, entTs_bytes hr he.au.2 he.prev.2 he.sig.2]
theorem entB_err {e : Ent} (he : EntS e) : decide ((entB e).2 = 0) = entR e := by
 cases h : entR e
 ·unfold entB; rw [h]; rfl
 ·rw [entB_yes he h]; rfl
end
section

theorem openL_len (p t : List Int) : (openL p t).length = 64 := by unfold openL; rw [List.length_append, shaL_len, shaL_len]
theorem openL_byt (p t : List Int) : Byt (openL p t) := fun x hx => by
 rcases List.mem_append.1 hx with h | h
 ·exact shaL_byt _ x h
 ·exact shaL_byt _ x h
def auE (a : List Int) (e : Ent) : Ent := ⟨a, e.seq, e.prev, e.stamp, e.kind, e.key, e.val, e.sig⟩
def sigE (s : List Int) (e : Ent) : Ent := ⟨e.au, e.seq, e.prev, e.stamp, e.kind, e.key, e.val, s⟩
def signE (s : List Int) (e : Ent) : Ent := sigE (openL (shaL (1 :: s)) (entBody (auE (shaL (1 :: s)) e)).1) (auE (shaL (1 :: s)) e)
theorem auE_S {a : List Int} {e : Ent} (he : EntS e) (ha : Byt a ∧ a.length = 32) : EntS (auE a e) where
 au := ha
 seq := he.seq
 prev := he.prev
 stamp := he.stamp
 kind := he.kind
 key := he.key
 val := he.val
 sig := he.sig
 key' := he.key'
 val' := he.val'
theorem sigE_S {s : List Int} {e : Ent} (he : EntS e) (hs : Byt s ∧ s.length = 64) : EntS (sigE s e) where
 au := he.au
 seq := he.seq
 prev := he.prev
 stamp := he.stamp
 kind := he.kind
 key := he.key
 val := he.val
 sig := hs
 key' := he.key'
 val' := he.val'
theorem sigE_R (s : List Int) (e : Ent) : entR (sigE s e) = entR e := rfl
theorem auE_R (s : List Int) (e : Ent) : entR (auE s e) = entR e := rfl
theorem signE_R (s : List Int) (e : Ent) : entR (signE s e) = entR e := by unfold signE; rw [sigE_R, auE_R]
theorem signE_S (s : List Int) {e : Ent} (he : EntS e) : EntS (signE s e) := sigE_S (auE_S he ⟨shaL_byt _, shaL_len _⟩) ⟨openL_byt _ _, openL_len _ _⟩
theorem sigE_au (s : List Int) (e : Ent) : (sigE s e).au = e.au := rfl
theorem auE_au (s : List Int) (e : Ent) : (auE s e).au = s := rfl
theorem entBody_byt {e : Ent} (he : EntS e) : Byt (entBody e).1 ∧ (entBody e).1.length ≤ 32768 := by
 unfold entBody
 split
 ·have ht := entT_ok 6 (by omega) e he
  refine ⟨encR_byt _ ht.1, ?_⟩
  rcases encR_or validR (entT 6 e) with h | ⟨a, h⟩
  ·rw [h]; simp
  ·have := encR_len h
   rw [h]; exact this
 ·exact ⟨fun x hx => absurd hx (List.not_mem_nil), by simp⟩
theorem entBody_yes {e : Ent} (he : EntS e) (hr : entR e = true) : entBody e = (134 :: (entX e).flatten, 0) := by
 unfold entBody
 rw [if_pos hr, entBody_bytes hr he.au.2 he.prev.2]
 rfl
theorem entB_yes' {e : Ent} (he : EntS e) (hr : entR e = true) : entB e = (135 :: ((entX e).flatten ++ 88 :: 64 :: e.sig), 0) := by
 rw [entB_yes he hr, List.flatten_append, he.sig.2]
 show ([135] ++ ((entX e).flatten ++ (([88, 64] ++ e.sig) ++ [])), (0 : Int)) = _
 rw [List.append_nil]
 rfl
def wkE : Ent := ⟨z32, 1, z32, 0, 2, [107], [], z64⟩
def wkS : List Int := 1 :: List.replicate 31 0
theorem wkS_byt : Byt wkS := fun x hx => by
 unfold wkS at hx
 rcases List.mem_cons.1 hx with h | h
 ·omega
 ·rw [List.mem_replicate] at h; omega
theorem wkE_S : EntS wkE where
 au := ⟨fun x hx => by rw [show wkE.au = List.replicate 32 0 from rfl, List.mem_replicate] at hx; omega, rfl⟩
 seq := by simp [wkE]
 prev := ⟨fun x hx => by rw [show wkE.prev = List.replicate 32 0 from rfl, List.mem_replicate] at hx; omega, rfl⟩
 stamp := by simp [wkE]
 kind := by simp [wkE]
 key := by simp [wkE, Byt]
 val := by simp [wkE, Byt]
 sig := ⟨fun x hx => by rw [show wkE.sig = List.replicate 64 0 from rfl, List.mem_replicate] at hx; omega, rfl⟩
 key' := by simp [wkE]
 val' := by simp [wkE]
theorem wkE_R : entR wkE = true := by decide
end
section
--KR
attribute [local irreducible] ifB fitP Does Weaker
def MV : FuncId → List Mode := orElse [(54, [.rd])] MU
section
attribute [local irreducible] demsP
set_option maxRecDepth 20000 in
set_option maxHeartbeats 4000000 in
theorem esign_ok (s : List Int) (e : Ent) (hs : Byt s) (ls : s.length = 32) (he : EntS e) (hr : entR e = true) : ACall Tryz.prog 51 [.int .i64 2, .agg (c32 s []), .agg (entC e)] (.tuple [.agg (entC (signE s e)), .int .i64 0]) [] := by
 have h1 := spublic_ok s hs ls
 have h2 := etwin_ok e he
 have hA := auE_S he ⟨shaL_byt (1 :: s), shaL_len _⟩
 have h3 := (ebody_ok _ hA).roRes2 (.inl ⟨_, _, rfl⟩)
 have hB := entBody_byt hA
 have h4 := ssign_ok s (entBody (auE (shaL (1 :: s)) e)).1 hs ls hB.1 (by omega)
 rw [show entBody (auE (shaL (1 :: s)) e) = ((entBody (auE (shaL (1 :: s)) e)).1, 0) by rw [entBody_yes hA (by rw [auE_R]; exact hr)]] at h3
 unfold signE
 generalize openL (shaL (1 :: s)) (entBody (auE (shaL (1 :: s)) e)).1 = z at h4 ⊢
 generalize (entBody (auE (shaL (1 :: s)) e)).1 = t at h3 h4
 clear hA hB
 generalize shaL (1 :: s) = x at h1 h3 h4 ⊢
 refine ACall.of_does TTok Tryz.func51 rfl Tryz.call51 rfl (wpc_sound (M := MV) (PL := PL0) (CU := cutAt [100004, 100005, 100006, 100009, 100010, 99999]) TTok mixed _ _ _ ?_)
 conv => whnf
 repeat ((first | refine ⟨rfl, ?_⟩ | refine ⟨_, rfl, ?_⟩); conv => whnf)
 refine ⟨_, _, h1, by first | rfl | simp [noRoIf, noRoL, noRoV, noRoL_bys], ?_⟩
 conv => whnf
 repeat ((first | refine ifB_f ?_ | refine ⟨(⟨by kernel_rfl, by kernel_rfl, Nat.le_of_ble_eq_true (by kernel_rfl)⟩ : AV.ones _ = true ∧ _ ∧ _), ?_⟩ | refine ⟨rfl, ?_⟩); conv => whnf)
 refine Does.tidy [(0, .int .i64 2), (4, .ptr 0 0), (5, .ptr 1 0), (6, .ptr 2 0), (8, .ptr 3 0)] [(0, c32 s []), (1, entC e), (2, zeroE), (3, c32 x [])] 4 44 rfl rfl rfl (by kernel_rfl) (by kernel_rfl) ?_
 refine wpc_sound (M := MV) (PL := PL0) (CU := cutAt [100005, 100006, 100009, 100010, 99999]) TTok mixed _ _ _ ?_
 conv => whnf
 repeat ((first | refine ⟨entC_pure _, ?_⟩ | refine ⟨rfl, ?_⟩ | refine ⟨_, rfl, ?_⟩); conv => whnf)
 refine ⟨_, _, h2, by first | rfl | simp [noRoIf, noRoL, noRoV, noRoL_bys], ?_⟩
 conv => whnf
 repeat ((first | refine ⟨(⟨by kernel_rfl, by kernel_rfl, Nat.le_of_ble_eq_true (by kernel_rfl)⟩ : AV.ones _ = true ∧ _ ∧ _), ?_⟩ | refine ⟨rfl, ?_⟩); conv => whnf)
 refine Does.tidy [(0, .int .i64 2), (4, .ptr 0 0), (6, .ptr 2 0), (8, .ptr 3 0), (10, .ptr 4 0)] [(0, c32 s []), (1, entC e), (2, zeroE), (3, c32 x []), (4, entC e)] 5 44 rfl rfl rfl (by kernel_rfl) (by kernel_rfl) ?_
 refine wpc_sound (M := MV) (PL := PL0) (CU := cutAt [100006, 100009, 100010, 99999]) TTok mixed _ _ _ ?_
 conv => whnf
 repeat ((first | refine ⟨(⟨by kernel_rfl, by kernel_rfl, Nat.le_of_ble_eq_true (by kernel_rfl)⟩ : AV.ones _ = true ∧ _ ∧ _), ?_⟩ | refine ⟨_, rfl, ?_⟩); conv => whnf)
 refine Does.tidy [(0, .int .i64 2), (4, .ptr 0 0), (6, .ptr 2 0), (10, .ptr 4 0)] [(0, c32 s []), (1, entC e), (2, zeroE), (3, c32 x []), (4, entC (auE x e))] 5 44 rfl rfl rfl (by kernel_rfl) (by kernel_rfl) ?_
 refine wpc_sound (M := MV) (PL := PL0) (CU := cutAt [100009, 100010, 99999]) TTok mixed _ _ _ ?_
 conv => whnf
 repeat ((first | refine ⟨entC_pure _, ?_⟩ | refine ⟨rfl, ?_⟩ | refine ⟨_, rfl, ?_⟩); conv => whnf)
 refine ⟨_, _, h3, by first | rfl | simp [noRoIf, noRoL, noRoV, noRoL_bys], ?_⟩
 conv => whnf
 repeat ((refine ifB_f ?_); conv => whnf)
 refine Does.tidy [(0, .int .i64 2), (4, .ptr 0 0), (6, .ptr 2 0), (10, .ptr 4 0), (11, .ro t.length (bys t))] [(0, c32 s []), (1, entC e), (2, zeroE), (3, c32 x []), (4, entC (auE x e))] 5 44 rfl rfl rfl (by kernel_rfl) (by kernel_rfl) ?_
 refine wpc_sound (M := MV) (PL := PL0) (CU := cutAt [100010, 99999]) TTok mixed _ _ _ ?_
 conv => whnf
 repeat ((first | refine ⟨pureL_bys _, ?_⟩ | refine ⟨rfl, ?_⟩ | refine ⟨_, rfl, ?_⟩); conv => whnf)
 refine ⟨_, _, h4, by first | rfl | simp [noRoIf, noRoL, noRoV, noRoL_bys], ?_⟩
 conv => whnf
 repeat ((refine ⟨(⟨by kernel_rfl, by kernel_rfl, Nat.le_of_ble_eq_true (by kernel_rfl)⟩ : AV.ones _ = true ∧ _ ∧ _), ?_⟩); conv => whnf)
 refine Does.tidy [(6, .ptr 2 0), (10, .ptr 4 0)] [(0, c32 s []), (1, entC e), (2, zeroE), (3, c32 x []), (4, entC (sigE z (auE x e)))] 5 44 rfl rfl rfl (by kernel_rfl) (by kernel_rfl) ?_
 refine wpc_sound (M := MV) (PL := PL0) (CU := cutAt [99999]) TTok mixed _ _ _ ?_
 conv => whnf
 repeat ((first | refine ⟨(⟨by kernel_rfl, by kernel_rfl, Nat.le_of_ble_eq_true (by kernel_rfl)⟩ : AV.ones _ = true ∧ _ ∧ _), ?_⟩ | refine ⟨_, rfl, ?_⟩); conv => whnf)
 refine Does.tidy [(6, .ptr 2 0), (7, .int .i64 0)] [(0, c32 s []), (1, entC e), (2, entC (sigE z (auE x e))), (3, c32 x []), (4, entC (sigE z (auE x e)))] 5 44 rfl rfl rfl (by kernel_rfl) (by kernel_rfl) ?_
 refine wpc_sound (M := MV) (PL := PL0) (CU := noCut) TTok mixed _ _ _ ?_
 conv => whnf
 refine ⟨entC (sigE z (auE x e)), by kernel_rfl, ?_⟩
 conv => whnf
 refine ent_int_dems (by kernel_rfl) ?_
 rfl
end
def idE (e : Ent) : List Int × Int := if entR e then (shaL (entB e).1, 0) else (z32, 1)
section
attribute [local irreducible] demsP
set_option maxRecDepth 20000 in
set_option maxHeartbeats 4000000 in
theorem eid_ok (e : Ent) (he : EntS e) : ACall Tryz.prog 21 [.agg (entC e)] (.tuple [.agg (c32 (idE e).1 []), .int .i64 (idE e).2]) [] := by
 have h1 := (ebytes_ok e he).roRes2 (.inl ⟨_, _, rfl⟩)
 have hB := entB_byt he
 have h2 := sha_ok (entB e).1 hB.1 (by omega)
 unfold idE
 refine ACall.of_does TTok Tryz.func21 rfl Tryz.call21 rfl (wpc_sound (M := MV) (PL := PL0) (CU := cutAt [99999]) TTok mixed _ _ _ ?_)
 cases hr : entR e
 ·rw [show entB e = ([], 1) by unfold entB; rw [hr]; rfl] at h1
  conv => whnf
  repeat ((first | refine ⟨entC_pure _, ?_⟩ | refine ⟨rfl, ?_⟩ | refine ⟨_, rfl, ?_⟩); conv => whnf)
  refine ⟨_, _, h1, by first | rfl | simp [noRoIf, noRoL, noRoV, noRoL_bys], ?_⟩
  conv => whnf
  repeat ((first | refine ifB_t ?_ | refine ⟨(⟨by kernel_rfl, by kernel_rfl, Nat.le_of_ble_eq_true (by kernel_rfl)⟩ : AV.ones _ = true ∧ _ ∧ _), ?_⟩); conv => whnf)
  refine Does.tidy [(2, .ptr 1 0), (3, .int .i64 1)] [(0, entC e), (1, c32 z32 [])] 2 17 rfl rfl rfl (by kernel_rfl) (by kernel_rfl) ?_
  refine wpc_sound (M := MV) (PL := PL0) (CU := noCut) TTok mixed _ _ _ ?_
  conv => whnf
  refine ⟨c32 z32 [], by kernel_rfl, ?_⟩
  conv => whnf
  refine c32_int_dems (by kernel_rfl) ?_
  rfl
 ·rw [show entB e = ((entB e).1, 0) by rw [entB_yes' he hr]] at h1
  generalize (entB e).1 = t at h1 h2 ⊢
  generalize shaL t = x at h2 ⊢
  conv => whnf
  repeat ((first | refine ⟨entC_pure _, ?_⟩ | refine ⟨rfl, ?_⟩ | refine ⟨_, rfl, ?_⟩); conv => whnf)
  refine ⟨_, _, h1, by first | rfl | simp [noRoIf, noRoL, noRoV, noRoL_bys], ?_⟩
  conv => whnf
  repeat ((first | refine ifB_f ?_ | refine ⟨pureL_bys _, ?_⟩ | refine ⟨rfl, ?_⟩); conv => whnf)
  refine ⟨_, _, h2, by first | rfl | simp [noRoIf, noRoL, noRoV, noRoL_bys], ?_⟩
  conv => whnf
  repeat ((refine ⟨(⟨by kernel_rfl, by kernel_rfl, Nat.le_of_ble_eq_true (by kernel_rfl)⟩ : AV.ones _ = true ∧ _ ∧ _), ?_⟩); conv => whnf)
  refine Does.tidy [(2, .ptr 1 0), (3, .int .i64 0)] [(0, entC e), (1, c32 x [])] 2 17 rfl rfl rfl (by kernel_rfl) (by kernel_rfl) ?_
  refine wpc_sound (M := MV) (PL := PL0) (CU := noCut) TTok mixed _ _ _ ?_
  conv => whnf
  refine ⟨c32 x [], by kernel_rfl, ?_⟩
  conv => whnf
  refine c32_int_dems (by kernel_rfl) ?_
  rfl
end
end
section
--KR
attribute [local irreducible] ifB fitP Does Weaker
def MF : FuncId → List Mode := orElse [(90, [.rd]), (70, [.rd]), (67, [.rd]), (50, [.rd]), (15, [.rd]), (68, [.rd]), (26, [.rd]), (27, [.rd]),
 (999999, [.rd, .rd, .rd]), (999999, [.rd]), (37, [.rd]), (17, [.rd, .rd]), (999999, [.rd]), (999999, [.rd]), (999999, [.rd]), (999999, [.rd]),
 (999999, [.rd]), (999999, [.rd])] MW
theorem refnum_ok (n : Int) : ACall Tryz.prog 90 [.int .i64 n] (.agg (tokC ⟨1, n, []⟩)) [] := by
 refine ACall.of_does TTok Tryz.func90 rfl Tryz.call90 rfl (wpc_sound (M := MF) (PL := PL0) (CU := noCut) TTok mixed _ _ _ ?_)
 conv => whnf
 repeat ((first | refine ⟨(⟨by kernel_rfl, by kernel_rfl, Nat.le_of_ble_eq_true (by kernel_rfl)⟩ : AV.ones _ = true ∧ _ ∧ _), ?_⟩ | refine ⟨rfl, ?_⟩ | refine ⟨_, rfl, ?_⟩ | refine ⟨⟨rfl, rfl⟩, ?_⟩); conv => whnf)
 rfl
theorem refarray_ok (n : Int) : ACall Tryz.prog 67 [.int .i64 n] (.agg (tokC ⟨5, n, []⟩)) [] := by
 refine ACall.of_does TTok Tryz.func67 rfl Tryz.call67 rfl (wpc_sound (M := MF) (PL := PL0) (CU := noCut) TTok mixed _ _ _ ?_)
 conv => whnf
 repeat ((first | refine ⟨(⟨by kernel_rfl, by kernel_rfl, Nat.le_of_ble_eq_true (by kernel_rfl)⟩ : AV.ones _ = true ∧ _ ∧ _), ?_⟩ | refine ⟨rfl, ?_⟩ | refine ⟨_, rfl, ?_⟩ | refine ⟨⟨rfl, rfl⟩, ?_⟩); conv => whnf)
 rfl
theorem refbytes_ok (b : List Int) : ACall Tryz.prog 70 [.ro b.length (bys b)] (.agg (tokC ⟨3, 0, b⟩)) [] := by
 refine ACall.of_does TTok Tryz.func70 rfl Tryz.call70 rfl (wpc_sound (M := MF) (PL := PL0) (CU := noCut) TTok mixed _ _ _ ?_)
 conv => whnf
 repeat ((first | refine ⟨(⟨by kernel_rfl, by kernel_rfl, Nat.le_of_ble_eq_true (by kernel_rfl)⟩ : AV.ones _ = true ∧ _ ∧ _), ?_⟩ | refine ⟨rfl, ?_⟩ | refine ⟨_, rfl, ?_⟩ | refine ⟨⟨rfl, rfl⟩, ?_⟩ | (refine ⟨⟨rfl, rfl, ?_⟩, ?_⟩; (focus (first | assumption | exact pureL_bys _ | exact pureL_toks _)))); conv => whnf)
 rfl
theorem refop_ok (e : Ent) (he : EntS e) : ACall Tryz.prog 50 [.agg (opC e)] (.bool (opR e)) [] := by
 have hk := he.key'
 have hv := he.val'
 have hu := refUtf8_ok e.key he.key.1 (by omega)
 have hi := in_ok (e.key.length : Int) 1 16
 unfold opR
 refine ACall.of_does TTok Tryz.func50 rfl Tryz.call50 rfl (wpc_sound (M := MF) (PL := PL0) (CU := noCut) TTok mixed _ _ _ ?_)
 by_cases c1 : 1 ≤ e.key.length
 ·rw [dt c1]
  by_cases c2 : e.key.length ≤ 16
  ·rw [dt c2]
   rw [dt (show (1 : Int) ≤ e.key.length ∧ (e.key.length : Int) ≤ 16 by omega)] at hi
   cases c3 : validR e.key <;> rw [c3] at hu
   ·conv => whnf
    repeat ((first | refine ⟨rfl, ?_⟩ | refine ⟨_, rfl, ?_⟩); conv => whnf)
    refine ⟨_, _, hi, by first | rfl | simp [noRoIf, noRoL, noRoV, noRoL_bys], ?_⟩
    conv => whnf
    repeat ((first | refine ifB_t ?_ | refine ⟨pureL_bys _, ?_⟩ | (refine Or.inl ⟨⟨rfl, ?_⟩, ?_⟩; (focus (first | rfl | (simp; done) | (rw [toksC_length]; omega)))) | refine ⟨rfl, ?_⟩ | refine ⟨_, rfl, ?_⟩); conv => whnf)
    refine ⟨_, _, hu, by first | rfl | simp [noRoIf, noRoL, noRoV, noRoL_bys], ?_⟩
    conv => whnf
    repeat ((first | refine ifB_t ?_ | refine ifB_f ?_ | refine ⟨rfl, ?_⟩); conv => whnf)
    rfl
   ·by_cases c4 : e.kind = 1
    ·rw [dt c4, df (show ¬ e.kind = 2 by omega)]
     by_cases c5 : e.val.length ≤ 40
     ·rw [dt c5]
      conv => whnf
      repeat ((first | refine ⟨rfl, ?_⟩ | refine ⟨_, rfl, ?_⟩); conv => whnf)
      refine ⟨_, _, hi, by first | rfl | simp [noRoIf, noRoL, noRoV, noRoL_bys], ?_⟩
      conv => whnf
      repeat ((first | refine ifB_t ?_ | refine ⟨pureL_bys _, ?_⟩ | (refine Or.inl ⟨⟨rfl, ?_⟩, ?_⟩; (focus (first | rfl | (simp; done) | (rw [toksC_length]; omega)))) | refine ⟨rfl, ?_⟩ | refine ⟨_, rfl, ?_⟩); conv => whnf)
      refine ⟨_, _, hu, by first | rfl | simp [noRoIf, noRoL, noRoV, noRoL_bys], ?_⟩
      conv => whnf
      repeat ((first | refine ifB_t ?_ | (refine ifB_pos (decide_eq_true (by first | omega | rfl | (dsimp only; omega))) ?_) | refine ⟨rfl, ?_⟩ | refine ⟨_, rfl, ?_⟩); conv => whnf)
      rfl
     ·rw [df c5]
      conv => whnf
      repeat ((first | refine ⟨rfl, ?_⟩ | refine ⟨_, rfl, ?_⟩); conv => whnf)
      refine ⟨_, _, hi, by first | rfl | simp [noRoIf, noRoL, noRoV, noRoL_bys], ?_⟩
      conv => whnf
      repeat ((first | refine ifB_t ?_ | refine ⟨pureL_bys _, ?_⟩ | (refine Or.inl ⟨⟨rfl, ?_⟩, ?_⟩; (focus (first | rfl | (simp; done) | (rw [toksC_length]; omega)))) | refine ⟨rfl, ?_⟩ | refine ⟨_, rfl, ?_⟩); conv => whnf)
      refine ⟨_, _, hu, by first | rfl | simp [noRoIf, noRoL, noRoV, noRoL_bys], ?_⟩
      conv => whnf
      repeat ((first | refine ifB_t ?_ | refine ifB_f ?_ | (refine ifB_neg (decide_eq_false (by first | omega | rfl | (dsimp only; omega))) ?_) | (refine ifB_pos (decide_eq_true (by first | omega | rfl | (dsimp only; omega))) ?_) | refine ⟨rfl, ?_⟩ | refine ⟨_, rfl, ?_⟩); conv => whnf)
      rfl
    ·rw [df c4]
     by_cases c6 : e.kind = 2
     ·rw [dt c6]
      by_cases c7 : e.val.length = 0
      ·rw [dt c7]
       conv => whnf
       repeat ((first | refine ⟨rfl, ?_⟩ | refine ⟨_, rfl, ?_⟩); conv => whnf)
       refine ⟨_, _, hi, by first | rfl | simp [noRoIf, noRoL, noRoV, noRoL_bys], ?_⟩
       conv => whnf
       repeat ((first | refine ifB_t ?_ | refine ⟨pureL_bys _, ?_⟩ | (refine Or.inl ⟨⟨rfl, ?_⟩, ?_⟩; (focus (first | rfl | (simp; done) | (rw [toksC_length]; omega)))) | refine ⟨rfl, ?_⟩ | refine ⟨_, rfl, ?_⟩); conv => whnf)
       refine ⟨_, _, hu, by first | rfl | simp [noRoIf, noRoL, noRoV, noRoL_bys], ?_⟩
       conv => whnf
       repeat ((first | refine ifB_t ?_ | refine ifB_f ?_ | (refine ifB_neg (decide_eq_false (by first | omega | rfl | (dsimp only; omega))) ?_) | (refine ifB_pos (decide_eq_true (by first | omega | rfl | (dsimp only; omega))) ?_) | refine ⟨_, rfl, ?_⟩); conv => whnf)
       exact ⟨dt (by omega), rfl⟩
      ·rw [df c7]
       conv => whnf
       repeat ((first | refine ⟨rfl, ?_⟩ | refine ⟨_, rfl, ?_⟩); conv => whnf)
       refine ⟨_, _, hi, by first | rfl | simp [noRoIf, noRoL, noRoV, noRoL_bys], ?_⟩
       conv => whnf
       repeat ((first | refine ifB_t ?_ | refine ⟨pureL_bys _, ?_⟩ | (refine Or.inl ⟨⟨rfl, ?_⟩, ?_⟩; (focus (first | rfl | (simp; done) | (rw [toksC_length]; omega)))) | refine ⟨rfl, ?_⟩ | refine ⟨_, rfl, ?_⟩); conv => whnf)
       refine ⟨_, _, hu, by first | rfl | simp [noRoIf, noRoL, noRoV, noRoL_bys], ?_⟩
       conv => whnf
       repeat ((first | refine ifB_t ?_ | refine ifB_f ?_ | (refine ifB_neg (decide_eq_false (by first | omega | rfl | (dsimp only; omega))) ?_) | (refine ifB_pos (decide_eq_true (by first | omega | rfl | (dsimp only; omega))) ?_) | refine ⟨_, rfl, ?_⟩); conv => whnf)
       exact ⟨df (by omega), rfl⟩
     ·rw [df c6]
      conv => whnf
      repeat ((first | refine ⟨rfl, ?_⟩ | refine ⟨_, rfl, ?_⟩); conv => whnf)
      refine ⟨_, _, hi, by first | rfl | simp [noRoIf, noRoL, noRoV, noRoL_bys], ?_⟩
      conv => whnf
      repeat ((first | refine ifB_t ?_ | refine ⟨pureL_bys _, ?_⟩ | (refine Or.inl ⟨⟨rfl, ?_⟩, ?_⟩; (focus (first | rfl | (simp; done) | (rw [toksC_length]; omega)))) | refine ⟨rfl, ?_⟩ | refine ⟨_, rfl, ?_⟩); conv => whnf)
      refine ⟨_, _, hu, by first | rfl | simp [noRoIf, noRoL, noRoV, noRoL_bys], ?_⟩
      conv => whnf
      repeat ((first | refine ifB_t ?_ | refine ifB_f ?_ | (refine ifB_neg (decide_eq_false (by first | omega | rfl | (dsimp only; omega))) ?_) | refine ⟨rfl, ?_⟩ | refine ⟨_, rfl, ?_⟩); conv => whnf)
      rfl
  ·rw [df c2]
   rw [df (show ¬ ((1 : Int) ≤ e.key.length ∧ (e.key.length : Int) ≤ 16) by omega)] at hi
   conv => whnf
   repeat ((first | refine ⟨rfl, ?_⟩ | refine ⟨_, rfl, ?_⟩); conv => whnf)
   refine ⟨_, _, hi, by first | rfl | simp [noRoIf, noRoL, noRoV, noRoL_bys], ?_⟩
   conv => whnf
   repeat ((first | refine ifB_f ?_ | refine ⟨rfl, ?_⟩); conv => whnf)
   rfl
 ·rw [df c1]
  rw [df (show ¬ ((1 : Int) ≤ e.key.length ∧ (e.key.length : Int) ≤ 16) by omega)] at hi
  conv => whnf
  repeat ((first | refine ⟨rfl, ?_⟩ | refine ⟨_, rfl, ?_⟩); conv => whnf)
  refine ⟨_, _, hi, by first | rfl | simp [noRoIf, noRoL, noRoV, noRoL_bys], ?_⟩
  conv => whnf
  repeat ((first | refine ifB_f ?_ | refine ⟨rfl, ?_⟩); conv => whnf)
  rfl
theorem refentry_ok (e : Ent) (he : EntS e) : ACall Tryz.prog 15 [.agg (entC e)] (.bool (entR e)) [] := by
 have ho := refop_ok e he
 have hi := in_ok e.seq 1 200
 unfold entR
 refine ACall.of_does TTok Tryz.func15 rfl Tryz.call15 rfl (wpc_sound (M := MF) (PL := PL0) (CU := noCut) TTok mixed _ _ _ ?_)
 by_cases c1 : 1 ≤ e.seq ∧ e.seq ≤ 200
 ·rw [dt c1.1, dt c1.2]
  rw [dt c1] at hi
  by_cases c3 : e.seq = 1
  ·rw [df (show ¬ e.seq ≠ 1 by omega)]
   by_cases c4 : e.prev = z32
   ·rw [dt c4]
    by_cases c5 : 0 ≤ e.stamp
    ·rw [dt c5]
     conv => whnf
     repeat ((first | refine ⟨rfl, ?_⟩ | refine ⟨_, rfl, ?_⟩); conv => whnf)
     refine ⟨_, _, hi, by first | rfl | simp [noRoIf, noRoL, noRoV, noRoL_bys], ?_⟩
     conv => whnf
     repeat ((first | refine ifB_t ?_ | refine ifB_f ?_ | (refine ifB_neg (decide_eq_false (by first | omega | rfl | (dsimp only; omega))) ?_) | refine ⟨_, rfl, ?_⟩); conv => whnf)
     refine ⟨e.prev, z32, ⟨rfl, c32_map he.prev.2, rfl, he.prev.2, rfl⟩, ?_⟩
     conv => whnf
     repeat ((first | refine ifB_t ?_ | refine ifB_f ?_ | (refine ifB_pos (decide_eq_true (by first | omega | rfl | (dsimp only; omega))) ?_) | refine ⟨entC_pure _, ?_⟩ | refine ⟨rfl, ?_⟩ | refine ⟨_, rfl, ?_⟩); conv => whnf)
     rw [dt c4]
     conv => whnf
     cases c6 : opR e <;> rw [c6] at ho
     ·refine ⟨_, _, ho, by first | rfl | simp [noRoIf, noRoL, noRoV, noRoL_bys], ?_⟩
      conv => whnf
      repeat ((first | refine ifB_t ?_ | refine ⟨rfl, ?_⟩); conv => whnf)
      rfl
     ·refine ⟨_, _, ho, by first | rfl | simp [noRoIf, noRoL, noRoV, noRoL_bys], ?_⟩
      conv => whnf
      repeat ((first | refine ifB_t ?_ | refine ⟨rfl, ?_⟩); conv => whnf)
      rfl
    ·rw [df c5]
     conv => whnf
     repeat ((first | refine ⟨rfl, ?_⟩ | refine ⟨_, rfl, ?_⟩); conv => whnf)
     refine ⟨_, _, hi, by first | rfl | simp [noRoIf, noRoL, noRoV, noRoL_bys], ?_⟩
     conv => whnf
     repeat ((first | refine ifB_t ?_ | refine ifB_f ?_ | (refine ifB_neg (decide_eq_false (by first | omega | rfl | (dsimp only; omega))) ?_) | refine ⟨_, rfl, ?_⟩); conv => whnf)
     refine ⟨e.prev, z32, ⟨rfl, c32_map he.prev.2, rfl, he.prev.2, rfl⟩, ?_⟩
     conv => whnf
     repeat ((first | refine ifB_t ?_ | refine ifB_f ?_ | (refine ifB_neg (decide_eq_false (by first | omega | rfl | (dsimp only; omega))) ?_) | (refine ifB_pos (decide_eq_true (by first | omega | rfl | (dsimp only; omega))) ?_) | refine ⟨rfl, ?_⟩ | refine ⟨_, rfl, ?_⟩); conv => whnf)
     rfl
   ·rw [df c4]
    conv => whnf
    repeat ((first | refine ⟨rfl, ?_⟩ | refine ⟨_, rfl, ?_⟩); conv => whnf)
    refine ⟨_, _, hi, by first | rfl | simp [noRoIf, noRoL, noRoV, noRoL_bys], ?_⟩
    conv => whnf
    repeat ((first | refine ifB_t ?_ | refine ifB_f ?_ | (refine ifB_neg (decide_eq_false (by first | omega | rfl | (dsimp only; omega))) ?_) | refine ⟨_, rfl, ?_⟩); conv => whnf)
    refine ⟨e.prev, z32, ⟨rfl, c32_map he.prev.2, rfl, he.prev.2, rfl⟩, ?_⟩
    conv => whnf
    repeat ((first | refine ifB_t ?_ | refine ifB_f ?_ | (refine ifB_neg (decide_eq_false (by first | omega | rfl | (dsimp only; omega))) ?_) | refine ⟨rfl, ?_⟩); conv => whnf)
    rfl
  ·rw [dt (show e.seq ≠ 1 from c3)]
   by_cases c5 : 0 ≤ e.stamp
   ·rw [dt c5]
    conv => whnf
    repeat ((first | refine ⟨rfl, ?_⟩ | refine ⟨_, rfl, ?_⟩); conv => whnf)
    refine ⟨_, _, hi, by first | rfl | simp [noRoIf, noRoL, noRoV, noRoL_bys], ?_⟩
    conv => whnf
    repeat ((first | refine ifB_t ?_ | (refine ifB_pos (decide_eq_true (by first | omega | rfl | (dsimp only; omega))) ?_) | refine ⟨entC_pure _, ?_⟩ | refine ⟨rfl, ?_⟩ | refine ⟨_, rfl, ?_⟩); conv => whnf)
    cases c6 : opR e <;> rw [c6] at ho
    ·refine ⟨_, _, ho, by first | rfl | simp [noRoIf, noRoL, noRoV, noRoL_bys], ?_⟩
     conv => whnf
     repeat ((first | refine ifB_t ?_ | refine ⟨rfl, ?_⟩); conv => whnf)
     rfl
    ·refine ⟨_, _, ho, by first | rfl | simp [noRoIf, noRoL, noRoV, noRoL_bys], ?_⟩
     conv => whnf
     repeat ((first | refine ifB_t ?_ | refine ⟨rfl, ?_⟩); conv => whnf)
     rfl
   ·rw [df c5]
    conv => whnf
    repeat ((first | refine ⟨rfl, ?_⟩ | refine ⟨_, rfl, ?_⟩); conv => whnf)
    refine ⟨_, _, hi, by first | rfl | simp [noRoIf, noRoL, noRoV, noRoL_bys], ?_⟩
    conv => whnf
    repeat ((first | refine ifB_t ?_ | refine ifB_f ?_ | (refine ifB_neg (decide_eq_false (by first | omega | rfl | (dsimp only; omega))) ?_) | (refine ifB_pos (decide_eq_true (by first | omega | rfl | (dsimp only; omega))) ?_) | refine ⟨rfl, ?_⟩ | refine ⟨_, rfl, ?_⟩); conv => whnf)
    rfl
 ·have : (decide (1 ≤ e.seq) && decide (e.seq ≤ 200)) = false := by
   rw [Bool.and_eq_false_iff]
   by_cases h : 1 ≤ e.seq
   ·exact .inr (df (fun k => c1 ⟨h, k⟩))
   ·exact .inl (df h)
  rw [this]
  rw [df c1] at hi
  conv => whnf
  repeat ((first | refine ⟨rfl, ?_⟩ | refine ⟨_, rfl, ?_⟩); conv => whnf)
  refine ⟨_, _, hi, by first | rfl | simp [noRoIf, noRoL, noRoV, noRoL_bys], ?_⟩
  conv => whnf
  repeat ((first | refine ifB_f ?_ | refine ⟨rfl, ?_⟩); conv => whnf)
  rfl
end
section
--KR
attribute [local irreducible] ifB fitP Does Weaker
def sixT (e : Ent) : List Tok := [⟨1, 1, []⟩, ⟨3, 0, e.au⟩, ⟨1, e.seq, []⟩, ⟨3, 0, e.prev⟩, ⟨1, e.stamp, []⟩, ⟨5, 3, []⟩, ⟨1, e.kind, []⟩, ⟨4, 0, e.key⟩, ⟨3, 0, e.val⟩]
def sixV (e : Ent) (v : AV) : List AV := toksC [⟨1, 1, []⟩, ⟨3, 0, e.au⟩, ⟨1, e.seq, []⟩, ⟨3, 0, e.prev⟩, ⟨1, e.stamp, []⟩, ⟨5, 3, []⟩, ⟨1, e.kind, []⟩] ++ ([.int .i64 4, .int .i64 0, v] ++ toksC [⟨3, 0, e.val⟩])
theorem sixV_eq (e : Ent) : sixV e (roW e.key) = toksC (sixT e) := by rw [roW_eq]; rfl
def PLsix : Nat → Bool × Plan := plans [(1, (false, (takesTo [1, 2, 4, 5, 7, 8, 10, 11, 14, 15, 16, 18, 19, 20, 23, 24, 25] (.all [(0, (.all [(3, (.all [(6, (.all [(9, (.all [(12, (.all [(13, (.all [(17, (.all [(21, (takesTo [22] (.all [(26, (.all [(27, (takes [28]))]))]))), (26, (.all [(21, (takesTo [22] (.all [(27, (takes [28]))])))]))])), (21, (takesTo [22] (.all [(17, (.all [(26, (.all [(27, (takes [28]))]))]))])))])), (21, (takesTo [22] (.all [(13, (.all [(17, (.all [(26, (.all [(27, (takes [28]))]))]))]))])))])), (21, (takesTo [22] (.all [(12, (.all [(13, (.all [(17, (.all [(26, (.all [(27, (takes [28]))]))]))]))]))])))])), (21, (takesTo [22] (.all [(9, (.all [(12, (.all [(13, (.all [(17, (.all [(26, (.all [(27, (takes [28]))]))]))]))]))]))])))])), (21, (takesTo [22] (.all [(6, (.all [(9, (.all [(12, (.all [(13, (.all [(17, (.all [(26, (.all [(27, (takes [28]))]))]))]))]))]))]))])))])), (21, (takesTo [22] (.all [(3, (.all [(6, (.all [(9, (.all [(12, (.all [(13, (.all [(17, (.all [(26, (.all [(27, (takes [28]))]))]))]))]))]))]))]))])))])), (21, (takesTo [22] (.all [(0, (.all [(3, (.all [(6, (.all [(9, (.all [(12, (.all [(13, (.all [(17, (.all [(26, (.all [(27, (takes [28]))]))]))]))]))]))]))]))]))])))]))))]
set_option maxRecDepth 20000 in
set_option maxHeartbeats 20000000 in
theorem six_ok (e : Ent) (he : EntS e) : ACall Tryz.prog 68 [.agg (entC e)] (.own 9 3 (toksC (sixT e))) [] := by
 have hk := he.key'
 refine ACall.of_does TTok Tryz.func68 rfl Tryz.call68 rfl (wpc_sound (M := MF) (PL := PLsix) (CU := cutAt [100001, 99999]) TTok mixed _ _ _ ?_)
 conv => whnf
 repeat ((refine ⟨rfl, ?_⟩); conv => whnf)
 refine Does.freeze 0 rfl (Does.tidy [(1, .rop (entC e))] [] 1 31 rfl rfl rfl (by kernel_rfl) (by kernel_rfl) ?_)
 refine wpc_sound (M := MF) (PL := PLsix) (CU := noCut) TTok mixed _ _ _ ?_
 conv => whnf
 refine ⟨by kernel_rfl, ?_⟩
 conv => whnf
 repeat ((first | (refine ⟨⟨by first | (simp only [List.drop_zero, List.length_drop, hds_len]; omega) | exact Nat.le_of_ble_eq_true (by kernel_rfl), okB_none _⟩, ?_⟩) | refine ⟨rfl, ?_⟩ | refine ⟨_, rfl, ?_⟩); conv => whnf)
 refine ⟨?_, ?_⟩
 ·conv => whnf
  repeat ((refine ⟨rfl, ?_⟩); conv => whnf)
  refine ⟨_, _, refnum_ok 1, by first | rfl | simp [noRoIf, noRoL, noRoV, noRoL_bys], ?_⟩
  conv => whnf
  refine ⟨?_, ?_⟩
  ·conv => whnf
   repeat ((refine ⟨rfl, ?_⟩); conv => whnf)
   refine ⟨_, _, (refbytes_ok e.au).arg1 he.au.2.symm (cut32 he.au.2 _), by first | rfl | simp [noRoIf, noRoL, noRoV, noRoL_bys], ?_⟩
   conv => whnf
   refine ⟨?_, ?_⟩
   ·conv => whnf
    repeat ((refine ⟨rfl, ?_⟩); conv => whnf)
    refine ⟨_, _, refnum_ok e.seq, by first | rfl | simp [noRoIf, noRoL, noRoV, noRoL_bys], ?_⟩
    conv => whnf
    refine ⟨?_, ?_⟩
    ·conv => whnf
     repeat ((refine ⟨rfl, ?_⟩); conv => whnf)
     refine ⟨_, _, (refbytes_ok e.prev).arg1 he.prev.2.symm (cut32 he.prev.2 _), by first | rfl | simp [noRoIf, noRoL, noRoV, noRoL_bys], ?_⟩
     conv => whnf
     refine ⟨?_, ?_⟩
     ·conv => whnf
      repeat ((refine ⟨rfl, ?_⟩); conv => whnf)
      refine ⟨_, _, refnum_ok e.stamp, by first | rfl | simp [noRoIf, noRoL, noRoV, noRoL_bys], ?_⟩
      conv => whnf
      refine ⟨?_, ?_⟩
      ·conv => whnf
       repeat ((refine ⟨rfl, ?_⟩); conv => whnf)
       refine ⟨_, _, refarray_ok 3, by first | rfl | simp [noRoIf, noRoL, noRoV, noRoL_bys], ?_⟩
       conv => whnf
       refine ⟨?_, ?_⟩
       ·conv => whnf
        repeat ((refine ⟨rfl, ?_⟩); conv => whnf)
        refine ⟨_, _, refnum_ok e.kind, by first | rfl | simp [noRoIf, noRoL, noRoV, noRoL_bys], ?_⟩
        conv => whnf
        refine ⟨?_, ?_⟩
        ·conv => whnf
         repeat ((first | refine ⟨pureL_bys _, ?_⟩ | refine ⟨rfl, ?_⟩); conv => whnf)
         conv => whnf
         refine ⟨_, _, refbytes_ok e.val, by first | rfl | simp [noRoIf, noRoL, noRoV, noRoL_bys], ?_⟩
         conv => whnf
         repeat ((refine ⟨⟨rfl, rfl⟩, ?_⟩); conv => whnf)
         conv => whnf
         refine Does.freeze 1 rfl (wpc_sound (M := MF) (PL := PL0) (CU := noCut) TTok mixed _ _ _ ?_)
         conv => whnf
         exact ⟨⟨rfl, rfl, Eq.trans (b := sixV e (roW e.key)) (by kernel_rfl) (sixV_eq e), rfl, pureL_toks (sixT e)⟩, rfl⟩
        ·conv => whnf
         repeat ((first | refine ⟨pureL_bys _, ?_⟩ | refine ⟨rfl, ?_⟩); conv => whnf)
         refine ⟨_, _, refbytes_ok e.val, by first | rfl | simp [noRoIf, noRoL, noRoV, noRoL_bys], ?_⟩
         conv => whnf
         repeat ((refine ⟨⟨rfl, rfl⟩, ?_⟩); conv => whnf)
         conv => whnf
         conv => whnf
         refine Does.freeze 1 rfl (wpc_sound (M := MF) (PL := PL0) (CU := noCut) TTok mixed _ _ _ ?_)
         conv => whnf
         exact ⟨⟨rfl, rfl, Eq.trans (b := sixV e (roW e.key)) (by kernel_rfl) (sixV_eq e), rfl, pureL_toks (sixT e)⟩, rfl⟩
       ·conv => whnf
        repeat ((refine ⟨rfl, ?_⟩); conv => whnf)
        conv => whnf
        refine ⟨_, _, refnum_ok e.kind, by first | rfl | simp [noRoIf, noRoL, noRoV, noRoL_bys], ?_⟩
        conv => whnf
        repeat ((first | refine ⟨pureL_bys _, ?_⟩ | refine ⟨rfl, ?_⟩); conv => whnf)
        refine ⟨_, _, refbytes_ok e.val, by first | rfl | simp [noRoIf, noRoL, noRoV, noRoL_bys], ?_⟩
        conv => whnf
        repeat ((refine ⟨⟨rfl, rfl⟩, ?_⟩); conv => whnf)
        conv => whnf
        refine Does.freeze 1 rfl (wpc_sound (M := MF) (PL := PL0) (CU := noCut) TTok mixed _ _ _ ?_)
        conv => whnf
        exact ⟨⟨rfl, rfl, Eq.trans (b := sixV e (roW e.key)) (by kernel_rfl) (sixV_eq e), rfl, pureL_toks (sixT e)⟩, rfl⟩
      ·conv => whnf
       repeat ((refine ⟨rfl, ?_⟩); conv => whnf)
       conv => whnf
       refine ⟨_, _, refarray_ok 3, by first | rfl | simp [noRoIf, noRoL, noRoV, noRoL_bys], ?_⟩
       conv => whnf
       repeat ((refine ⟨rfl, ?_⟩); conv => whnf)
       refine ⟨_, _, refnum_ok e.kind, by first | rfl | simp [noRoIf, noRoL, noRoV, noRoL_bys], ?_⟩
       conv => whnf
       repeat ((first | refine ⟨pureL_bys _, ?_⟩ | refine ⟨rfl, ?_⟩); conv => whnf)
       refine ⟨_, _, refbytes_ok e.val, by first | rfl | simp [noRoIf, noRoL, noRoV, noRoL_bys], ?_⟩
       conv => whnf
       repeat ((refine ⟨⟨rfl, rfl⟩, ?_⟩); conv => whnf)
       conv => whnf
       refine Does.freeze 1 rfl (wpc_sound (M := MF) (PL := PL0) (CU := noCut) TTok mixed _ _ _ ?_)
       conv => whnf
       exact ⟨⟨rfl, rfl, Eq.trans (b := sixV e (roW e.key)) (by kernel_rfl) (sixV_eq e), rfl, pureL_toks (sixT e)⟩, rfl⟩
     ·conv => whnf
      repeat ((refine ⟨rfl, ?_⟩); conv => whnf)
      conv => whnf
      refine ⟨_, _, refnum_ok e.stamp, by first | rfl | simp [noRoIf, noRoL, noRoV, noRoL_bys], ?_⟩
      conv => whnf
      repeat ((refine ⟨rfl, ?_⟩); conv => whnf)
      refine ⟨_, _, refarray_ok 3, by first | rfl | simp [noRoIf, noRoL, noRoV, noRoL_bys], ?_⟩
      conv => whnf
      repeat ((refine ⟨rfl, ?_⟩); conv => whnf)
      refine ⟨_, _, refnum_ok e.kind, by first | rfl | simp [noRoIf, noRoL, noRoV, noRoL_bys], ?_⟩
      conv => whnf
      repeat ((first | refine ⟨pureL_bys _, ?_⟩ | refine ⟨rfl, ?_⟩); conv => whnf)
      refine ⟨_, _, refbytes_ok e.val, by first | rfl | simp [noRoIf, noRoL, noRoV, noRoL_bys], ?_⟩
      conv => whnf
      repeat ((refine ⟨⟨rfl, rfl⟩, ?_⟩); conv => whnf)
      conv => whnf
      refine Does.freeze 1 rfl (wpc_sound (M := MF) (PL := PL0) (CU := noCut) TTok mixed _ _ _ ?_)
      conv => whnf
      exact ⟨⟨rfl, rfl, Eq.trans (b := sixV e (roW e.key)) (by kernel_rfl) (sixV_eq e), rfl, pureL_toks (sixT e)⟩, rfl⟩
    ·conv => whnf
     repeat ((refine ⟨rfl, ?_⟩); conv => whnf)
     conv => whnf
     refine ⟨_, _, (refbytes_ok e.prev).arg1 he.prev.2.symm (cut32 he.prev.2 _), by first | rfl | simp [noRoIf, noRoL, noRoV, noRoL_bys], ?_⟩
     conv => whnf
     repeat ((refine ⟨rfl, ?_⟩); conv => whnf)
     refine ⟨_, _, refnum_ok e.stamp, by first | rfl | simp [noRoIf, noRoL, noRoV, noRoL_bys], ?_⟩
     conv => whnf
     repeat ((refine ⟨rfl, ?_⟩); conv => whnf)
     refine ⟨_, _, refarray_ok 3, by first | rfl | simp [noRoIf, noRoL, noRoV, noRoL_bys], ?_⟩
     conv => whnf
     repeat ((refine ⟨rfl, ?_⟩); conv => whnf)
     refine ⟨_, _, refnum_ok e.kind, by first | rfl | simp [noRoIf, noRoL, noRoV, noRoL_bys], ?_⟩
     conv => whnf
     repeat ((first | refine ⟨pureL_bys _, ?_⟩ | refine ⟨rfl, ?_⟩); conv => whnf)
     refine ⟨_, _, refbytes_ok e.val, by first | rfl | simp [noRoIf, noRoL, noRoV, noRoL_bys], ?_⟩
     conv => whnf
     repeat ((refine ⟨⟨rfl, rfl⟩, ?_⟩); conv => whnf)
     conv => whnf
     refine Does.freeze 1 rfl (wpc_sound (M := MF) (PL := PL0) (CU := noCut) TTok mixed _ _ _ ?_)
     conv => whnf
     exact ⟨⟨rfl, rfl, Eq.trans (b := sixV e (roW e.key)) (by kernel_rfl) (sixV_eq e), rfl, pureL_toks (sixT e)⟩, rfl⟩
   ·conv => whnf
    repeat ((refine ⟨rfl, ?_⟩); conv => whnf)
    conv => whnf
    refine ⟨_, _, refnum_ok e.seq, by first | rfl | simp [noRoIf, noRoL, noRoV, noRoL_bys], ?_⟩
    conv => whnf
    repeat ((refine ⟨rfl, ?_⟩); conv => whnf)
    refine ⟨_, _, (refbytes_ok e.prev).arg1 he.prev.2.symm (cut32 he.prev.2 _), by first | rfl | simp [noRoIf, noRoL, noRoV, noRoL_bys], ?_⟩
    conv => whnf
    repeat ((refine ⟨rfl, ?_⟩); conv => whnf)
    refine ⟨_, _, refnum_ok e.stamp, by first | rfl | simp [noRoIf, noRoL, noRoV, noRoL_bys], ?_⟩
    conv => whnf
    repeat ((refine ⟨rfl, ?_⟩); conv => whnf)
    refine ⟨_, _, refarray_ok 3, by first | rfl | simp [noRoIf, noRoL, noRoV, noRoL_bys], ?_⟩
    conv => whnf
    repeat ((refine ⟨rfl, ?_⟩); conv => whnf)
    refine ⟨_, _, refnum_ok e.kind, by first | rfl | simp [noRoIf, noRoL, noRoV, noRoL_bys], ?_⟩
    conv => whnf
    repeat ((first | refine ⟨pureL_bys _, ?_⟩ | refine ⟨rfl, ?_⟩); conv => whnf)
    refine ⟨_, _, refbytes_ok e.val, by first | rfl | simp [noRoIf, noRoL, noRoV, noRoL_bys], ?_⟩
    conv => whnf
    repeat ((refine ⟨⟨rfl, rfl⟩, ?_⟩); conv => whnf)
    conv => whnf
    refine Does.freeze 1 rfl (wpc_sound (M := MF) (PL := PL0) (CU := noCut) TTok mixed _ _ _ ?_)
    conv => whnf
    exact ⟨⟨rfl, rfl, Eq.trans (b := sixV e (roW e.key)) (by kernel_rfl) (sixV_eq e), rfl, pureL_toks (sixT e)⟩, rfl⟩
  ·conv => whnf
   repeat ((refine ⟨rfl, ?_⟩); conv => whnf)
   conv => whnf
   refine ⟨_, _, (refbytes_ok e.au).arg1 he.au.2.symm (cut32 he.au.2 _), by first | rfl | simp [noRoIf, noRoL, noRoV, noRoL_bys], ?_⟩
   conv => whnf
   repeat ((refine ⟨rfl, ?_⟩); conv => whnf)
   refine ⟨_, _, refnum_ok e.seq, by first | rfl | simp [noRoIf, noRoL, noRoV, noRoL_bys], ?_⟩
   conv => whnf
   repeat ((refine ⟨rfl, ?_⟩); conv => whnf)
   refine ⟨_, _, (refbytes_ok e.prev).arg1 he.prev.2.symm (cut32 he.prev.2 _), by first | rfl | simp [noRoIf, noRoL, noRoV, noRoL_bys], ?_⟩
   conv => whnf
   repeat ((refine ⟨rfl, ?_⟩); conv => whnf)
   refine ⟨_, _, refnum_ok e.stamp, by first | rfl | simp [noRoIf, noRoL, noRoV, noRoL_bys], ?_⟩
   conv => whnf
   repeat ((refine ⟨rfl, ?_⟩); conv => whnf)
   refine ⟨_, _, refarray_ok 3, by first | rfl | simp [noRoIf, noRoL, noRoV, noRoL_bys], ?_⟩
   conv => whnf
   repeat ((refine ⟨rfl, ?_⟩); conv => whnf)
   refine ⟨_, _, refnum_ok e.kind, by first | rfl | simp [noRoIf, noRoL, noRoV, noRoL_bys], ?_⟩
   conv => whnf
   repeat ((first | refine ⟨pureL_bys _, ?_⟩ | refine ⟨rfl, ?_⟩); conv => whnf)
   refine ⟨_, _, refbytes_ok e.val, by first | rfl | simp [noRoIf, noRoL, noRoV, noRoL_bys], ?_⟩
   conv => whnf
   repeat ((refine ⟨⟨rfl, rfl⟩, ?_⟩); conv => whnf)
   conv => whnf
   refine Does.freeze 1 rfl (wpc_sound (M := MF) (PL := PL0) (CU := noCut) TTok mixed _ _ _ ?_)
   conv => whnf
   exact ⟨⟨rfl, rfl, Eq.trans (b := sixV e (roW e.key)) (by kernel_rfl) (sixV_eq e), rfl, pureL_toks (sixT e)⟩, rfl⟩
 ·conv => whnf
  repeat ((refine ⟨rfl, ?_⟩); conv => whnf)
  conv => whnf
  refine ⟨_, _, refnum_ok 1, by first | rfl | simp [noRoIf, noRoL, noRoV, noRoL_bys], ?_⟩
  conv => whnf
  repeat ((refine ⟨rfl, ?_⟩); conv => whnf)
  refine ⟨_, _, (refbytes_ok e.au).arg1 he.au.2.symm (cut32 he.au.2 _), by first | rfl | simp [noRoIf, noRoL, noRoV, noRoL_bys], ?_⟩
  conv => whnf
  repeat ((refine ⟨rfl, ?_⟩); conv => whnf)
  refine ⟨_, _, refnum_ok e.seq, by first | rfl | simp [noRoIf, noRoL, noRoV, noRoL_bys], ?_⟩
  conv => whnf
  repeat ((refine ⟨rfl, ?_⟩); conv => whnf)
  refine ⟨_, _, (refbytes_ok e.prev).arg1 he.prev.2.symm (cut32 he.prev.2 _), by first | rfl | simp [noRoIf, noRoL, noRoV, noRoL_bys], ?_⟩
  conv => whnf
  repeat ((refine ⟨rfl, ?_⟩); conv => whnf)
  refine ⟨_, _, refnum_ok e.stamp, by first | rfl | simp [noRoIf, noRoL, noRoV, noRoL_bys], ?_⟩
  conv => whnf
  repeat ((refine ⟨rfl, ?_⟩); conv => whnf)
  refine ⟨_, _, refarray_ok 3, by first | rfl | simp [noRoIf, noRoL, noRoV, noRoL_bys], ?_⟩
  conv => whnf
  repeat ((refine ⟨rfl, ?_⟩); conv => whnf)
  refine ⟨_, _, refnum_ok e.kind, by first | rfl | simp [noRoIf, noRoL, noRoV, noRoL_bys], ?_⟩
  conv => whnf
  repeat ((first | refine ⟨pureL_bys _, ?_⟩ | refine ⟨rfl, ?_⟩); conv => whnf)
  refine ⟨_, _, refbytes_ok e.val, by first | rfl | simp [noRoIf, noRoL, noRoV, noRoL_bys], ?_⟩
  conv => whnf
  repeat ((refine ⟨⟨rfl, rfl⟩, ?_⟩); conv => whnf)
  conv => whnf
  refine Does.freeze 1 rfl (wpc_sound (M := MF) (PL := PL0) (CU := noCut) TTok mixed _ _ _ ?_)
  conv => whnf
  exact ⟨⟨rfl, rfl, Eq.trans (b := sixV e (roW e.key)) (by kernel_rfl) (sixV_eq e), rfl, pureL_toks (sixT e)⟩, rfl⟩
end
section
--KR
attribute [local irreducible] ifB fitP Does Weaker
def PLeb : Nat → Bool × Plan := plans [(1, (false, (takesTo [2] (.all [(0, (.all [(1, (.all [(3, (.all [(4, (takes [5]))]))])), (3, (.all [(1, (.all [(4, (takes [5]))]))]))]))]))))]
set_option maxRecDepth 20000 in
set_option maxHeartbeats 4000000 in
theorem refebytes_ok (e : Ent) (he : EntS e) : ACall Tryz.prog 26 [.agg (entC e)] (.own (encR validR (entTs e)).1.length 1 (bys (encR validR (entTs e)).1)) [] := by
 have ht := entTs_ok e he
 have hb := refEncode_ok (entTs e) ht.1 (fun t h => by have := ht.2 t h; omega)
 generalize encR validR (entTs e) = o at hb ⊢
 obtain ⟨o, er⟩ := o
 dsimp only at hb ⊢
 refine ACall.of_does TTok Tryz.func26 rfl Tryz.call26 rfl (wpc_sound (M := MF) (PL := PLeb) (CU := cutAt [100001]) TTok mixed _ _ _ ?_)
 conv => whnf
 repeat ((refine ⟨rfl, ?_⟩); conv => whnf)
 refine Does.freeze 0 rfl (Does.tidy [(1, .rop (entC e))] [] 1 22 rfl rfl rfl (by kernel_rfl) (by kernel_rfl) ?_)
 refine wpc_sound (M := MF) (PL := PLeb) (CU := noCut) TTok mixed _ _ _ ?_
 conv => whnf
 refine ⟨by kernel_rfl, ?_⟩
 conv => whnf
 repeat ((first | refine ⟨rfl, ?_⟩ | refine ⟨_, rfl, ?_⟩); conv => whnf)
 refine ⟨_, _, refarray_ok 7, by first | rfl | simp [noRoIf, noRoL, noRoV, noRoL_bys], ?_⟩
 conv => whnf
 refine ⟨?_, ?_⟩
 ·conv => whnf
  repeat ((first | refine ⟨entC_pure _, ?_⟩ | refine ⟨rfl, ?_⟩ | refine ⟨⟨rfl, rfl⟩, ?_⟩); conv => whnf)
  conv => whnf
  refine ⟨_, _, six_ok e he, by first | rfl | simp [noRoIf, noRoL, noRoV, noRoL_bys], ?_⟩
  conv => whnf
  conv => whnf
  refine Or.inl ⟨⟨rfl, rfl, by rw [toksC_length]; rfl⟩, ?_⟩
  conv => whnf
  repeat ((first | (refine ⟨⟨by first | (simp only [List.drop_zero, List.length_drop, hds_len]; omega) | exact Nat.le_of_ble_eq_true (by kernel_rfl), okB_none _⟩, ?_⟩) | refine ⟨rfl, ?_⟩ | (refine ⟨⟨rfl, ?_, ?_, ?_⟩, ?_⟩; (focus (first | (simp; done) | (simp; omega))); (focus (first | exact Or.inl rfl | exact Or.inr (by omega))); (focus (first | (simp [limB, lenB, offB]; done) | (simp [limB, lenB, offB]; omega))))); conv => whnf)
  refine ⟨_, _, (refbytes_ok e.sig).arg1 he.sig.2.symm (cut64 he.sig.2 _), by first | rfl | simp [noRoIf, noRoL, noRoV, noRoL_bys], ?_⟩
  conv => whnf
  repeat ((first | (refine Or.inl ⟨⟨rfl, ?_⟩, ?_⟩; (focus (first | rfl | (simp; done) | (rw [toksC_length]; omega)))) | refine ⟨rfl, ?_⟩ | refine ⟨⟨rfl, rfl⟩, ?_⟩); conv => whnf)
  refine ⟨⟨rfl, rfl, by kernel_rfl, by simp [limB]⟩, ?_⟩
  conv => whnf
  repeat ((first | (refine Or.inl ⟨⟨rfl, ?_⟩, ?_⟩; (focus (first | rfl | (simp; done) | (rw [toksC_length]; omega)))) | refine ⟨rfl, ?_⟩ | (refine And.intro ?_ ?_; (focus (simp [pureL, pureV, pureL_bys, pureL_toks, pureL_app]; done)))); conv => whnf)
  refine ⟨_, _, hb.arg1 rfl (by kernel_rfl), by first | rfl | simp [noRoIf, noRoL, noRoV, noRoL_bys], ?_⟩
  conv => whnf
  repeat ((refine ⟨⟨rfl, rfl, rfl, ?_, pureL_bys _⟩, ?_⟩; (focus (simp; done))); conv => whnf)
  rfl
 ·conv => whnf
  repeat ((first | refine ⟨entC_pure _, ?_⟩ | refine ⟨rfl, ?_⟩); conv => whnf)
  refine ⟨_, _, six_ok e he, by first | rfl | simp [noRoIf, noRoL, noRoV, noRoL_bys], ?_⟩
  conv => whnf
  repeat ((refine ⟨⟨rfl, rfl⟩, ?_⟩); conv => whnf)
  conv => whnf
  conv => whnf
  refine Or.inl ⟨⟨rfl, rfl, by rw [toksC_length]; rfl⟩, ?_⟩
  conv => whnf
  repeat ((first | (refine ⟨⟨by first | (simp only [List.drop_zero, List.length_drop, hds_len]; omega) | exact Nat.le_of_ble_eq_true (by kernel_rfl), okB_none _⟩, ?_⟩) | refine ⟨rfl, ?_⟩ | (refine ⟨⟨rfl, ?_, ?_, ?_⟩, ?_⟩; (focus (first | (simp; done) | (simp; omega))); (focus (first | exact Or.inl rfl | exact Or.inr (by omega))); (focus (first | (simp [limB, lenB, offB]; done) | (simp [limB, lenB, offB]; omega))))); conv => whnf)
  refine ⟨_, _, (refbytes_ok e.sig).arg1 he.sig.2.symm (cut64 he.sig.2 _), by first | rfl | simp [noRoIf, noRoL, noRoV, noRoL_bys], ?_⟩
  conv => whnf
  repeat ((first | (refine Or.inl ⟨⟨rfl, ?_⟩, ?_⟩; (focus (first | rfl | (simp; done) | (rw [toksC_length]; omega)))) | refine ⟨rfl, ?_⟩ | refine ⟨⟨rfl, rfl⟩, ?_⟩); conv => whnf)
  refine ⟨⟨rfl, rfl, by kernel_rfl, by simp [limB]⟩, ?_⟩
  conv => whnf
  repeat ((first | (refine Or.inl ⟨⟨rfl, ?_⟩, ?_⟩; (focus (first | rfl | (simp; done) | (rw [toksC_length]; omega)))) | refine ⟨rfl, ?_⟩ | (refine And.intro ?_ ?_; (focus (simp [pureL, pureV, pureL_bys, pureL_toks, pureL_app]; done)))); conv => whnf)
  refine ⟨_, _, hb.arg1 rfl (by kernel_rfl), by first | rfl | simp [noRoIf, noRoL, noRoV, noRoL_bys], ?_⟩
  conv => whnf
  repeat ((refine ⟨⟨rfl, rfl, rfl, ?_, pureL_bys _⟩, ?_⟩; (focus (simp; done))); conv => whnf)
  rfl
end
section
--KR
attribute [local irreducible] ifB fitP Does Weaker
end
section
--KR
attribute [local irreducible] ifB fitP Does Weaker demsP
def MF2 : FuncId → List Mode := orElse [(999999, [.bw, .bw, .bw])] MF
end
section
--KR
attribute [local irreducible] ifB fitP Does Weaker
def heavyE (e : Ent) : Bool := decide (100 < e.key.length) || decide (300 < e.val.length)
def heavyEs (l : List Ent) : Bool := decide (300 < l.length) || l.any heavyE
theorem heavyEs_no {l : List Ent} (h : heavyEs l = false) : l.length ≤ 300 ∧ ∀ e ∈ l, e.key.length ≤ 100 ∧ e.val.length ≤ 300 := by
 unfold heavyEs at h
 simp only [Bool.or_eq_false_iff, decide_eq_false_iff_not, Nat.not_lt, List.any_eq_false, heavyE, Bool.or_eq_true, decide_eq_true_eq, not_or] at h
 exact ⟨h.1, fun e he => by have := h.2 e he; omega⟩
theorem ent_key {l : List Ent} {j m : Nat} (h : j < l.length) (hm : m = 133 * j) : (List.drop 1 (List.drop 66 (List.drop m (rowsC entC l))))[0]? = some (.str l[j].key) := by
 rw [rowsC_at entC_length h hm]; rfl
theorem ent_val {l : List Ent} {j m : Nat} (h : j < l.length) (hm : m = 133 * j) : (List.drop 2 (List.drop 66 (List.drop m (rowsC entC l))))[0]? = some (.ro l[j].val.length (bys l[j].val)) := by
 rw [rowsC_at entC_length h hm]; rfl
set_option maxHeartbeats 1000000 in
theorem heavy11_ok (l : List Ent) : ACall Tryz.prog 10 [.ro l.length (rowsC entC l)] (.bool (heavyEs l)) [] := by
 refine ACall.of_does TTok Tryz.func10 rfl Tryz.call10 rfl (wpc_sound (M := MK) (PL := PL0) (CU := noCut) TTok mixed _ _ _ ?_)
 conv => whnf
 refine ifB_dec (fun c0 => ?_) (fun c0 => ?_)
 ·have : heavyEs l = true := by unfold heavyEs; rw [dt (show 300 < l.length by omega)]; rfl
  rw [this]
  conv => whnf
  repeat ((refine ⟨rfl, ?_⟩); conv => whnf)
  rfl
 have e0 : heavyEs l = l.any heavyE := by unfold heavyEs; rw [df (show ¬ 300 < l.length by omega)]; rfl
 conv => whnf
 refine Does.loop (fun c : Nat => mkSt [(0, .ro l.length (rowsC entC l)), (3, .int .i64 c)] [] 0 31)
  (fun c => c ≤ l.length ∧ (l.drop c).any heavyE = l.any heavyE) (fun c => l.length - c) ?_ 0 ⟨Nat.zero_le _, by rw [List.drop_zero]⟩ ?_
 ·rintro c ⟨hc, hx⟩
  rcases Nat.lt_or_ge c l.length with c1 | c1
  ·have gk : ∀ m, m = 133 * c → (List.drop 1 (List.drop 66 (List.drop m (rowsC entC l))))[0]? = some (.str l[c].key) := fun m hm => ent_key c1 hm
   have gv : ∀ m, m = 133 * c → (List.drop 2 (List.drop 66 (List.drop m (rowsC entC l))))[0]? = some (.ro l[c].val.length (bys l[c].val)) := fun m hm => ent_val c1 hm
   rw [List.drop_eq_getElem_cons c1, List.any_cons] at hx
   generalize l[c] = q at gk gv hx
   refine wpc_sound (M := MK) (PL := PL0) (CU := noCut) TTok mixed _ _ _ ?_
   by_cases k1 : 100 < q.key.length
   ·rw [show heavyE q = true by unfold heavyE; rw [dt k1]; rfl, Bool.true_or] at hx
    rw [e0, ← hx]
    conv => whnf
    repeat ((first | (refine ifB_pos (decide_eq_true (by first | omega | rfl | (dsimp only; omega))) ?_) | (refine ⟨⟨?_, ?_, ?_⟩, ?_⟩; (focus omega); (focus (first | omega | (simp; done) | (simp; omega))); (focus (first | (rw [prfs_len]; simp; omega) | (rw [ents_len]; simp; omega) | (rw [hds_len]; simp; omega) | (rw [lets_len]; simp; omega))))); conv => whnf)
    conv => whnf
    repeat' (first | (refine ifB_t ?_; (conv => whnf)) | (refine ifB_pos (decide_eq_true (by first | omega | rfl | (dsimp only; omega))) ?_; (conv => whnf)) | (refine ⟨rfl, ?_⟩; (conv => whnf)) | (refine ⟨_, gk _ (by simp; omega), ?_⟩; conv => whnf) | (refine ⟨_, gv _ (by simp; omega), ?_⟩; conv => whnf) | (rfl) | (refine ⟨_, rfl, ?_⟩; conv => whnf) | (refine And.intro ?_ ?_ <;> conv => whnf))
   ·by_cases k2 : 300 < q.val.length
    ·rw [show heavyE q = true by unfold heavyE; rw [dt k2, Bool.or_true], Bool.true_or] at hx
     rw [e0, ← hx]
     conv => whnf
     repeat ((first | (refine ifB_pos (decide_eq_true (by first | omega | rfl | (dsimp only; omega))) ?_) | (refine ⟨⟨?_, ?_, ?_⟩, ?_⟩; (focus omega); (focus (first | omega | (simp; done) | (simp; omega))); (focus (first | (rw [prfs_len]; simp; omega) | (rw [ents_len]; simp; omega) | (rw [hds_len]; simp; omega) | (rw [lets_len]; simp; omega))))); conv => whnf)
     conv => whnf
     repeat' (first | (refine ifB_f ?_; (conv => whnf)) | (refine ifB_neg (decide_eq_false (by first | omega | rfl | (dsimp only; omega))) ?_; (conv => whnf)) | (refine ifB_pos (decide_eq_true (by first | omega | rfl | (dsimp only; omega))) ?_; (conv => whnf)) | (refine ⟨rfl, ?_⟩; (conv => whnf)) | (refine ⟨⟨?_, ?_, ?_⟩, ?_⟩; (focus omega); (focus (first | omega | (simp; done) | (simp; omega))); (focus (first | (rw [prfs_len]; simp; omega) | (rw [ents_len]; simp; omega) | (rw [hds_len]; simp; omega) | (rw [lets_len]; simp; omega))); (conv => whnf)) | (refine ⟨_, gk _ (by simp; omega), ?_⟩; conv => whnf) | (refine ⟨_, gv _ (by simp; omega), ?_⟩; conv => whnf) | (rfl) | (refine ⟨_, rfl, ?_⟩; conv => whnf) | (refine And.intro ?_ ?_ <;> conv => whnf))
    ·rw [show heavyE q = false by unfold heavyE; rw [df k1, df k2]; rfl, Bool.false_or] at hx
     conv => whnf
     repeat ((first | (refine ifB_pos (decide_eq_true (by first | omega | rfl | (dsimp only; omega))) ?_) | (refine ⟨⟨?_, ?_, ?_⟩, ?_⟩; (focus omega); (focus (first | omega | (simp; done) | (simp; omega))); (focus (first | (rw [prfs_len]; simp; omega) | (rw [ents_len]; simp; omega) | (rw [hds_len]; simp; omega) | (rw [lets_len]; simp; omega))))); conv => whnf)
     conv => whnf
     repeat' (first | (refine ifB_f ?_; (conv => whnf)) | (refine ifB_neg (decide_eq_false (by first | omega | rfl | (dsimp only; omega))) ?_; (conv => whnf)) | (refine fit_i64 ⟨by first | omega | rfl | (dsimp only; omega), by first | omega | rfl | (dsimp only; omega)⟩ ?_; (conv => whnf)) | (refine ⟨⟨?_, ?_, ?_⟩, ?_⟩; (focus omega); (focus (first | omega | (simp; done) | (simp; omega))); (focus (first | (rw [prfs_len]; simp; omega) | (rw [ents_len]; simp; omega) | (rw [hds_len]; simp; omega) | (rw [lets_len]; simp; omega))); (conv => whnf)) | (refine ⟨_, gk _ (by simp; omega), ?_⟩; conv => whnf) | (refine ⟨_, gv _ (by simp; omega), ?_⟩; conv => whnf) | (exact ⟨c + 1, ⟨by omega, hx⟩, by omega, weaker_of [] rfl rfl ⟨⟨rfl, rfl, ents_pure _⟩, ⟨rfl, rfl⟩, trivial⟩ trivial⟩) | (refine ⟨_, rfl, ?_⟩; conv => whnf) | (refine And.intro ?_ ?_ <;> conv => whnf))
  ·obtain rfl : c = l.length := by omega
   rw [List.drop_length] at hx
   rw [e0, ← hx]
   refine wpc_sound (M := MK) (PL := PL0) (CU := noCut) TTok mixed _ _ _ ?_
   conv => whnf
   repeat ((first | (refine ifB_neg (decide_eq_false (by first | omega | rfl | (dsimp only; omega))) ?_) | refine ⟨rfl, ?_⟩); conv => whnf)
   rfl
 ·exact weaker_of [] rfl rfl ⟨⟨rfl, rfl, ents_pure _⟩, ⟨rfl, rfl⟩, trivial⟩ trivial
end
section
--KR
attribute [local irreducible] ifB fitP Does Weaker
def MRow : FuncId → List Mode := orElse [(25, [.bw, .bw]), (10, [.bw]), (23, []), (16, []), (51, [.rd, .rd, .rd]), (56, [.rd, .rd]), (21, [.rd]), (54, [.rd]), (12, [.rd, .rd]), (52, [.rd, .rd]), (47, [.rd]), (999999, [.bw]), (13, [.rd, .rd]), (14, [.rd, .rd]), (11, [.rd]), (39, [.rd]), (17, [.rd, .rd])] MF2
theorem entV_les {o : Nat → Option Nat} {e : Ent} (h : e.val = []) : lesP o (entC e) (entV e .nil) := by
 unfold entC entV
 rw [h]
 exact c32_les ⟨⟨rfl, rfl⟩, c32_les ⟨⟨rfl, rfl⟩, ⟨rfl, rfl⟩, rfl, ⟨rfl, rfl⟩, c64_les trivial⟩⟩
theorem wake_sign {s : List Int} {e : Ent} (hv : e.val = []) {r : AV} (h : ACall Tryz.prog 51 [.int .i64 2, .agg (c32 s []), .agg (entC e)] r []) : ACall Tryz.prog 51 [.int .i64 2, .agg (c32 s []), .agg (entV e .nil)] r [] :=
 h.les (by simp [pureL, pureV, c32_pure, entV, c64_pure]) (by simp [pureL, pureV, c32_pure, entC_pure]) ⟨⟨rfl, rfl⟩, c32_les trivial, entV_les hv, trivial⟩
end
end Go.Proofs.YtbkclacjamlebaaGreatDoor.Abs
