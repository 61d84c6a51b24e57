/- Texts EY to GJ, merged. -/
import Derived.Test.YtgcmddhdnfmdnaaGreatDoorU10
set_option linter.unusedVariables false
set_option linter.unusedSimpArgs false
namespace Go.Proofs.YtgcmddhdnfmdnaaGreatDoor.Abs
open Go
section
--KR
attribute [local irreducible] ifB fitP Does Weaker demsP
set_option maxRecDepth 20000 in
set_option maxHeartbeats 2000000 in
theorem etwin_ok (e : Ent) (he : EntS e) : ACall Tryz.prog 55 [.agg (entC e)] (.agg (entC e)) [] := by
 have h := bclone_ok e.val (by have := he.val'; omega)
 refine ACall.of_does TTok Tryz.func55 rfl Tryz.call55 rfl (wpc_sound (M := ME) (PL := PL0) (CU := cutAt [100002]) TTok mixed _ _ _ ?_)
 conv => whnf
 repeat (first | (refine ifB_t ?_; conv => whnf) | (refine ifB_f ?_; conv => whnf) | (refine ifB_neg (decide_eq_false (by first | omega | rfl | (dsimp only; omega))) ?_; conv => whnf) | (refine ifB_pos (decide_eq_true (by first | omega | rfl | (dsimp only; omega))) ?_; conv => whnf) | (refine fit_i64 ⟨by first | omega | rfl | (dsimp only; omega), by first | omega | rfl | (dsimp only; omega)⟩ ?_; conv => whnf) | (refine fit_u64 ⟨by first | omega | rfl | (dsimp only; omega), by first | omega | rfl | (dsimp only; omega)⟩ ?_; conv => whnf) | (refine fit_u8 ⟨by first | omega | rfl | (dsimp only; omega), by first | omega | rfl | (dsimp only; omega)⟩ ?_; conv => whnf) | (refine ⟨pureL_bys _, ?_⟩; conv => whnf) | (refine ⟨ones_bys _, ?_⟩; conv => whnf) | (refine ⟨pureL_cutB _ _ _ _, ?_⟩; conv => whnf) | (refine ⟨(⟨by kernel_rfl, by kernel_rfl, Nat.le_of_ble_eq_true (by kernel_rfl)⟩ : AV.ones _ = true ∧ _ ∧ _), ?_⟩; conv => whnf) | (refine ⟨⟨by first | (simp only [List.drop_zero, List.length_drop, hds_len]; omega) | exact Nat.le_of_ble_eq_true (by kernel_rfl), okB_none _⟩, ?_⟩; conv => whnf) | (refine ⟨entC_pure _, ?_⟩; conv => whnf) | (refine Or.inl ⟨⟨rfl, ?_⟩, ?_⟩; (focus (first | rfl | (simp; done) | (rw [toksC_length]; omega))); conv => whnf) | (refine ⟨rfl, ?_⟩; conv => whnf) | (refine ⟨_, rfl, ?_⟩; conv => whnf) | (refine ⟨⟨rfl, rfl⟩, ?_⟩; conv => whnf) | (refine ⟨⟨rfl, rfl, rfl, ?_, pureL_bys _⟩, ?_⟩; (focus (simp; done)); conv => whnf) | (refine ⟨⟨rfl, rfl, ?_, pureL_bys _⟩, ?_⟩; (focus (simp; done)); conv => whnf) | (refine ⟨⟨rfl, rfl, rfl, ?_, pureL_toks _⟩, ?_⟩; (focus (rw [toksC_length]; omega)); conv => whnf) | (refine ⟨⟨rfl, rfl, ?_, pureL_toks _⟩, ?_⟩; (focus (rw [toksC_length]; omega)); conv => whnf) | (refine ⟨⟨rfl, rfl, ?_⟩, ?_⟩; (focus (first | assumption | exact pureL_bys _ | exact pureL_toks _)); conv => whnf) | (refine ⟨⟨rfl, rfl, ?_⟩, ?_⟩; (focus (first | exact Nat.le_of_ble_eq_true rfl | (simp; done))); conv => whnf) | (refine And.intro (by first | omega | rfl | (dsimp only; omega)) ?_; conv => whnf) | (refine ⟨⟨rfl, ?_⟩, ?_⟩; (focus (first | (simp only [okB]; omega) | (simp [okB]; omega))); conv => whnf) | (refine ⟨⟨?_, ?_, ?_⟩, ?_⟩; (focus omega); (focus (first | omega | (simp; done) | (simp; omega))); (focus (first | (simp; done) | (simp; omega) | (rw [toksC_length]; simp; omega))); conv => whnf) | (refine ⟨roLoad_ok rfl ?_, ?_⟩; (focus (simp [toksC_length]; omega)); conv => whnf) | (refine ⟨⟨?_, ?_⟩, ?_⟩; (focus (simp; done)); (focus (first | (simp only [okB]; omega) | (simp [okB]; omega))); conv => whnf) | (refine And.intro ?_ ?_; (focus (first | (simp only [pureL, pureV, pureL_bys, Bool.and_true, Bool.and_self]; done) | (simp only [pureL, pureV, pureL_bys, pureL_toks, Bool.and_true, Bool.and_self]; done))); conv => whnf) | (refine ⟨⟨rfl, rfl, ?_, ?_⟩, ?_⟩; (focus (first | (simp [lenB, offB]; done) | (simp [lenB, offB]; omega))); (focus (first | (simp [limB, lenB, offB]; done) | (simp [limB, lenB, offB]; omega))); conv => whnf) | (refine ⟨⟨rfl, ?_, ?_, ?_⟩, ?_⟩; (focus (first | (simp; done) | (simp; omega))); (focus (first | exact Or.inl rfl | exact Or.inr (by omega))); (focus (first | (simp [limB, lenB, offB]; done) | (simp [limB, lenB, offB]; omega))); conv => whnf) | (refine And.intro ?_ ?_; (focus (first | (simp [limB, lenB, offB]; done) | (simp [limB, lenB, offB]; omega))); conv => whnf) | (refine ⟨ones_toks _, ?_⟩; conv => whnf) | (refine And.intro ?_ ?_; (focus (simp [pureL, pureV, pureL_bys, pureL_toks, pureL_app]; done)); conv => whnf) | (refine fit_i64 ⟨by first | (simp; done) | (simp; omega), by first | (simp; done) | (simp; omega)⟩ ?_; conv => whnf) | (refine ifB_neg (decide_eq_false (by first | (simp; done) | (simp; omega))) ?_; conv => whnf) | (refine ifB_pos (decide_eq_true (by first | (simp; done) | (simp; omega))) ?_; conv => whnf) | (refine Or.inl ⟨⟨rfl, ?_⟩, ?_⟩; (focus (first | (simp [toksC_length]; done) | (simp [toksC_length]; omega))); conv => whnf) | (refine ⟨⟨rfl, rfl, ?_, ?_⟩, ?_⟩; (focus (first | (simp [toksC_length]; done) | (simp [toksC_length]; omega))); (focus (first | (simp [limB, lenB, offB]; done) | (simp [limB, lenB, offB]; omega))); conv => whnf) | (refine ⟨⟨rfl, ?_, ?_, ?_⟩, ?_⟩; (focus (first | (simp [toksC_length]; done) | (simp [toksC_length]; omega))); (focus (first | exact Or.inl rfl | exact Or.inr (by omega))); (focus (first | (simp [limB, lenB, offB]; done) | (simp [limB, lenB, offB]; omega))); conv => whnf) | (refine And.intro ?_ ?_; (focus (first | (simp [toksC_length]; done) | (simp [toksC_length]; omega))); conv => whnf) | (refine ⟨pureL_take (pureL_drop (pureL_bys _) _) _, ?_⟩; conv => whnf) | (refine ⟨pureL_take (pureL_drop (pureL_toks _) _) _, ?_⟩; conv => whnf) | (refine ⟨pureL_ints _, ?_⟩; conv => whnf) | (refine ⟨ones_ints _, ?_⟩; conv => whnf) | (refine ⟨ones_part (ones_ints _) _ _, ?_⟩; conv => whnf) | (refine ⟨ones_part (ones_toks _) _ _, ?_⟩; conv => whnf) | (refine ⟨ones_part (ones_bys _) _ _, ?_⟩; conv => whnf) | (refine ⟨⟨?_, ?_, ?_⟩, ?_⟩; (focus omega); (focus (first | omega | (simp; done) | (simp; omega))); (focus (first | (rw [prfs_len]; simp; omega) | (rw [ents_len]; simp; omega) | (rw [hds_len]; simp; omega) | (rw [lets_len]; simp; omega))); conv => whnf) | (refine ⟨(show pureL (rowsC _ _) = true from by first | exact prfs_pure _ | exact ents_pure _ | exact hds_pure _ | exact lets_pure _), ?_⟩; conv => whnf) | (refine ⟨(show pureL _ = true from by first | exact prfC_pure _ | exact hdC_pure _ | exact msgC_pure _ | exact letC_pure _), ?_⟩; conv => whnf))
 refine ⟨_, _, h, by first | rfl | simp [noRoIf, noRoL, noRoV, noRoL_bys], ?_⟩
 conv => whnf
 repeat (first | (refine ifB_t ?_; conv => whnf) | (refine ifB_f ?_; conv => whnf) | (refine ifB_neg (decide_eq_false (by first | omega | rfl | (dsimp only; omega))) ?_; conv => whnf) | (refine ifB_pos (decide_eq_true (by first | omega | rfl | (dsimp only; omega))) ?_; conv => whnf) | (refine fit_i64 ⟨by first | omega | rfl | (dsimp only; omega), by first | omega | rfl | (dsimp only; omega)⟩ ?_; conv => whnf) | (refine fit_u64 ⟨by first | omega | rfl | (dsimp only; omega), by first | omega | rfl | (dsimp only; omega)⟩ ?_; conv => whnf) | (refine fit_u8 ⟨by first | omega | rfl | (dsimp only; omega), by first | omega | rfl | (dsimp only; omega)⟩ ?_; conv => whnf) | (refine ⟨pureL_bys _, ?_⟩; conv => whnf) | (refine ⟨ones_bys _, ?_⟩; conv => whnf) | (refine ⟨pureL_cutB _ _ _ _, ?_⟩; conv => whnf) | (refine ⟨(⟨by kernel_rfl, by kernel_rfl, Nat.le_of_ble_eq_true (by kernel_rfl)⟩ : AV.ones _ = true ∧ _ ∧ _), ?_⟩; conv => whnf) | (refine ⟨⟨by first | (simp only [List.drop_zero, List.length_drop, hds_len]; omega) | exact Nat.le_of_ble_eq_true (by kernel_rfl), okB_none _⟩, ?_⟩; conv => whnf) | (refine ⟨entC_pure _, ?_⟩; conv => whnf) | (refine Or.inl ⟨⟨rfl, ?_⟩, ?_⟩; (focus (first | rfl | (simp; done) | (rw [toksC_length]; omega))); conv => whnf) | (refine ⟨rfl, ?_⟩; conv => whnf) | (refine ⟨_, rfl, ?_⟩; conv => whnf) | (refine ⟨⟨rfl, rfl⟩, ?_⟩; conv => whnf) | (refine ⟨⟨rfl, rfl, rfl, ?_, pureL_bys _⟩, ?_⟩; (focus (simp; done)); conv => whnf) | (refine ⟨⟨rfl, rfl, ?_, pureL_bys _⟩, ?_⟩; (focus (simp; done)); conv => whnf) | (refine ⟨⟨rfl, rfl, rfl, ?_, pureL_toks _⟩, ?_⟩; (focus (rw [toksC_length]; omega)); conv => whnf) | (refine ⟨⟨rfl, rfl, ?_, pureL_toks _⟩, ?_⟩; (focus (rw [toksC_length]; omega)); conv => whnf) | (refine ⟨⟨rfl, rfl, ?_⟩, ?_⟩; (focus (first | assumption | exact pureL_bys _ | exact pureL_toks _)); conv => whnf) | (refine ⟨⟨rfl, rfl, ?_⟩, ?_⟩; (focus (first | exact Nat.le_of_ble_eq_true rfl | (simp; done))); conv => whnf) | (refine And.intro (by first | omega | rfl | (dsimp only; omega)) ?_; conv => whnf) | (refine ⟨⟨rfl, ?_⟩, ?_⟩; (focus (first | (simp only [okB]; omega) | (simp [okB]; omega))); conv => whnf) | (refine ⟨⟨?_, ?_, ?_⟩, ?_⟩; (focus omega); (focus (first | omega | (simp; done) | (simp; omega))); (focus (first | (simp; done) | (simp; omega) | (rw [toksC_length]; simp; omega))); conv => whnf) | (refine ⟨roLoad_ok rfl ?_, ?_⟩; (focus (simp [toksC_length]; omega)); conv => whnf) | (refine ⟨⟨?_, ?_⟩, ?_⟩; (focus (simp; done)); (focus (first | (simp only [okB]; omega) | (simp [okB]; omega))); conv => whnf) | (refine And.intro ?_ ?_; (focus (first | (simp only [pureL, pureV, pureL_bys, Bool.and_true, Bool.and_self]; done) | (simp only [pureL, pureV, pureL_bys, pureL_toks, Bool.and_true, Bool.and_self]; done))); conv => whnf) | (refine ⟨⟨rfl, rfl, ?_, ?_⟩, ?_⟩; (focus (first | (simp [lenB, offB]; done) | (simp [lenB, offB]; omega))); (focus (first | (simp [limB, lenB, offB]; done) | (simp [limB, lenB, offB]; omega))); conv => whnf) | (refine ⟨⟨rfl, ?_, ?_, ?_⟩, ?_⟩; (focus (first | (simp; done) | (simp; omega))); (focus (first | exact Or.inl rfl | exact Or.inr (by omega))); (focus (first | (simp [limB, lenB, offB]; done) | (simp [limB, lenB, offB]; omega))); conv => whnf) | (refine And.intro ?_ ?_; (focus (first | (simp [limB, lenB, offB]; done) | (simp [limB, lenB, offB]; omega))); conv => whnf) | (refine ⟨ones_toks _, ?_⟩; conv => whnf) | (refine And.intro ?_ ?_; (focus (simp [pureL, pureV, pureL_bys, pureL_toks, pureL_app]; done)); conv => whnf) | (refine fit_i64 ⟨by first | (simp; done) | (simp; omega), by first | (simp; done) | (simp; omega)⟩ ?_; conv => whnf) | (refine ifB_neg (decide_eq_false (by first | (simp; done) | (simp; omega))) ?_; conv => whnf) | (refine ifB_pos (decide_eq_true (by first | (simp; done) | (simp; omega))) ?_; conv => whnf) | (refine Or.inl ⟨⟨rfl, ?_⟩, ?_⟩; (focus (first | (simp [toksC_length]; done) | (simp [toksC_length]; omega))); conv => whnf) | (refine ⟨⟨rfl, rfl, ?_, ?_⟩, ?_⟩; (focus (first | (simp [toksC_length]; done) | (simp [toksC_length]; omega))); (focus (first | (simp [limB, lenB, offB]; done) | (simp [limB, lenB, offB]; omega))); conv => whnf) | (refine ⟨⟨rfl, ?_, ?_, ?_⟩, ?_⟩; (focus (first | (simp [toksC_length]; done) | (simp [toksC_length]; omega))); (focus (first | exact Or.inl rfl | exact Or.inr (by omega))); (focus (first | (simp [limB, lenB, offB]; done) | (simp [limB, lenB, offB]; omega))); conv => whnf) | (refine And.intro ?_ ?_; (focus (first | (simp [toksC_length]; done) | (simp [toksC_length]; omega))); conv => whnf) | (refine ⟨pureL_take (pureL_drop (pureL_bys _) _) _, ?_⟩; conv => whnf) | (refine ⟨pureL_take (pureL_drop (pureL_toks _) _) _, ?_⟩; conv => whnf) | (refine ⟨pureL_ints _, ?_⟩; conv => whnf) | (refine ⟨ones_ints _, ?_⟩; conv => whnf) | (refine ⟨ones_part (ones_ints _) _ _, ?_⟩; conv => whnf) | (refine ⟨ones_part (ones_toks _) _ _, ?_⟩; conv => whnf) | (refine ⟨ones_part (ones_bys _) _ _, ?_⟩; conv => whnf) | (refine ⟨⟨?_, ?_, ?_⟩, ?_⟩; (focus omega); (focus (first | omega | (simp; done) | (simp; omega))); (focus (first | (rw [prfs_len]; simp; omega) | (rw [ents_len]; simp; omega) | (rw [hds_len]; simp; omega) | (rw [lets_len]; simp; omega))); conv => whnf) | (refine ⟨(show pureL (rowsC _ _) = true from by first | exact prfs_pure _ | exact ents_pure _ | exact hds_pure _ | exact lets_pure _), ?_⟩; conv => whnf) | (refine ⟨(show pureL _ = true from by first | exact prfC_pure _ | exact hdC_pure _ | exact msgC_pure _ | exact letC_pure _), ?_⟩; conv => whnf))
 refine Does.freeze 2 rfl (Does.tidy [(1, .ptr 0 0), (2, .ptr 1 0)] [(0, entC e), (1, zeroE)] 3 10 rfl rfl rfl (by kernel_rfl) (by rw [← entV_val]; kernel_rfl) ?_)
 refine wpc_sound (M := ME) (PL := PL0) (CU := noCut) TTok mixed _ _ _ ?_
 conv => whnf
 refine ⟨entC e, by kernel_rfl, ?_⟩
 conv => whnf
 refine ⟨(⟨by kernel_rfl, by kernel_rfl, Nat.le_of_ble_eq_true (by kernel_rfl)⟩ : AV.ones _ = true ∧ _ ∧ _), ?_⟩
 conv => whnf
 refine ⟨entC e, by kernel_rfl, ?_⟩
 conv => whnf
 refine ent_dems1 (by kernel_rfl) ?_
 rfl
end
section

theorem Weaker.trunc {k : Nat} {st : St} {id : Nat} {cs : List AV} (m : Nat) (h : st.heap id = some cs) : Weaker k st { st with heap := setH st.heap id (some (cs.take m)) } := by
 intro Z E a S
 have hs : (setH st.heap id (some (cs.take m))) id = some (cs.take m) := by simp [setH]
 have hn : ∀ i, i ≠ id → (setH st.heap id (some (cs.take m))) i = st.heap i := fun i hi => by
  have : Nat.beq i id = false := by
   cases hb : Nat.beq i id
   ·rfl
   ·exact (hi (Nat.eq_of_beq_eq_true hb)).elim
  simp [setH, this]
 have hk : ∀ i, (setH st.heap id (some (cs.take m))) i ≠ none → st.heap i ≠ none := fun i hi => by
  by_cases e : i = id
  ·subst e; rw [h]; simp
  ·rwa [hn i e] at hi
 have hw : ∀ b, Wr E.ρ (setH st.heap id (some (cs.take m))) b ↔ Wr E.ρ st.heap b := fun b => by
  constructor
  ·rintro ⟨i, ys, h1, h2⟩
   cases hq : st.heap i with
   | none => exact (hk i (by rw [h1]; simp) hq).elim
   | some zs => exact ⟨i, zs, hq, h2⟩
  ·rintro ⟨i, ys, h1, h2⟩
   by_cases e : i = id
   ·subst e; exact ⟨i, _, hs, h2⟩
   ·exact ⟨i, ys, by rw [hn i e]; exact h1, h2⟩
 refine ⟨E, ⟨S.env, S.sz, S.dfr, ?_⟩, rfl, ⟨rfl, Evo.refl _ _, fun b _ hb => (hw b).1 hb, fun _ _ _ h => h⟩⟩
 exact {
  blk := fun i ys hi => by
   dsimp only at hi
   by_cases e : i = id
   ·subst e
    rw [hs] at hi
    cases hi
    rcases S.heap.blk i cs h with ⟨b1, rfl⟩ | ⟨n, b1, c, e, fr, b2, b3, b4, b5⟩
    ·exact .inl ⟨b1, by simp⟩
    ·refine .inr ⟨n, b1, c, e, fr, b2, b3, by simp only [List.length_take]; omega, fun j x hx => ?_⟩
     refine b5 j x ?_
     rw [List.getElem?_take] at hx
     split at hx
     ·exact hx
     ·cases hx
   ·rw [hn i e] at hi
    exact S.heap.blk i ys hi
  inj := fun i i' n h1 h2 h3 h4 => S.heap.inj i i' n (hk i h1) (hk i' h2) h3 h4
  V := fun b => (S.heap.V b).trans (or_congr Iff.rfl (hw b).symm)
  apart := fun i n h1 h2 => S.heap.apart i n (hk i h1) h2
  fresh := fun i hi => by
   have f := S.heap.fresh i hi
   refine ⟨f.1, ?_⟩
   have e : i ≠ id := fun e => by subst e; rw [h] at f; cases f.2
   show (setH st.heap id (some (cs.take m))) i = none
   rw [hn i e]; exact f.2
  one := S.heap.one
  old := S.heap.old
  zold := S.heap.zold
  tab := S.heap.tab }
end
section

attribute [local irreducible] ifB fitP Does Weaker
def u32s (l : List Int) : List AV := l.map (AV.int .u32)
theorem u32s_length (l : List Int) : (u32s l).length = l.length := by simp [u32s]
theorem u32s_ones : ∀ l : List Int, (u32s l).all AV.one = true
 | [] => rfl
 | x :: l => u32s_ones l
theorem u32s_pure : ∀ l : List Int, pureL (u32s l) = true
 | [] => rfl
 | x :: l => by simp only [u32s, List.map_cons, pureL, pureV, Bool.true_and]; exact u32s_pure l
theorem u32s_get {l : List Int} {i m : Nat} (h : i < l.length) (hm : m = i) : ((u32s l).drop m)[0]? = some (.int .u32 (l.getD i 0)) := by
 subst hm
 simp [u32s, h, List.getD]
theorem u32s_set (l : List Int) (i : Nat) (x : Int) : setN (u32s l) i [.int .u32 x] = u32s (l.set i x) := by
 simp [setN, u32s, List.map_set]
theorem and_mask64 (x : Int) (m : Nat) (hm : m < 9223372036854775808) : ∃ r : Nat, bits .and .u64 x m = r ∧ r ≤ m := by
 let q : Nat := (BitVec.ofInt 64 x &&& BitVec.ofInt 64 m).toNat
 have hq : q ≤ m := by
  have e : (BitVec.ofInt 64 (m : Int)).toNat = m := by simp; omega
  simp only [q, BitVec.toNat_and]
  exact Nat.le_trans Nat.and_le_right (by omega)
 refine ⟨q, ?_, hq⟩
 show IntKind.u64.wrap (q : Int) = q
 rw [wrap_u64]
 omega
theorem get_bys2 {l : List Int} {c m : Nat} (h : c < l.length) (hm : m = c) : ((bys l).drop m)[0]? = some (.int .u8 l[c]) := by
 subst hm; exact get_bys h
theorem u32s_les {o : Nat → Option Nat} : ∀ {l : List Int} {xs : List AV}, xs = u32s l → lesP o (u32s l) xs
 | [], _, h => by subst h; trivial
 | x :: l, _, h => by subst h; exact ⟨⟨rfl, rfl⟩, u32s_les rfl⟩
theorem lesP_refl_u {o : Nat → Option Nat} (l : List Int) : lesP o (u32s l) (u32s l) := u32s_les rfl
def rotS (k : Int) : Int := bits .and .u64 (IntKind.u64.wrap k) 31
def rotE (x k : Int) : Int := bits .or .u32 (IntKind.u32.wrap (x * 2 ^ min (rotS k).toNat 32)) (x / 2 ^ min (32 - rotS k).toNat 32)
theorem rot_ok (x k : Int) : ACall Tryz.prog 119 [.int .u32 x, .int .i64 k] (.int .u32 (rotE x k)) [] := by
 refine ACall.of_does TTok Tryz.func119 rfl Tryz.call119 rfl (wpc_sound (M := ME) (PL := PL0) (CU := noCut) TTok mixed _ _ _ ?_)
 obtain ⟨r, hr, hr2⟩ := and_mask64 (IntKind.u64.wrap k) 31 (by omega)
 have hr' : rotS k = r := hr
 have hq : bits .and .u64 (IntKind.u64.wrap k) 31 = r := hr
 unfold rotE
 rw [hr']
 conv => whnf
 refine fit_wrap ?_
 conv => whnf
 repeat ((refine And.intro (by first | omega | rfl | (dsimp only; omega)) ?_); conv => whnf)
 rw [hq]
 conv => whnf
 refine fit_wrap ?_
 conv => whnf
 repeat ((first | (refine fit_u64 ⟨by first | omega | rfl | (dsimp only; omega), by first | omega | rfl | (dsimp only; omega)⟩ ?_) | refine ⟨⟨rfl, rfl⟩, ?_⟩ | (refine And.intro (by first | omega | rfl | (dsimp only; omega)) ?_)); conv => whnf)
 rfl
def highL : Int → List Int → Int
 | x, [] => x
 | x, c :: l => highL (bits .or .u32 (IntKind.u32.wrap (x * 2 ^ 8)) (IntKind.u32.wrap c)) l
theorem high_ok (b : List Int) (hb : Byt b) (hl : b.length ≤ 1000000) : ACall Tryz.prog 147 [.ro b.length (bys b)] (.int .u32 (highL 0 b)) [] := by
 refine ACall.of_does TTok Tryz.func147 rfl Tryz.call147 rfl (wpc_sound (M := ME) (PL := PL0) (CU := noCut) TTok mixed _ _ _ ?_)
 conv => whnf
 refine Does.loop (fun g : Nat × Int => mkSt [(3, .int .u32 g.2), (6, .ro b.length (bys b)), (7, .int .i64 b.length), (8, .int .i64 g.1)] [] 0 19) (fun g => g.1 ≤ b.length ∧ highL g.2 (b.drop g.1) = highL 0 b) (fun g => b.length - g.1) ?_ (0, 0) ⟨Nat.zero_le _, rfl⟩ ?_
 ·rintro ⟨c, x⟩ ⟨hc, hx⟩
  dsimp only at hc hx ⊢
  refine wpc_sound (M := ME) (PL := PL0) (CU := noCut) TTok mixed _ _ _ ?_
  rcases Nat.lt_or_ge c b.length with c1 | c1
  ·have hv := hb _ (List.getElem_mem c1)
   conv => whnf
   repeat ((first | (refine ifB_pos (decide_eq_true (by first | omega | rfl | (dsimp only; omega))) ?_) | (refine ⟨⟨?_, ?_, ?_⟩, ?_⟩; (focus omega); (focus (first | omega | (simp; done) | (simp; omega))); (focus (first | (simp; done) | (simp; omega) | (rw [toksC_length]; simp; omega))))); conv => whnf)
   refine ⟨_, get_bys2 c1 (by simp), ?_⟩
   conv => whnf
   repeat ((refine And.intro (by first | omega | rfl | (dsimp only; omega)) ?_); conv => whnf)
   refine fit_wrap ?_
   conv => whnf
   refine fit_wrap ?_
   conv => whnf
   repeat ((refine fit_i64 ⟨by first | omega | rfl | (dsimp only; omega), by first | omega | rfl | (dsimp only; omega)⟩ ?_); conv => whnf)
   refine ⟨(c + 1, bits .or .u32 (IntKind.u32.wrap (x * 2 ^ 8)) (IntKind.u32.wrap b[c])), ⟨by dsimp only; omega, ?_⟩, by dsimp only; omega, weaker_of [] rfl rfl ⟨⟨rfl, rfl⟩, ⟨rfl, rfl, pureL_bys _⟩, ⟨rfl, rfl⟩, ⟨rfl, rfl⟩, trivial⟩ trivial⟩
   rw [← hx, List.drop_eq_getElem_cons c1]
   rfl
  ·obtain rfl : c = b.length := by omega
   rw [List.drop_length] at hx
   rw [← hx]
   conv => whnf
   repeat ((first | (refine ifB_neg (decide_eq_false (by first | omega | rfl | (dsimp only; omega))) ?_) | refine ⟨⟨rfl, rfl⟩, ?_⟩); conv => whnf)
   rfl
 ·exact weaker_of [] rfl rfl ⟨⟨rfl, rfl⟩, ⟨rfl, rfl, pureL_bys _⟩, ⟨rfl, rfl⟩, ⟨rfl, rfl⟩, trivial⟩ trivial
def sW (a b c d : Int) : Int :=
 IntKind.u32.wrap (IntKind.u32.wrap (IntKind.u32.wrap (a + bits .xor .u32 (bits .xor .u32 (rotE b (-7)) (rotE b (-18))) (b / 2 ^ 3)) + c) + bits .xor .u32 (bits .xor .u32 (rotE d (-17)) (rotE d (-19))) (d / 2 ^ 10))
def spS (p : List Int) (i : Nat) (w : List Int) : List Int := if i < 16 then w.set i (highL 0 ((p.drop (4 * i)).take 4)) else w.set i (sW (w.getD (i - 16) 0) (w.getD (i - 15) 0) (w.getD (i - 7) 0) (w.getD (i - 2) 0))
def spN (p : List Int) : Nat → List Int
 | 0 => List.replicate 64 0
 | i + 1 => spS p i (spN p i)
theorem spN_len (p : List Int) : ∀ i, (spN p i).length = 64
 | 0 => by simp [spN]
 | i + 1 => by
  rw [spN, spS]
  split
  ·rw [List.length_set, spN_len p i]
  ·rw [List.length_set, spN_len p i]
theorem demsP_u32s {H : Heap} : ∀ (l : List Int) (K : List Nat → Prop), K [] → demsP H (u32s l) (u32s l) K
 | [], K, h => by simpa [u32s, demsP] using h
 | x :: l, K, h => by
  simp only [u32s, List.map_cons, demsP, demP, and_self, true_and]
  exact demsP_u32s l _ (by simpa using h)
theorem setN_all {a b : List AV} (h : b.length = a.length) : setN a 0 b = b := by
 rw [setN_eq _ _ _ (by omega), List.drop_eq_nil_of_le (by omega)]; simp
theorem cut_mid (c : Nat) (p : List Int) : cutB (bys p) (some (4 * (c : Int))) (some (4 * (c : Int) + 4)) 1 = bys ((p.drop (4 * c)).take 4) := by
 have e1 : (4 * (c : Int)).toNat = 4 * c := by omega
 have e2 : (4 * (c : Int) + 4).toNat = 4 * c + 4 := by omega
 simp only [cutB, offB, lenB, endB, e1, e2, Nat.mul_one]
 rw [show 4 * c + 4 - 4 * c = 4 by omega, bys_drop, bys_take]
def MS : FuncId → List Mode := orElse [(147, [.rd]), (126, [.rd]), (107, [.rd, .rd]), (119, [.rd, .rd]), (125, []), (105, []), (58, [.rd]), (85, []), (106, [.bw]), (124, [.nl, .rd])] ME
def PLsp : Nat → Bool × Plan := plans [(7, (true, takes [0, 1, 2, 3, 4, 5, 6, 7, 8, 9])), (10, (false, (takesTo [0, 1, 2, 3, 5, 7, 8, 9, 12] (.all [(4, (takesTo [6] (.all [(10, (takesTo [11, 13, 14] (.all [(15, .done)])))]))), (10, (.all [(4, (takesTo [6, 11, 13, 14] (.all [(15, .done)])))]))]))))]
set_option maxHeartbeats 1000000 in
theorem spread_ok (p : List Int) (hb : Byt p) (hl : p.length = 64) : ACall Tryz.prog 126 [.ro 64 (bys p)] (.agg (u32s (spN p 64))) [] := by
 refine ACall.of_does TTok Tryz.func126 rfl Tryz.call126 rfl (wpc_sound (M := MS) (PL := PLsp) (CU := noCut) TTok mixed _ _ _ ?_)
 conv => whnf
 repeat ((refine ⟨rfl, ?_⟩); conv => whnf)
 refine Does.loop (fun c : Nat => mkSt [(0, .ro 64 (bys p)), (2, .ptr 0 0), (3, .ptr 1 0), (9, .int .i64 c)] [(0, u32s (List.replicate 64 0)), (1, u32s (spN p c))] 2 65) (fun c => c ≤ 64) (fun c => 64 - c) ?_ 0 (Nat.zero_le _) ?_
 ·intro c hc
  have hL := spN_len p c
  rcases Nat.lt_or_ge c 64 with c1 | c1
  ·refine wpc_sound (M := MS) (PL := PLsp) (CU := noCut) TTok mixed _ _ _ ?_
   by_cases c2 : c < 16
   ·have hh := high_ok ((p.drop (4 * c)).take 4) (fun x hx => hb x (List.mem_of_mem_drop (List.mem_of_mem_take hx))) (by simp; omega)
    conv => whnf
    repeat ((first | (refine ifB_pos (decide_eq_true (by first | omega | rfl | (dsimp only; omega))) ?_) | (refine fit_i64 ⟨by first | omega | rfl | (dsimp only; omega), by first | omega | rfl | (dsimp only; omega)⟩ ?_)); conv => whnf)
    refine ⟨⟨by simp [hl], by simp [okB]; omega⟩, ?_⟩
    conv => whnf
    repeat ((first | refine ⟨pureL_cutB _ _ _ _, ?_⟩ | refine ⟨rfl, ?_⟩); conv => whnf)
    refine ⟨_, _, hh.arg1 (by simp [lenB, endB, offB]; omega) (cut_mid c p), by first | rfl | simp [noRoIf, noRoL, noRoV, noRoL_bys], ?_⟩
    conv => whnf
    repeat ((refine And.intro (by first | omega | rfl | (dsimp only; omega)) ?_); conv => whnf)
    refine ⟨⟨rfl, rfl, by rw [u32s_length, hL]; simp; omega⟩, ?_⟩
    conv => whnf
    repeat ((refine fit_i64 ⟨by first | omega | rfl | (dsimp only; omega), by first | omega | rfl | (dsimp only; omega)⟩ ?_); conv => whnf)
    refine ⟨c + 1, by omega, by omega, weaker_of [(0, 0), (1, 1)] rfl rfl ⟨⟨rfl, rfl, pureL_bys _⟩, ⟨rfl, rfl⟩, ⟨rfl, rfl⟩, ⟨rfl, rfl⟩, trivial⟩ ⟨lesP_refl_u _, ?_, trivial⟩⟩
    show lesP _ (u32s (spN p (c + 1))) _
    refine u32s_les ?_
    rw [spN, spS, if_pos c2]
    exact (congrArg (fun i => setN (u32s (spN p c)) i _) (by simp)).trans (u32s_set _ _ _)
   ·conv => whnf
    repeat ((first | (refine ifB_neg (decide_eq_false (by first | omega | rfl | (dsimp only; omega))) ?_) | (refine ifB_pos (decide_eq_true (by first | omega | rfl | (dsimp only; omega))) ?_)); conv => whnf)
    refine ⟨by kernel_rfl, ?_⟩
    conv => whnf
    repeat ((first | (refine fit_i64 ⟨by first | omega | rfl | (dsimp only; omega), by first | omega | rfl | (dsimp only; omega)⟩ ?_) | (refine And.intro (by first | omega | rfl | (dsimp only; omega)) ?_)); conv => whnf)
    refine ⟨_, u32s_get (i := c - 15) (by omega) (by simp; omega), ?_⟩
    conv => whnf
    repeat ((first | (refine fit_i64 ⟨by first | omega | rfl | (dsimp only; omega), by first | omega | rfl | (dsimp only; omega)⟩ ?_) | (refine And.intro (by first | omega | rfl | (dsimp only; omega)) ?_)); conv => whnf)
    refine ⟨_, u32s_get (i := c - 2) (by omega) (by simp; omega), ?_⟩
    conv => whnf
    repeat ((refine ⟨rfl, ?_⟩); conv => whnf)
    refine ⟨_, _, rot_ok _ _, by first | rfl | simp [noRoIf, noRoL, noRoV, noRoL_bys], ?_⟩
    conv => whnf
    repeat ((refine ⟨rfl, ?_⟩); conv => whnf)
    refine ⟨_, _, rot_ok _ _, by first | rfl | simp [noRoIf, noRoL, noRoV, noRoL_bys], ?_⟩
    conv => whnf
    repeat ((first | refine ⟨rfl, ?_⟩ | (refine And.intro (by first | omega | rfl | (dsimp only; omega)) ?_)); conv => whnf)
    refine ⟨_, _, rot_ok _ _, by first | rfl | simp [noRoIf, noRoL, noRoV, noRoL_bys], ?_⟩
    conv => whnf
    repeat ((refine ⟨rfl, ?_⟩); conv => whnf)
    refine ⟨_, _, rot_ok _ _, by first | rfl | simp [noRoIf, noRoL, noRoV, noRoL_bys], ?_⟩
    conv => whnf
    repeat ((refine And.intro (by first | omega | rfl | (dsimp only; omega)) ?_); conv => whnf)
    refine ⟨by kernel_rfl, ?_⟩
    conv => whnf
    repeat ((first | (refine fit_i64 ⟨by first | omega | rfl | (dsimp only; omega), by first | omega | rfl | (dsimp only; omega)⟩ ?_) | (refine And.intro (by first | omega | rfl | (dsimp only; omega)) ?_)); conv => whnf)
    refine ⟨?_, ?_⟩
    ·conv => whnf
     refine ⟨_, u32s_get (i := c - 16) (by omega) (by simp; omega), ?_⟩
     conv => whnf
     refine fit_wrap ?_
     conv => whnf
     refine ⟨_, u32s_get (i := c - 7) (by omega) (by simp; omega), ?_⟩
     conv => whnf
     refine fit_wrap ?_
     conv => whnf
     refine fit_wrap ?_
     conv => whnf
     repeat ((refine And.intro (by first | omega | rfl | (dsimp only; omega)) ?_); conv => whnf)
     refine ⟨⟨rfl, rfl, by rw [u32s_length, hL]; simp; omega⟩, ?_⟩
     conv => whnf
     repeat ((refine fit_i64 ⟨by first | omega | rfl | (dsimp only; omega), by first | omega | rfl | (dsimp only; omega)⟩ ?_); conv => whnf)
     refine ⟨c + 1, by omega, by omega, weaker_of [(0, 0), (1, 1)] rfl rfl ⟨⟨rfl, rfl, pureL_bys _⟩, ⟨rfl, rfl⟩, ⟨rfl, rfl⟩, ⟨rfl, rfl⟩, trivial⟩ ⟨lesP_refl_u _, ?_, trivial⟩⟩
     show lesP _ (u32s (spN p (c + 1))) _
     refine u32s_les ?_
     rw [spN, spS, if_neg c2]
     exact (congrArg (fun i => setN (u32s (spN p c)) i _) (by simp)).trans (u32s_set _ _ _)
    ·conv => whnf
     refine ⟨_, u32s_get (i := c - 7) (by omega) (by simp; omega), ?_⟩
     conv => whnf
     refine ⟨_, u32s_get (i := c - 16) (by omega) (by simp; omega), ?_⟩
     conv => whnf
     refine fit_wrap ?_
     conv => whnf
     refine fit_wrap ?_
     conv => whnf
     refine fit_wrap ?_
     conv => whnf
     repeat ((refine And.intro (by first | omega | rfl | (dsimp only; omega)) ?_); conv => whnf)
     refine ⟨⟨rfl, rfl, by rw [u32s_length, hL]; simp; omega⟩, ?_⟩
     conv => whnf
     repeat ((refine fit_i64 ⟨by first | omega | rfl | (dsimp only; omega), by first | omega | rfl | (dsimp only; omega)⟩ ?_); conv => whnf)
     refine ⟨c + 1, by omega, by omega, weaker_of [(0, 0), (1, 1)] rfl rfl ⟨⟨rfl, rfl, pureL_bys _⟩, ⟨rfl, rfl⟩, ⟨rfl, rfl⟩, ⟨rfl, rfl⟩, trivial⟩ ⟨lesP_refl_u _, ?_, trivial⟩⟩
     show lesP _ (u32s (spN p (c + 1))) _
     refine u32s_les ?_
     rw [spN, spS, if_neg c2]
     exact (congrArg (fun i => setN (u32s (spN p c)) i _) (by simp)).trans (u32s_set _ _ _)
  ·obtain rfl : c = 64 := by omega
   generalize spN p 64 = w at hL ⊢
   refine wpc_sound (M := MS) (PL := PLsp) (CU := noCut) TTok mixed _ _ _ ?_
   conv => whnf
   repeat ((refine ifB_f ?_); conv => whnf)
   refine ⟨_, takeN_all (cs := u32s w) (by rw [u32s_length, hL]), ?_⟩
   conv => whnf
   refine ⟨⟨u32s_ones w, (by show (u32s w).length = 64; rw [u32s_length, hL]), (by show 0 + 64 ≤ (u32s (List.replicate 64 0)).length; simp [u32s])⟩, ?_⟩
   conv => whnf
   refine ⟨u32s w, ?_, ?_⟩
   ·show takeN 64 (setN (u32s (List.replicate 64 0)) 0 (u32s w)) = some (u32s w)
    rw [setN_all (by rw [u32s_length, u32s_length, hL]; simp)]
    exact takeN_all (by rw [u32s_length, hL])
   conv => whnf
   exact demsP_u32s _ _ rfl
 ·exact weaker_of [(0, 0), (1, 1)] rfl rfl ⟨⟨rfl, rfl, pureL_bys _⟩, ⟨rfl, rfl⟩, ⟨rfl, rfl⟩, ⟨rfl, rfl⟩, trivial⟩ ⟨(show lesP _ (u32s (List.replicate 64 0)) (u32s (List.replicate 64 0)) from u32s_les rfl), (show lesP _ (u32s (List.replicate 64 0)) (u32s (List.replicate 64 0)) from u32s_les rfl), trivial⟩
end
section
--KR
attribute [local irreducible] ifB fitP Does Weaker
def hF : List Int := [1779033703, 3144134277, 1013904242, 2773480762, 1359893119, 2600822924, 528734635, 1541459225]
def kR : List Int := [1116352408, 1899447441, 3049323471, 3921009573, 961987163, 1508970993, 2453635748, 2870763221, 3624381080, 310598401, 607225278, 1426881987, 1925078388, 2162078206, 2614888103, 3248222580, 3835390401, 4022224774, 264347078, 604807628, 770255983, 1249150122, 1555081692, 1996064986, 2554220882, 2821834349, 2952996808, 3210313671, 3336571891, 3584528711, 113926993, 338241895, 666307205, 773529912, 1294757372, 1396182291, 1695183700, 1986661051, 2177026350, 2456956037, 2730485921, 2820302411, 3259730800, 3345764771, 3516065817, 3600352804, 4094571909, 275423344, 430227734, 506948616, 659060556, 883997877, 958139571, 1322822218, 1537002063, 1747873779, 1955562222, 2024104815, 2227730452, 2361852424, 2428436474, 2756734187, 3204031479, 3329325298]
def c8 (l : List Int) : List AV := [.int .u32 (l.getD 0 0), .int .u32 (l.getD 1 0), .int .u32 (l.getD 2 0), .int .u32 (l.getD 3 0), .int .u32 (l.getD 4 0), .int .u32 (l.getD 5 0), .int .u32 (l.getD 6 0), .int .u32 (l.getD 7 0)]
theorem c8_eq {l : List Int} (h : l.length = 8) : u32s l = c8 l := by
 match l, h with
 | [a, b, c, d, e, f, g, i], _ => rfl
theorem first_ok : ACall Tryz.prog 105 [] (.agg (u32s hF)) [] := by
 refine ACall.of_does TTok Tryz.func105 rfl Tryz.call105 rfl (wpc_sound (M := MS) (PL := PL0) (CU := noCut) TTok mixed _ _ _ ?_)
 conv => whnf
 repeat ((first | refine ⟨(⟨by kernel_rfl, by kernel_rfl, Nat.le_of_ble_eq_true (by kernel_rfl)⟩ : AV.ones _ = true ∧ _ ∧ _), ?_⟩ | refine ⟨rfl, ?_⟩ | refine ⟨_, rfl, ?_⟩ | refine ⟨⟨rfl, rfl⟩, ?_⟩); conv => whnf)
 rfl
theorem rounds_ok : ACall Tryz.prog 125 [] (.own 64 1 (u32s kR)) [] := by
 refine ACall.of_does TTok Tryz.func125 rfl Tryz.call125 rfl (wpc_sound (M := MS) (PL := PL0) (CU := noCut) TTok mixed _ _ _ ?_)
 conv => whnf
 exact ⟨⟨rfl, rfl, rfl, rfl, u32s_pure _⟩, rfl⟩
theorem c8_les {o : Nat → Option Nat} (l : List Int) : lesP o (c8 l) (c8 l) := ⟨⟨rfl, rfl⟩, ⟨rfl, rfl⟩, ⟨rfl, rfl⟩, ⟨rfl, rfl⟩, ⟨rfl, rfl⟩, ⟨rfl, rfl⟩, ⟨rfl, rfl⟩, ⟨rfl, rfl⟩, trivial⟩
def z8 : List Int := List.replicate 8 0
theorem matL_u32s : ∀ (l : List Int) (s : Heap × Nat), matL (u32s l) s = (u32s l, s)
 | [], s => rfl
 | x :: l, s => by
  have h := matL_u32s l s
  simp only [u32s, List.map_cons] at h ⊢
  simp only [matL, matV, h]
def nt (x : Int) : Int := bits .xor .u32 4294967295 x
def rOne (v : List Int) (k w : Int) : Int := IntKind.u32.wrap (IntKind.u32.wrap (IntKind.u32.wrap (IntKind.u32.wrap (v.getD 7 0 + bits .xor .u32 (bits .xor .u32 (rotE (v.getD 4 0) (-6)) (rotE (v.getD 4 0) (-11))) (rotE (v.getD 4 0) (-25))) + bits .xor .u32 (bits .and .u32 (v.getD 4 0) (v.getD 5 0)) (bits .and .u32 (nt (v.getD 4 0)) (v.getD 6 0))) + k) + w)
def rTwo (v : List Int) : Int := IntKind.u32.wrap (bits .xor .u32 (bits .xor .u32 (rotE (v.getD 0 0) (-2)) (rotE (v.getD 0 0) (-13))) (rotE (v.getD 0 0) (-22)) + bits .xor .u32 (bits .xor .u32 (bits .and .u32 (v.getD 0 0) (v.getD 1 0)) (bits .and .u32 (v.getD 0 0) (v.getD 2 0))) (bits .and .u32 (v.getD 1 0) (v.getD 2 0)))
def rNd (v : List Int) (k w : Int) : List Int := [IntKind.u32.wrap (rOne v k w + rTwo v), v.getD 0 0, v.getD 1 0, v.getD 2 0, IntKind.u32.wrap (v.getD 3 0 + rOne v k w), v.getD 4 0, v.getD 5 0, v.getD 6 0]
def rN (h w : List Int) : Nat → List Int
 | 0 => h
 | i + 1 => rNd (rN h w i) (kR.getD i 0) (w.getD i 0)
theorem rN_len {h w : List Int} (hh : h.length = 8) : ∀ i, (rN h w i).length = 8
 | 0 => hh
 | i + 1 => rfl
def aN (h v : List Int) : Nat → List Int
 | 0 => h
 | i + 1 => (aN h v i).set i (IntKind.u32.wrap ((aN h v i).getD i 0 + v.getD i 0))
theorem aN_len {h v : List Int} (hh : h.length = 8) : ∀ i, (aN h v i).length = 8
 | 0 => hh
 | i + 1 => by rw [aN, List.length_set, aN_len hh i]
def takeW (h p : List Int) : List Int := aN h (rN h (spN p 64) 64) 8
theorem takeW_len {h p : List Int} (hh : h.length = 8) : (takeW h p).length = 8 := aN_len hh 8
def PLta : Nat → Bool × Plan := plans [(1, (false, (.all [(0, (.all [(1, (.all [(2, (.all [(3, (takes [4]))]))])), (2, (.all [(1, (.all [(3, (takes [4]))]))]))])), (1, (.all [(0, (.all [(2, (.all [(3, (takes [4]))]))])), (2, (.all [(0, (.all [(3, (takes [4]))]))]))])), (2, (.all [(0, (.all [(1, (.all [(3, (takes [4]))]))])), (1, (.all [(0, (.all [(3, (takes [4]))]))]))]))]))), (5, (true, takes [0, 1, 2, 3, 4, 5])), (7, (true, takes [0, 1, 2, 3, 4, 5, 6, 7, 8, 9, 10, 11, 12, 13, 14, 15, 16, 17, 18, 19, 20, 21, 22])), (15, (false, (takesTo [0, 1, 3, 4] (.all [(2, (.all [(5, (takesTo [6, 7] (.all [(8, .done)])))])), (5, (.all [(2, (takesTo [6, 7] (.all [(8, .done)])))]))]))))]
set_option maxRecDepth 20000 in
set_option maxHeartbeats 2000000 in
theorem stake_ok (h p : List Int) (hh : h.length = 8) (hb : Byt p) (hl : p.length = 64) : ACall Tryz.prog 107 [.agg (c8 h), .ro 64 (bys p)] (.agg (c8 (takeW h p))) [] := by
 have hs := spread_ok p hb hl
 have hw := spN_len p 64
 unfold takeW
 generalize spN p 64 = w at hs hw ⊢
 refine ACall.of_does TTok Tryz.func107 rfl Tryz.call107 rfl (wpc_sound (M := MS) (PL := PLta) (CU := cutAt [200001]) TTok mixed _ _ _ ?_)
 conv => whnf
 repeat ((refine ⟨rfl, ?_⟩); conv => whnf)
 refine Does.seqCut (fun _ : Unit => mkSt [(1, .ro 64 (bys p)), (2, .ptr 0 0), (4, .ptr 1 0), (5, .ptr 2 0), (6, .sl 3 0 64 1 false)] [(0, c8 h), (1, c8 z8), (2, c8 h), (3, u32s kR)] 4 115) (fun _ => True) ?_ ?_
 ·refine wpc_sound (M := MS) (PL := PLta) (CU := noCut) TTok mixed _ _ _ ?_
  conv => whnf
  refine ⟨by kernel_rfl, ?_⟩
  conv => whnf
  conv => whnf
  repeat' (first | (refine ⟨(⟨by kernel_rfl, by kernel_rfl, Nat.le_of_ble_eq_true (by kernel_rfl)⟩ : AV.ones _ = true ∧ _ ∧ _), ?_⟩; (conv => whnf)) | (refine ⟨rfl, ?_⟩; (conv => whnf)) | (refine ⟨_, _, rounds_ok, rfl, ?_⟩; conv => whnf) | (refine ⟨_, rfl, ?_⟩; conv => whnf) | (refine And.intro ?_ ?_ <;> conv => whnf))
  all_goals
   first
    | exact ⟨(), trivial, weaker_of [(0, 0), (1, 1), (2, 2), (3, 3)] rfl rfl ⟨⟨rfl, rfl, pureL_bys _⟩, ⟨rfl, rfl⟩, ⟨rfl, rfl⟩, ⟨rfl, rfl⟩, ⟨rfl, rfl, rfl, rfl, fun h => h⟩, trivial⟩ ⟨c8_les _, (show lesP _ (c8 z8) (c8 z8) from c8_les _), c8_les _, u32s_les rfl, trivial⟩⟩
    | exact ⟨(), trivial, weaker_of [(0, 0), (1, 1), (2, 3), (3, 2)] rfl rfl ⟨⟨rfl, rfl, pureL_bys _⟩, ⟨rfl, rfl⟩, ⟨rfl, rfl⟩, ⟨rfl, rfl⟩, ⟨rfl, rfl, rfl, rfl, fun h => h⟩, trivial⟩ ⟨c8_les _, (show lesP _ (c8 z8) (c8 z8) from c8_les _), c8_les _, u32s_les rfl, trivial⟩⟩
 intro _ _
 refine wpc_sound (M := MS) (PL := PLta) (CU := noCut) TTok mixed _ _ _ ?_
 conv => whnf
 repeat ((first | refine ⟨pureL_bys _, ?_⟩ | refine ⟨rfl, ?_⟩); conv => whnf)
 refine ⟨_, _, hs, by first | rfl | simp [noRoIf, noRoL, noRoV, noRoL_bys], ?_⟩
 conv => whnf
 rw [matL_u32s]
 refine Does.loop (fun c : Nat => mkSt [(2, .ptr 0 0), (4, .ptr 1 0), (5, .ptr 2 0), (6, .sl 3 0 64 1 false), (19, .agg (u32s w)), (20, .int .i64 c)] [(0, c8 h), (1, c8 z8), (2, c8 (rN h w c)), (3, u32s kR)] 4 115) (fun c => c ≤ 64) (fun c => 64 - c) ?_ 0 (Nat.zero_le _) ?_
 ·intro c hc
  rcases Nat.lt_or_ge c 64 with c1 | c1
  ·have hn : rN h w (c + 1) = rNd (rN h w c) (kR.getD c 0) (w.getD c 0) := rfl
   generalize rN h w c = v at hn ⊢
   refine wpc_sound (M := MS) (PL := PLta) (CU := noCut) TTok mixed _ _ _ ?_
   conv => whnf
   repeat ((first | (refine ifB_pos (decide_eq_true (by first | omega | rfl | (dsimp only; omega))) ?_) | (refine And.intro (by first | omega | rfl | (dsimp only; omega)) ?_)); conv => whnf)
   refine ⟨_, u32s_get (i := c) (by omega) (by simp), ?_⟩
   conv => whnf
   refine ⟨by kernel_rfl, ?_⟩
   conv => whnf
   repeat ((first | refine ⟨rfl, ?_⟩ | refine ⟨_, rfl, ?_⟩ | (refine And.intro (by first | omega | rfl | (dsimp only; omega)) ?_)); conv => whnf)
   refine ⟨_, _, rot_ok _ _, by first | rfl | simp [noRoIf, noRoL, noRoV, noRoL_bys], ?_⟩
   conv => whnf
   repeat ((refine ⟨rfl, ?_⟩); conv => whnf)
   refine ⟨_, _, rot_ok _ _, by first | rfl | simp [noRoIf, noRoL, noRoV, noRoL_bys], ?_⟩
   conv => whnf
   repeat ((refine ⟨rfl, ?_⟩); conv => whnf)
   refine ⟨_, _, rot_ok _ _, by first | rfl | simp [noRoIf, noRoL, noRoV, noRoL_bys], ?_⟩
   conv => whnf
   refine ⟨by kernel_rfl, ?_⟩
   conv => whnf
   repeat ((first | refine ⟨_, rfl, ?_⟩ | (refine And.intro (by first | omega | rfl | (dsimp only; omega)) ?_)); conv => whnf)
   refine fit_wrap ?_
   conv => whnf
   repeat ((first | refine ⟨_, rfl, ?_⟩ | (refine And.intro (by first | omega | rfl | (dsimp only; omega)) ?_)); conv => whnf)
   refine fit_wrap ?_
   conv => whnf
   repeat ((refine And.intro (by first | omega | rfl | (dsimp only; omega)) ?_); conv => whnf)
   refine ⟨_, u32s_get (l := kR) (i := c) c1 (by simp), ?_⟩
   conv => whnf
   refine fit_wrap ?_
   conv => whnf
   refine fit_wrap ?_
   conv => whnf
   repeat ((refine ⟨rfl, ?_⟩); conv => whnf)
   refine ⟨_, _, rot_ok _ _, by first | rfl | simp [noRoIf, noRoL, noRoV, noRoL_bys], ?_⟩
   conv => whnf
   repeat ((refine ⟨rfl, ?_⟩); conv => whnf)
   refine ⟨_, _, rot_ok _ _, by first | rfl | simp [noRoIf, noRoL, noRoV, noRoL_bys], ?_⟩
   conv => whnf
   repeat ((refine ⟨rfl, ?_⟩); conv => whnf)
   refine ⟨_, _, rot_ok _ _, by first | rfl | simp [noRoIf, noRoL, noRoV, noRoL_bys], ?_⟩
   conv => whnf
   repeat ((first | refine ⟨_, rfl, ?_⟩ | (refine And.intro (by first | omega | rfl | (dsimp only; omega)) ?_)); conv => whnf)
   refine fit_wrap ?_
   conv => whnf
   refine fit_wrap ?_
   conv => whnf
   repeat ((first | refine ⟨_, rfl, ?_⟩ | (refine And.intro (by first | omega | rfl | (dsimp only; omega)) ?_)); conv => whnf)
   refine fit_wrap ?_
   conv => whnf
   repeat ((first | (refine fit_i64 ⟨by first | omega | rfl | (dsimp only; omega), by first | omega | rfl | (dsimp only; omega)⟩ ?_) | refine ⟨(⟨by kernel_rfl, by kernel_rfl, Nat.le_of_ble_eq_true (by kernel_rfl)⟩ : AV.ones _ = true ∧ _ ∧ _), ?_⟩ | refine ⟨_, rfl, ?_⟩ | (refine And.intro (by first | omega | rfl | (dsimp only; omega)) ?_)); conv => whnf)
   refine ⟨c + 1, by omega, by omega, weaker_of [(0, 0), (1, 1), (2, 2), (3, 3)] rfl rfl ⟨⟨rfl, rfl⟩, ⟨rfl, rfl⟩, ⟨rfl, rfl⟩, ⟨rfl, rfl, rfl, rfl, fun h => h⟩, u32s_les rfl, ⟨rfl, rfl⟩, trivial⟩ ⟨(show lesP _ (c8 h) (c8 h) from c8_les _), (show lesP _ (c8 z8) (c8 z8) from c8_les _), ?_, u32s_les rfl, trivial⟩⟩
   show lesP _ (c8 (rN h w (c + 1))) _
   rw [hn]
   exact c8_les _
  ·obtain rfl : c = 64 := by omega
   have hv := rN_len (h := h) (w := w) hh 64
   generalize rN h w 64 = v at hv ⊢
   rw [← c8_eq (aN_len hh 8)]
   refine wpc_sound (M := MS) (PL := PLta) (CU := noCut) TTok mixed _ _ _ ?_
   conv => whnf
   repeat ((refine ifB_f ?_); conv => whnf)
   refine Does.loop (fun d : Nat => mkSt [(2, .ptr 0 0), (4, .ptr 1 0), (5, .ptr 2 0), (102, .int .i64 d)] [(0, u32s (aN h v d)), (1, c8 z8), (2, u32s v), (3, u32s kR)] 4 115) (fun d => d ≤ 8) (fun d => 8 - d) ?_ 0 (Nat.zero_le _) ?_
   ·intro d hd
    rcases Nat.lt_or_ge d 8 with d1 | d1
    ·refine wpc_sound (M := MS) (PL := PLta) (CU := noCut) TTok mixed _ _ _ ?_
     conv => whnf
     repeat ((refine ifB_pos (decide_eq_true (by first | omega | rfl | (dsimp only; omega))) ?_); conv => whnf)
     refine ⟨by kernel_rfl, ?_⟩
     conv => whnf
     repeat ((refine And.intro (by first | omega | rfl | (dsimp only; omega)) ?_); conv => whnf)
     refine ⟨?_, ?_⟩
     ·conv => whnf
      refine ⟨_, u32s_get (l := aN h v d) (i := d) (by rw [aN_len hh]; omega) (by simp), ?_⟩
      conv => whnf
      refine ⟨_, u32s_get (l := v) (i := d) (by rw [hv]; omega) (by simp), ?_⟩
      conv => whnf
      refine fit_wrap ?_
      conv => whnf
      refine ⟨⟨by omega, by omega⟩, ?_⟩
      conv => whnf
      refine ⟨⟨rfl, rfl, by rw [u32s_length, aN_len hh]; simp; omega⟩, ?_⟩
      conv => whnf
      conv => whnf
      repeat ((refine fit_i64 ⟨by first | omega | rfl | (dsimp only; omega), by first | omega | rfl | (dsimp only; omega)⟩ ?_); conv => whnf)
      refine ⟨d + 1, by omega, by omega, weaker_of [(0, 0), (1, 1), (2, 2), (3, 3)] rfl rfl ⟨⟨rfl, rfl⟩, ⟨rfl, rfl⟩, ⟨rfl, rfl⟩, ⟨rfl, rfl⟩, trivial⟩ ⟨?_, (show lesP _ (c8 z8) (c8 z8) from c8_les _), u32s_les rfl, u32s_les rfl, trivial⟩⟩
      show lesP _ (u32s (aN h v (d + 1))) _
      refine u32s_les ?_
      rw [aN]
      exact (congrArg (fun i => setN (u32s (aN h v d)) i _) (by simp)).trans (u32s_set _ _ _)
     ·conv => whnf
      refine ⟨_, u32s_get (l := v) (i := d) (by rw [hv]; omega) (by simp), ?_⟩
      conv => whnf
      refine ⟨_, u32s_get (l := aN h v d) (i := d) (by rw [aN_len hh]; omega) (by simp), ?_⟩
      conv => whnf
      refine fit_wrap ?_
      conv => whnf
      refine ⟨⟨by omega, by omega⟩, ?_⟩
      conv => whnf
      refine ⟨⟨rfl, rfl, by rw [u32s_length, aN_len hh]; simp; omega⟩, ?_⟩
      conv => whnf
      conv => whnf
      repeat ((refine fit_i64 ⟨by first | omega | rfl | (dsimp only; omega), by first | omega | rfl | (dsimp only; omega)⟩ ?_); conv => whnf)
      refine ⟨d + 1, by omega, by omega, weaker_of [(0, 0), (1, 1), (2, 2), (3, 3)] rfl rfl ⟨⟨rfl, rfl⟩, ⟨rfl, rfl⟩, ⟨rfl, rfl⟩, ⟨rfl, rfl⟩, trivial⟩ ⟨?_, (show lesP _ (c8 z8) (c8 z8) from c8_les _), u32s_les rfl, u32s_les rfl, trivial⟩⟩
      show lesP _ (u32s (aN h v (d + 1))) _
      refine u32s_les ?_
      rw [aN]
      exact (congrArg (fun i => setN (u32s (aN h v d)) i _) (by simp)).trans (u32s_set _ _ _)
    ·obtain rfl : d = 8 := by omega
     have ha := aN_len (h := h) (v := v) hh 8
     generalize aN h v 8 = x at ha ⊢
     refine wpc_sound (M := MS) (PL := PLta) (CU := noCut) TTok mixed _ _ _ ?_
     conv => whnf
     refine ifB_f ?_
     conv => whnf
     refine ⟨_, takeN_all (cs := u32s x) (by rw [u32s_length, ha]), ?_⟩
     conv => whnf
     refine ⟨⟨u32s_ones x, (by show (u32s x).length = 8; rw [u32s_length, ha]), (by show 0 + 8 ≤ (c8 z8).length; decide)⟩, ?_⟩
     conv => whnf
     refine ⟨u32s x, ?_, ?_⟩
     ·show takeN 8 (setN (c8 z8) 0 (u32s x)) = some (u32s x)
      rw [setN_all (by rw [u32s_length, ha]; rfl)]
      exact takeN_all (by rw [u32s_length, ha])
     conv => whnf
     exact demsP_u32s _ _ rfl
   ·exact weaker_of [(0, 0), (1, 1), (2, 2), (3, 3)] rfl rfl ⟨⟨rfl, rfl⟩, ⟨rfl, rfl⟩, ⟨rfl, rfl⟩, ⟨rfl, rfl⟩, trivial⟩ ⟨u32s_les (c8_eq hh).symm, (show lesP _ (c8 z8) (c8 z8) from c8_les _), u32s_les (c8_eq hv).symm, u32s_les rfl, trivial⟩
 ·exact weaker_of [(0, 0), (1, 1), (2, 2), (3, 3)] rfl rfl ⟨⟨rfl, rfl⟩, ⟨rfl, rfl⟩, ⟨rfl, rfl⟩, ⟨rfl, rfl, rfl, rfl, fun h => h⟩, u32s_les rfl, ⟨rfl, rfl⟩, trivial⟩ ⟨(show lesP _ (c8 h) (c8 h) from c8_les _), (show lesP _ (c8 z8) (c8 z8) from c8_les _), (show lesP _ (c8 h) (c8 h) from c8_les _), u32s_les rfl, trivial⟩
end
section

attribute [local irreducible] ifB fitP Does Weaker
set_option maxHeartbeats 1000000 in
theorem bgrow_ok (n : Nat) (hn : n ≤ 1000000) : ACall Tryz.prog 124 [.nil, .int .i64 n] (.own 0 1 []) [] := by
 refine ACall.of_does TTok Tryz.func124 rfl Tryz.call124 rfl (wpc_sound (M := MS) (PL := PL0) (CU := cutAt [100006]) TTok mixed _ _ _ ?_)
 rcases Nat.eq_zero_or_pos n with h0 | h0
 ·subst h0
  conv => whnf
  repeat ((first | refine ifB_f ?_ | (refine fit_i64 ⟨by first | omega | rfl | (dsimp only; omega), by first | omega | rfl | (dsimp only; omega)⟩ ?_)); conv => whnf)
  refine wpc_sound (M := MS) (PL := PL0) (CU := noCut) TTok mixed _ _ _ ?_
  conv => whnf
  repeat ((refine ⟨⟨rfl, rfl⟩, ?_⟩); conv => whnf)
  rfl
 ·conv => whnf
  repeat ((first | refine ifB_f ?_ | (refine ifB_pos (decide_eq_true (by first | omega | rfl | (dsimp only; omega))) ?_) | (refine fit_i64 ⟨by first | omega | rfl | (dsimp only; omega), by first | omega | rfl | (dsimp only; omega)⟩ ?_)); conv => whnf)
  refine ⟨by simp [okB], ?_⟩
  conv => whnf
  repeat ((first | (refine ⟨⟨rfl, ?_⟩, ?_⟩; (focus (first | (simp only [okB]; omega) | (simp [okB]; omega)))) | (refine And.intro ?_ ?_; (focus (first | (simp [limB, lenB, offB]; done) | (simp [limB, lenB, offB]; omega))))); conv => whnf)
  refine Does.weaker (Weaker.trunc (id := 0) 0 rfl) (Does.tidy [(0, .sl 0 0 0 1 false)] [(0, [])] 1 27 rfl rfl rfl (by kernel_rfl) (by kernel_rfl) ?_)
  refine wpc_sound (M := MS) (PL := PL0) (CU := noCut) TTok mixed _ _ _ ?_
  conv => whnf
  repeat ((refine And.intro ?_ ?_; (focus (simp [pureL, pureV, pureL_bys, pureL_toks, pureL_app]; done))); conv => whnf)
  rfl
def cat2 (a b : List Int) : List AV := [.ro a.length (bys a), .ro b.length (bys b)]
theorem cat2_pure (a b : List Int) : pureL (cat2 a b) = true := by simp [cat2, pureL, pureV, pureL_bys]
def catL (a b : List Int) (c : Nat) : List Int := match c with
 | 0 => []
 | 1 => a
 | _ => a ++ b
set_option maxHeartbeats 1000000 in
theorem bconcat_ok (a b : List Int) (ha : a.length ≤ 500000) (hb : b.length ≤ 500000) : ACall Tryz.prog 106 [.ro 2 (cat2 a b)] (.own (a ++ b).length 1 (bys (a ++ b))) [] := by
 have hg := bgrow_ok (a ++ b).length (by rw [List.length_append]; omega)
 refine ACall.of_does TTok Tryz.func106 rfl Tryz.call106 rfl (wpc_sound (M := MS) (PL := PL0) (CU := noCut) TTok mixed _ _ _ ?_)
 conv => whnf
 refine Does.loop (fun c : Nat => mkSt [(0, .ro 2 (cat2 a b)), (3, .int .i64 (catL a b c).length), (9, .ro 2 (cat2 a b)), (10, .int .i64 2), (11, .int .i64 c)] [] 0 36) (fun c => c ≤ 2) (fun c => 2 - c) ?_ 0 (by omega) ?_
 ·intro c hc
  have hcs : c = 0 ∨ c = 1 ∨ c = 2 := by omega
  refine wpc_sound (M := MS) (PL := PL0) (CU := noCut) TTok mixed _ _ _ ?_
  rcases hcs with rfl | rfl | rfl
  ·conv => whnf
   repeat ((refine ifB_t ?_); conv => whnf)
   refine ⟨⟨by omega, by omega, by simp [cat2]⟩, ?_⟩
   conv => whnf
   repeat ((refine ⟨_, rfl, ?_⟩); conv => whnf)
   refine fit_i64 ⟨by simp [catL] <;> omega, by simp [catL] <;> omega⟩ ?_
   conv => whnf
   repeat ((first | refine ifB_f ?_ | (refine fit_i64 ⟨by first | omega | rfl | (dsimp only; omega), by first | omega | rfl | (dsimp only; omega)⟩ ?_)); conv => whnf)
   exact ⟨1, by omega, by omega, weaker_of [] rfl rfl ⟨⟨rfl, rfl, cat2_pure a b⟩, ⟨rfl, by simp [catL]⟩, ⟨rfl, rfl, cat2_pure a b⟩, ⟨rfl, rfl⟩, ⟨rfl, rfl⟩, trivial⟩ trivial⟩
  ·conv => whnf
   repeat ((refine ifB_t ?_); conv => whnf)
   refine ⟨⟨by omega, by omega, by simp [cat2]⟩, ?_⟩
   conv => whnf
   repeat ((refine ⟨_, rfl, ?_⟩); conv => whnf)
   refine fit_i64 ⟨by simp [catL] <;> omega, by simp [catL] <;> omega⟩ ?_
   conv => whnf
   repeat ((first | refine ifB_f ?_ | (refine fit_i64 ⟨by first | omega | rfl | (dsimp only; omega), by first | omega | rfl | (dsimp only; omega)⟩ ?_)); conv => whnf)
   exact ⟨2, by omega, by omega, weaker_of [] rfl rfl ⟨⟨rfl, rfl, cat2_pure a b⟩, ⟨rfl, by simp [catL]⟩, ⟨rfl, rfl, cat2_pure a b⟩, ⟨rfl, rfl⟩, ⟨rfl, rfl⟩, trivial⟩ trivial⟩
  ·conv => whnf
   repeat ((first | refine ifB_f ?_ | refine ⟨rfl, ?_⟩); conv => whnf)
   refine ⟨_, _, hg, by first | rfl | simp [noRoIf, noRoL, noRoV, noRoL_bys], ?_⟩
   conv => whnf
   refine Does.loop (fun c : Nat => mkSt [(6, .sl 0 0 (catL a b c).length 1 false), (25, .ro 2 (cat2 a b)), (26, .int .i64 2), (27, .int .i64 c)] [(0, bys (catL a b c))] 1 36) (fun c => c ≤ 2) (fun c => 2 - c) ?_ 0 (by omega) ?_
   ·intro c hc
    have hcs : c = 0 ∨ c = 1 ∨ c = 2 := by omega
    refine wpc_sound (M := MS) (PL := PL0) (CU := noCut) TTok mixed _ _ _ ?_
    rcases hcs with rfl | rfl | rfl
    ·conv => whnf
     repeat ((refine ifB_t ?_); conv => whnf)
     refine ⟨⟨by omega, by omega, by simp [cat2]⟩, ?_⟩
     conv => whnf
     repeat ((first | refine ⟨ones_bys _, ?_⟩ | refine ⟨_, rfl, ?_⟩ | (refine And.intro ?_ ?_; (focus (first | (simp [limB, lenB, offB]; done) | (simp [limB, lenB, offB]; omega))))); conv => whnf)
     refine ⟨⟨rfl, rfl, by simp, by simp [catL, limB]; omega⟩, ?_⟩
     conv => whnf
     repeat ((refine fit_i64 ⟨by first | omega | rfl | (dsimp only; omega), by first | omega | rfl | (dsimp only; omega)⟩ ?_); conv => whnf)
     refine ⟨1, by omega, by omega, weaker_of [(0, 1)] rfl rfl ⟨⟨rfl, rfl, by simp [catL], rfl, fun h => h⟩, ⟨rfl, rfl, cat2_pure a b⟩, ⟨rfl, rfl⟩, ⟨rfl, rfl⟩, trivial⟩ ⟨?_, trivial⟩⟩
     exact lesP_bys (by simp [catL, bys])
    ·conv => whnf
     repeat ((refine ifB_t ?_); conv => whnf)
     refine ⟨⟨by omega, by omega, by simp [cat2]⟩, ?_⟩
     conv => whnf
     repeat ((first | refine ⟨ones_bys _, ?_⟩ | refine ⟨_, rfl, ?_⟩ | (refine And.intro ?_ ?_; (focus (first | (simp [limB, lenB, offB]; done) | (simp [limB, lenB, offB]; omega))))); conv => whnf)
     refine ⟨⟨rfl, rfl, by simp, by simp [catL, limB]; omega⟩, ?_⟩
     conv => whnf
     repeat ((refine fit_i64 ⟨by first | omega | rfl | (dsimp only; omega), by first | omega | rfl | (dsimp only; omega)⟩ ?_); conv => whnf)
     refine ⟨2, by omega, by omega, weaker_of [(0, 1)] rfl rfl ⟨⟨rfl, rfl, by simp [catL], rfl, fun h => h⟩, ⟨rfl, rfl, cat2_pure a b⟩, ⟨rfl, rfl⟩, ⟨rfl, rfl⟩, trivial⟩ ⟨?_, trivial⟩⟩
     exact lesP_bys (by simp [catL, bys])
    ·conv => whnf
     repeat ((first | refine ifB_f ?_ | (refine ⟨⟨rfl, rfl, rfl, ?_, pureL_bys _⟩, ?_⟩; (focus (simp; done)))); conv => whnf)
     rfl
   ·exact weaker_of [(0, 0)] rfl rfl ⟨⟨rfl, rfl, rfl, rfl, fun h => h⟩, ⟨rfl, rfl, cat2_pure a b⟩, ⟨rfl, rfl⟩, ⟨rfl, rfl⟩, trivial⟩ ⟨lesP_bys rfl, trivial⟩
 ·exact weaker_of [] rfl rfl ⟨⟨rfl, rfl, cat2_pure a b⟩, ⟨rfl, rfl⟩, ⟨rfl, rfl, cat2_pure a b⟩, ⟨rfl, rfl⟩, ⟨rfl, rfl⟩, trivial⟩ trivial
theorem new_ok : ACall Tryz.prog 85 [] (.ref (c8 hF ++ [.nil, .int .i64 0])) [] := by
 have h := first_ok
 refine ACall.of_does TTok Tryz.func85 rfl Tryz.call85 rfl (wpc_sound (M := MS) (PL := PL0) (CU := noCut) TTok mixed _ _ _ ?_)
 conv => whnf
 repeat ((refine ⟨rfl, ?_⟩); conv => whnf)
 refine ⟨_, _, h, by first | rfl | simp [noRoIf, noRoL, noRoV, noRoL_bys], ?_⟩
 conv => whnf
 repeat ((first | refine ⟨rfl, ?_⟩ | refine ⟨⟨rfl, rfl⟩, ?_⟩); conv => whnf)
 rfl
def shC (h rest : List Int) (n : Int) : List AV := c8 h ++ [.ro rest.length (bys rest), .int .i64 n]
def wN (h b : List Int) : Nat → List Int
 | 0 => h
 | i + 1 => takeW (wN h b i) ((b.drop (64 * i)).take 64)
theorem wN_len {h : List Int} (hh : h.length = 8) (b : List Int) : ∀ i, (wN h b i).length = 8
 | 0 => hh
 | i + 1 => takeW_len (wN_len hh b i)
def shM : Mode := .rf [.rd, .rd, .rd, .rd, .rd, .rd, .rd, .rd, .rd, .rd]
def MS2 : FuncId → List Mode := orElse [(86, [shM, .rd]), (87, [shM]), (108, [.rd])] MS
def PLwr : Nat → Bool × Plan := plans [(3, (false, (takesTo [0, 1, 2, 3, 5, 6, 8, 9] (.all [(4, (.all [(7, (takesTo [10, 11] (.all [(12, (takes [13]))])))]))]))))]
theorem ACall.argB {P : Program} {f : FuncId} {x : AV} {n n' : Nat} {c c' : List AV} {r : AV} {outs : List AV} (h : ACall P f [x, .ro n c] r outs) (e1 : n' = n) (e2 : c' = c) : ACall P f [x, .ro n' c'] r outs := by
 subst e1; subst e2; exact h
theorem cut_to64 (x : List Int) : cutB (bys x) none (some 64) 1 = bys (x.take 64) := by simp [cutB, offB, lenB, endB, bys_take]
theorem cut_from64 (x : List Int) (n : Nat) (h : n = x.length) : cutB (bys x) (some 64) none 1 = bys (x.drop 64) := by
 simp only [cutB, offB, endB, Nat.mul_one]
 rw [bys_drop]
 first | rfl | (exact List.take_of_length_le (by simp))
set_option maxRecDepth 20000 in
set_option maxHeartbeats 2000000 in
theorem swrite_ok (b : List Int) (hb : Byt b) (hl : b.length ≤ 400000) : ACall Tryz.prog 86 [.ref (shC hF [] 0), .ro b.length (bys b)] (.tuple []) [.ref (shC (wN hF b (b.length / 64)) (b.drop (64 * (b.length / 64))) b.length)] := by
 have hc := bconcat_ok [] b (by simp) (by omega)
 have hcl := (clone_ok (b.drop (64 * (b.length / 64))) (by simp; omega)).roRes
 rw [List.nil_append] at hc
 refine ACall.of_does TTok Tryz.func86 rfl Tryz.call86 rfl (wpc_sound (M := MS2) (PL := PLwr) (CU := noCut) TTok mixed _ _ _ ?_)
 conv => whnf
 repeat ((first | (refine fit_i64 ⟨by first | omega | rfl | (dsimp only; omega), by first | omega | rfl | (dsimp only; omega)⟩ ?_) | (refine Or.inl ⟨⟨rfl, ?_⟩, ?_⟩; (focus (first | rfl | (simp; done) | (rw [toksC_length]; omega)))) | refine ⟨rfl, ?_⟩ | refine ⟨_, rfl, ?_⟩ | (refine ⟨⟨rfl, rfl, ?_⟩, ?_⟩; (focus (first | exact Nat.le_of_ble_eq_true rfl | (simp; done)))) | (refine And.intro ?_ ?_; (focus (first | (simp only [pureL, pureV, pureL_bys, Bool.and_true, Bool.and_self]; done) | (simp only [pureL, pureV, pureL_bys, pureL_toks, Bool.and_true, Bool.and_self]; done))))); conv => whnf)
 refine ⟨_, _, hc, by first | rfl | simp [noRoIf, noRoL, noRoV, noRoL_bys], ?_⟩
 conv => whnf
 refine Does.freeze 2 rfl (Does.weakerTo' (env := [(0, .ptr 0 0), (4, .ro b.length (bys b))]) (heap := [(0, shC hF [] b.length)]) (nx := 3) (n := 41) [(0, 0)] rfl rfl ⟨⟨rfl, rfl⟩, ⟨rfl, whole_bys _, pureL_bys _⟩, trivial⟩ ⟨⟨⟨rfl, rfl⟩, ⟨rfl, rfl⟩, ⟨rfl, rfl⟩, ⟨rfl, rfl⟩, ⟨rfl, rfl⟩, ⟨rfl, rfl⟩, ⟨rfl, rfl⟩, ⟨rfl, rfl⟩, ⟨rfl, rfl, rfl⟩, ⟨rfl, by simp⟩, trivial⟩, trivial⟩ ?_)
 clear hc
 refine Does.loop (fun c : Nat => mkSt [(0, .ptr 0 0), (4, .ro (b.drop (64 * c)).length (bys (b.drop (64 * c))))] [(0, shC (wN hF b c) [] b.length)] 1 41) (fun c => 64 * c ≤ b.length) (fun c => b.length - 64 * c) ?_ 0 (by omega) ?_
 ·intro c hc
  have hv := wN_len (h := hF) rfl b c
  have hd : (b.drop (64 * c)).length = b.length - 64 * c := by simp
  have hn : wN hF b (c + 1) = takeW (wN hF b c) ((b.drop (64 * c)).take 64) := rfl
  by_cases c1 : 64 ≤ b.length - 64 * c
  ·have ht := stake_ok (wN hF b c) ((b.drop (64 * c)).take 64) hv (fun x hx => hb x (List.mem_of_mem_drop (List.mem_of_mem_take hx))) (by simp; omega)
   have e2 : b.drop (64 * (c + 1)) = (b.drop (64 * c)).drop 64 := by rw [List.drop_drop]; congr 1
   rw [← hn] at ht
   generalize hv' : wN hF b (c + 1) = v' at ht
   generalize wN hF b c = v at ht hv
   clear hn
   generalize b.drop (64 * c) = x at ht hd e2 ⊢
   refine wpc_sound (M := MS2) (PL := PLwr) (CU := noCut) TTok mixed _ _ _ ?_
   conv => whnf
   repeat ((refine ifB_pos (decide_eq_true (by first | omega | rfl | (dsimp only; omega))) ?_); conv => whnf)
   refine ⟨by kernel_rfl, ?_⟩
   conv => whnf
   repeat ((first | refine ⟨pureL_cutB _ _ _ _, ?_⟩ | refine ⟨rfl, ?_⟩ | refine ⟨_, rfl, ?_⟩ | (refine ⟨⟨?_, ?_⟩, ?_⟩; (focus (simp; done)); (focus (first | (simp only [okB]; omega) | (simp [okB]; omega))))); conv => whnf)
   refine ⟨_, _, ht.argB (by simp [lenB, endB, offB]) (cut_to64 x), by first | rfl | simp [noRoIf, noRoL, noRoV, noRoL_bys], ?_⟩
   conv => whnf
   repeat ((refine ⟨⟨rfl, rfl, ?_⟩, ?_⟩; (focus (first | exact Nat.le_of_ble_eq_true rfl | (simp; done)))); conv => whnf)
   refine ⟨c + 1, by omega, by omega, weaker_of [(0, 0)] rfl rfl ⟨⟨rfl, rfl⟩, ⟨?_, ?_, pureL_bys _⟩, trivial⟩ ⟨⟨⟨rfl, by rw [hv']⟩, ⟨rfl, by rw [hv']⟩, ⟨rfl, by rw [hv']⟩, ⟨rfl, by rw [hv']⟩, ⟨rfl, by rw [hv']⟩, ⟨rfl, by rw [hv']⟩, ⟨rfl, by rw [hv']⟩, ⟨rfl, by rw [hv']⟩, ⟨rfl, rfl, rfl⟩, ⟨rfl, rfl⟩, trivial⟩, trivial⟩⟩
   ·rw [e2]; simp [lenB, endB, offB]
   ·rw [e2]; exact cut_from64 x _ rfl
  ·obtain rfl : c = b.length / 64 := by omega
   generalize wN hF b (b.length / 64) = v
   refine wpc_sound (M := MS2) (PL := PLwr) (CU := noCut) TTok mixed _ _ _ ?_
   conv => whnf
   repeat ((first | (refine ifB_neg (decide_eq_false (by first | omega | rfl | (dsimp only; omega))) ?_) | refine ⟨pureL_bys _, ?_⟩ | refine ⟨rfl, ?_⟩); conv => whnf)
   refine ⟨_, _, hcl, by first | rfl | simp [noRoIf, noRoL, noRoV, noRoL_bys], ?_⟩
   conv => whnf
   repeat ((first | refine ⟨⟨rfl, rfl⟩, ?_⟩ | (refine ⟨⟨rfl, rfl, ?_⟩, ?_⟩; (focus (first | assumption | exact pureL_bys _ | exact pureL_toks _))) | (refine ⟨⟨rfl, rfl, ?_⟩, ?_⟩; (focus (first | exact Nat.le_of_ble_eq_true rfl | (simp; done))))); conv => whnf)
   rfl
 ·exact weaker_of [(0, 0)] rfl rfl ⟨⟨rfl, rfl⟩, ⟨rfl, rfl, pureL_bys _⟩, trivial⟩ ⟨⟨⟨rfl, rfl⟩, ⟨rfl, rfl⟩, ⟨rfl, rfl⟩, ⟨rfl, rfl⟩, ⟨rfl, rfl⟩, ⟨rfl, rfl⟩, ⟨rfl, rfl⟩, ⟨rfl, rfl⟩, ⟨rfl, rfl, rfl⟩, ⟨rfl, rfl⟩, trivial⟩, trivial⟩
end
section

attribute [local irreducible] ifB fitP Does Weaker
theorem tmod_nat (a m : Nat) : ((a : Int)).tmod (m : Int) = ((a % m : Nat) : Int) := by rw [Int.ofNat_tmod]
theorem tdiv_nat (a m : Nat) : ((a : Int)).tdiv (m : Int) = ((a / m : Nat) : Int) := by rw [Int.ofNat_tdiv]
def padZ (rest : List Int) : Nat := (119 - rest.length % 64) % 64
def padN (rest : List Int) (j : Nat) : List Int := rest ++ [128] ++ List.replicate j 0
theorem padN_len (rest : List Int) (j : Nat) : (padN rest j).length = rest.length + 1 + j := by simp [padN]; omega
theorem padN_byt {rest : List Int} (hr : Byt rest) (j : Nat) : Byt (padN rest j) := by
 intro x hx
 rcases List.mem_append.1 hx with h | h
 ·rcases List.mem_append.1 h with h | h
  ·exact hr x h
  ·rw [List.mem_singleton] at h; omega
 ·simp only [List.mem_replicate] at h; omega
def lenX (n : Int) : Int := IntKind.u64.wrap (IntKind.u64.wrap n * 2 ^ 3)
def lenY (n : Int) (k : Int) : Int := IntKind.u8.wrap (lenX n / 2 ^ min (8 * k).toNat 64)
def lenN (P : List Int) (n : Int) : Nat → List Int
 | 0 => P
 | j + 1 => lenN P n j ++ [lenY n (7 - (j : Int))]
theorem lenN_len (P : List Int) (n : Int) : ∀ j, (lenN P n j).length = P.length + j
 | 0 => rfl
 | j + 1 => by rw [lenN, List.length_append, lenN_len P n j]; rfl
theorem u8_wrap (x : Int) : 0 ≤ IntKind.u8.wrap x ∧ IntKind.u8.wrap x < 256 := by
 have : IntKind.u8.wrap x = x % 256 := wrap_u8 x
 omega
theorem lenN_byt {P : List Int} (hp : Byt P) (n : Int) : ∀ j, Byt (lenN P n j)
 | 0 => hp
 | j + 1 => by
  intro x hx
  rw [lenN] at hx
  rcases List.mem_append.1 hx with h | h
  ·exact lenN_byt hp n j x h
  ·rw [List.mem_singleton] at h; rw [h]; exact u8_wrap _
def tailL (rest : List Int) (n : Int) : List Int := lenN (padN rest (padZ rest)) n 8
def outY (w : List Int) (i : Nat) : Int := IntKind.u8.wrap (w.getD (i / 4) 0 / 2 ^ min (24 - 8 * ((i % 4 : Nat) : Int)).toNat 32)
def outN (w : List Int) : Nat → List Int
 | 0 => List.replicate 32 0
 | i + 1 => (outN w i).set i (outY w i)
theorem outN_len (w : List Int) : ∀ i, (outN w i).length = 32
 | 0 => by simp [outN]
 | i + 1 => by rw [outN, List.length_set, outN_len w i]
def sumL (h rest : List Int) (n : Int) : List Int := outN (wN h (tailL rest n) ((tailL rest n).length / 64)) 32
def PLsu : Nat → Bool × Plan := plans [(11, (false, (takesTo [1, 2] (.all [(0, (.all [(3, (.all [(4, .done)]))]))]))))]
theorem shC_les {o : Nat → Option Nat} (h rest : List Int) (n : Int) : lesP o (shC h rest n) (shC h rest n) := ⟨⟨rfl, rfl⟩, ⟨rfl, rfl⟩, ⟨rfl, rfl⟩, ⟨rfl, rfl⟩, ⟨rfl, rfl⟩, ⟨rfl, rfl⟩, ⟨rfl, rfl⟩, ⟨rfl, rfl⟩, ⟨rfl, rfl, pureL_bys _⟩, ⟨rfl, rfl⟩, trivial⟩
set_option maxRecDepth 20000 in
set_option maxHeartbeats 2000000 in
theorem ssum_ok (h rest : List Int) (n : Int) (hh : h.length = 8) (hr : Byt rest) (hl : rest.length < 64) : ACall Tryz.prog 87 [.ref (shC h rest n)] (.agg (bys (sumL h rest n))) [.ref (shC h rest n)] := by
 have hcl := clone_ok rest (by omega)
 refine ACall.of_does TTok Tryz.func87 rfl Tryz.call87 rfl (wpc_sound (M := MS2) (PL := PLsu) (CU := cutAt [100008]) TTok mixed _ _ _ ?_)
 conv => whnf
 repeat ((first | refine ⟨pureL_bys _, ?_⟩ | refine ⟨rfl, ?_⟩ | refine ⟨_, rfl, ?_⟩); conv => whnf)
 refine ⟨_, _, hcl, by first | rfl | simp [noRoIf, noRoL, noRoV, noRoL_bys], ?_⟩
 conv => whnf
 repeat ((first | (refine Or.inl ⟨⟨rfl, ?_⟩, ?_⟩; (focus (first | rfl | (simp; done) | (rw [toksC_length]; omega)))) | refine ⟨rfl, ?_⟩ | (refine ⟨⟨rfl, rfl, ?_, ?_⟩, ?_⟩; (focus (first | (simp [lenB, offB]; done) | (simp [lenB, offB]; omega))); (focus (first | (simp [limB, lenB, offB]; done) | (simp [limB, lenB, offB]; omega))))); conv => whnf)
 refine Does.loop (fun j : Nat => mkSt [(0, .ptr 0 0), (2, .ptr 1 0), (3, .sl 2 0 (rest.length + 1 + j) 1 false)] [(0, shC h rest n), (1, List.replicate 32 (.int .u8 0)), (2, bys (padN rest j))] 3 69) (fun j => j ≤ padZ rest) (fun j => padZ rest - j) ?_ 0 (Nat.zero_le _) ?_
 ·intro j hj
  have hL := padN_len rest j
  have hz : padZ rest = (119 - rest.length % 64) % 64 := rfl
  have hm : ((rest.length + 1 + j : Nat) : Int).tmod 64 = (((rest.length + 1 + j) % 64 : Nat) : Int) := tmod_nat _ 64
  refine wpc_sound (M := MS2) (PL := PLsu) (CU := noCut) TTok mixed _ _ _ ?_
  conv => whnf
  repeat ((refine And.intro (by first | omega | rfl | (dsimp only; omega)) ?_); conv => whnf)
  rw [hm]
  by_cases hj1 : j < padZ rest
  ·have : (rest.length + 1 + j) % 64 ≠ 56 := by omega
   conv => whnf
   repeat ((first | (refine ifB_pos (decide_eq_true (by first | omega | rfl | (dsimp only; omega))) ?_) | (refine Or.inl ⟨⟨rfl, ?_⟩, ?_⟩; (focus (first | rfl | (simp; done) | (rw [toksC_length]; omega)))) | refine ⟨rfl, ?_⟩ | (refine ⟨⟨rfl, rfl, ?_, ?_⟩, ?_⟩; (focus (first | (simp [lenB, offB]; done) | (simp [lenB, offB]; omega))); (focus (first | (simp [limB, lenB, offB]; done) | (simp [limB, lenB, offB]; omega))))); conv => whnf)
   refine ⟨j + 1, by omega, by omega, weaker_of [(0, 0), (1, 1), (2, 4)] rfl rfl ⟨⟨rfl, rfl⟩, ⟨rfl, rfl⟩, ⟨rfl, rfl, by omega, rfl, fun h => h⟩, trivial⟩ ⟨shC_les _ _ _, lesP_bys (l := List.replicate 32 0) rfl, ?_, trivial⟩⟩
   refine lesP_bys ?_
   rw [show padN rest (j + 1) = padN rest j ++ [0] by simp [padN, List.replicate_succ']]
   simp [bys]
  ·obtain rfl : j = padZ rest := by omega
   have h56 : (rest.length + 1 + padZ rest) % 64 = 56 := by omega
   conv => whnf
   repeat ((refine ifB_neg (decide_eq_false (by first | omega | rfl | (dsimp only; omega))) ?_); conv => whnf)
   have hP : (padN rest (padZ rest)).length = rest.length + 1 + padZ rest := hL
   have hPb : Byt (padN rest (padZ rest)) := padN_byt hr _
   have hTb : rest.length + 1 + padZ rest ≤ 200 := by omega
   clear hm hj1
   unfold sumL tailL
   generalize padN rest (padZ rest) = P at hP hPb ⊢
   generalize rest.length + 1 + padZ rest = T at hP h56 hTb ⊢
   clear hL hz hj
   refine Does.loop (fun j : Nat => mkSt [(0, .ptr 0 0), (2, .ptr 1 0), (3, .sl 2 0 (T + j) 1 false), (4, .int .i64 (7 - (j : Int)))] [(0, shC h rest n), (1, List.replicate 32 (.int .u8 0)), (2, bys (lenN P n j))] 3 69) (fun j => j ≤ 8) (fun j => 8 - j) ?_ 0 (Nat.zero_le _) ?_
   ·intro j hj
    have hq := lenN_len P n j
    rcases Nat.lt_or_ge j 8 with j1 | j1
    ·refine wpc_sound (M := MS2) (PL := PLsu) (CU := noCut) TTok mixed _ _ _ ?_
     conv => whnf
     repeat ((first | (refine ifB_pos (decide_eq_true (by first | omega | rfl | (dsimp only; omega))) ?_) | refine ⟨_, rfl, ?_⟩); conv => whnf)
     refine fit_wrap ?_
     conv => whnf
     repeat ((refine And.intro (by first | omega | rfl | (dsimp only; omega)) ?_); conv => whnf)
     refine fit_wrap ?_
     conv => whnf
     repeat ((first | (refine fit_i64 ⟨by first | omega | rfl | (dsimp only; omega), by first | omega | rfl | (dsimp only; omega)⟩ ?_) | (refine And.intro (by first | omega | rfl | (dsimp only; omega)) ?_)); conv => whnf)
     refine fit_wrap ?_
     conv => whnf
     repeat ((first | (refine fit_i64 ⟨by first | omega | rfl | (dsimp only; omega), by first | omega | rfl | (dsimp only; omega)⟩ ?_) | (refine Or.inl ⟨⟨rfl, ?_⟩, ?_⟩; (focus (first | rfl | (simp; done) | (rw [toksC_length]; omega)))) | refine ⟨rfl, ?_⟩ | (refine ⟨⟨rfl, rfl, ?_, ?_⟩, ?_⟩; (focus (first | (simp [lenB, offB]; done) | (simp [lenB, offB]; omega))); (focus (first | (simp [limB, lenB, offB]; done) | (simp [limB, lenB, offB]; omega))))); conv => whnf)
     refine ⟨j + 1, by omega, by omega, weaker_of [(0, 0), (1, 1), (2, 4)] rfl rfl ⟨⟨rfl, rfl⟩, ⟨rfl, rfl⟩, ⟨rfl, rfl, by omega, rfl, fun h => h⟩, ⟨rfl, by omega⟩, trivial⟩ ⟨shC_les _ _ _, lesP_bys (l := List.replicate 32 0) rfl, ?_, trivial⟩⟩
     refine lesP_bys ?_
     simp [lenN, bys]
     rfl
    ·obtain rfl : j = 8 := by omega
     have hLb := lenN_byt hPb n 8
     generalize lenN P n 8 = L at hq hLb ⊢
     refine wpc_sound (M := MS2) (PL := PLsu) (CU := noCut) TTok mixed _ _ _ ?_
     conv => whnf
     repeat ((refine ifB_f ?_); conv => whnf)
     refine Does.freeze 2 rfl (Does.weakerTo' (env := [(0, .ptr 0 0), (2, .ptr 1 0), (3, .ro L.length (bys L))]) (heap := [(0, shC h rest n), (1, bys (List.replicate 32 0))]) (nx := 3) (n := 69) [(0, 0), (1, 1)] rfl rfl ⟨⟨rfl, rfl⟩, ⟨rfl, rfl⟩, ⟨by rw [hq, hP], (by rw [← hP, ← hq]; exact whole_bys _), pureL_bys _⟩, trivial⟩ ⟨shC_les _ _ _, lesP_bys rfl, trivial⟩ ?_)
     refine wpc_sound (M := MS2) (PL := PLsu) (CU := noCut) TTok mixed _ _ _ ?_
     conv => whnf
     repeat ((first | refine ⟨rfl, ?_⟩ | refine ⟨_, rfl, ?_⟩ | (refine ⟨⟨rfl, rfl, ?_⟩, ?_⟩; (focus (first | assumption | exact pureL_bys _ | exact pureL_toks _)))); conv => whnf)
     have hLl : L.length = 64 * (L.length / 64) := by rw [hP] at hq; omega
     have hLm : L.length ≤ 300 := by rw [hP] at hq; omega
     clear hq hP h56 hTb hPb
     refine Does.loop (fun c : Nat => mkSt [(0, .ptr 0 0), (2, .ptr 1 0), (3, .ro (L.drop (64 * c)).length (bys (L.drop (64 * c)))), (5, .ptr 3 0)] [(0, shC h rest n), (1, bys (List.replicate 32 0)), (3, c8 (wN h L c))] 4 69) (fun c => 64 * c ≤ L.length) (fun c => L.length - 64 * c) ?_ 0 (by omega) ?_
     ·intro c hc
      have hv := wN_len (h := h) hh L c
      have hd : (L.drop (64 * c)).length = L.length - 64 * c := by simp
      have hn : wN h L (c + 1) = takeW (wN h L c) ((L.drop (64 * c)).take 64) := rfl
      by_cases c1 : 64 * c < L.length
      ·have ht := stake_ok (wN h L c) ((L.drop (64 * c)).take 64) hv (fun x hx => hLb x (List.mem_of_mem_drop (List.mem_of_mem_take hx))) (by simp; omega)
       have e2 : L.drop (64 * (c + 1)) = (L.drop (64 * c)).drop 64 := by rw [List.drop_drop]; congr 1
       rw [← hn] at ht
       generalize hv' : wN h L (c + 1) = v' at ht
       generalize wN h L c = v at ht hv
       clear hn
       generalize L.drop (64 * c) = x at ht hd e2 ⊢
       refine wpc_sound (M := MS2) (PL := PLsu) (CU := noCut) TTok mixed _ _ _ ?_
       conv => whnf
       repeat ((refine ifB_pos (decide_eq_true (by first | omega | rfl | (dsimp only; omega))) ?_); conv => whnf)
       refine ⟨by kernel_rfl, ?_⟩
       conv => whnf
       repeat ((first | refine ⟨pureL_cutB _ _ _ _, ?_⟩ | refine ⟨rfl, ?_⟩ | refine ⟨_, rfl, ?_⟩ | (refine ⟨⟨?_, ?_⟩, ?_⟩; (focus (simp; done)); (focus (first | (simp only [okB]; omega) | (simp [okB]; omega))))); conv => whnf)
       refine ⟨_, _, ht.argB (by simp [lenB, endB, offB]) (cut_to64 x), by first | rfl | simp [noRoIf, noRoL, noRoV, noRoL_bys], ?_⟩
       conv => whnf
       repeat ((first | (refine ⟨⟨rfl, rfl, ?_⟩, ?_⟩; (focus (first | assumption | exact pureL_bys _ | exact pureL_toks _))) | (refine ⟨⟨?_, ?_⟩, ?_⟩; (focus (simp; done)); (focus (first | (simp only [okB]; omega) | (simp [okB]; omega))))); conv => whnf)
       refine ⟨c + 1, by omega, by omega, weaker_of [(0, 0), (1, 1), (3, 3)] rfl rfl ⟨⟨rfl, rfl⟩, ⟨rfl, rfl⟩, ⟨?_, ?_, pureL_bys _⟩, ⟨rfl, rfl⟩, trivial⟩ ⟨shC_les _ _ _, lesP_bys rfl, ⟨⟨rfl, by rw [hv']⟩, ⟨rfl, by rw [hv']⟩, ⟨rfl, by rw [hv']⟩, ⟨rfl, by rw [hv']⟩, ⟨rfl, by rw [hv']⟩, ⟨rfl, by rw [hv']⟩, ⟨rfl, by rw [hv']⟩, ⟨rfl, by rw [hv']⟩, trivial⟩, trivial⟩⟩
       ·rw [e2]; simp [lenB, endB, offB]
       ·rw [e2]; exact cut_from64 x _ rfl
      ·obtain rfl : c = L.length / 64 := by omega
       generalize wN h L (L.length / 64) = w at hv ⊢
       refine wpc_sound (M := MS2) (PL := PLsu) (CU := noCut) TTok mixed _ _ _ ?_
       conv => whnf
       repeat ((first | (refine ifB_neg (decide_eq_false (by first | omega | rfl | (dsimp only; omega))) ?_) | refine ⟨rfl, ?_⟩); conv => whnf)
       refine Does.loop (fun i : Nat => mkSt [(0, .ptr 0 0), (2, .ptr 1 0), (5, .ptr 3 0), (6, .ptr 4 0), (52, .int .i64 i)] [(0, shC h rest n), (1, bys (List.replicate 32 0)), (3, u32s w), (4, bys (outN w i))] 5 69) (fun i => i ≤ 32) (fun i => 32 - i) ?_ 0 (by omega) ?_
       ·intro i hi
        have ho := outN_len w i
        rcases Nat.lt_or_ge i 32 with i1 | i1
        ·have t1 : (i : Int).tdiv 4 = ((i / 4 : Nat) : Int) := tdiv_nat i 4
         have t2 : (i : Int).tmod 4 = ((i % 4 : Nat) : Int) := tmod_nat i 4
         refine wpc_sound (M := MS2) (PL := PLsu) (CU := noCut) TTok mixed _ _ _ ?_
         conv => whnf
         repeat ((first | (refine ifB_pos (decide_eq_true (by first | omega | rfl | (dsimp only; omega))) ?_) | (refine fit_i64 ⟨by first | omega | rfl | (dsimp only; omega), by first | omega | rfl | (dsimp only; omega)⟩ ?_) | (refine And.intro (by first | omega | rfl | (dsimp only; omega)) ?_)); conv => whnf)
         rw [t1]
         conv => whnf
         refine ⟨_, u32s_get (l := w) (i := i / 4) (by rw [hv]; omega) (by simp; omega), ?_⟩
         conv => whnf
         repeat ((first | (refine fit_i64 ⟨by first | omega | rfl | (dsimp only; omega), by first | omega | rfl | (dsimp only; omega)⟩ ?_) | (refine And.intro (by first | omega | rfl | (dsimp only; omega)) ?_)); conv => whnf)
         rw [t2]
         conv => whnf
         refine fit_wrap ?_
         conv => whnf
         repeat ((refine And.intro (by first | omega | rfl | (dsimp only; omega)) ?_); conv => whnf)
         refine ⟨⟨rfl, rfl, by simp [ho]; omega⟩, ?_⟩
         conv => whnf
         repeat ((refine fit_i64 ⟨by first | omega | rfl | (dsimp only; omega), by first | omega | rfl | (dsimp only; omega)⟩ ?_); conv => whnf)
         refine ⟨i + 1, by omega, by omega, weaker_of [(0, 0), (1, 1), (3, 3), (4, 4)] rfl rfl ⟨⟨rfl, rfl⟩, ⟨rfl, rfl⟩, ⟨rfl, rfl⟩, ⟨rfl, rfl⟩, ⟨rfl, rfl⟩, trivial⟩ ⟨shC_les _ _ _, lesP_bys rfl, u32s_les rfl, ?_, trivial⟩⟩
         refine lesP_bys ?_
         rw [outN]
         exact (congrArg (fun k => setN (bys (outN w i)) k _) (by simp)).trans (setN_bys _ _ _ (by omega))
        ·obtain rfl : i = 32 := by omega
         generalize outN w 32 = x at ho ⊢
         refine wpc_sound (M := MS2) (PL := PLsu) (CU := noCut) TTok mixed _ _ _ ?_
         conv => whnf
         refine ifB_f ?_
         conv => whnf
         refine ⟨_, takeN_all (cs := bys x) (by simp [ho]), ?_⟩
         conv => whnf
         refine ⟨⟨ones_bys x, (by show (bys x).length = 32; simp [ho]), (by show 0 + 32 ≤ (bys (List.replicate 32 0)).length; simp)⟩, ?_⟩
         conv => whnf
         refine ⟨bys x, ?_, ?_⟩
         ·show takeN 32 (setN (bys (List.replicate 32 0)) 0 (bys x)) = some (bys x)
          rw [setN_all (by simp [ho])]
          exact takeN_all (by simp [ho])
         conv => whnf
         repeat ((first | refine ⟨⟨rfl, rfl⟩, ?_⟩ | (refine ⟨⟨rfl, rfl, ?_⟩, ?_⟩; (focus (first | assumption | exact pureL_bys _ | exact pureL_toks _)))); conv => whnf)
         exact demsP_bys _ _ rfl
       ·exact weaker_of [(0, 0), (1, 1), (3, 3), (4, 4)] rfl rfl ⟨⟨rfl, rfl⟩, ⟨rfl, rfl⟩, ⟨rfl, rfl⟩, ⟨rfl, rfl⟩, ⟨rfl, rfl⟩, trivial⟩ ⟨shC_les _ _ _, lesP_bys rfl, u32s_les (c8_eq hv).symm, lesP_bys (l := List.replicate 32 0) rfl, trivial⟩
     ·exact weaker_of [(0, 0), (1, 1), (3, 3)] rfl rfl ⟨⟨rfl, rfl⟩, ⟨rfl, rfl⟩, ⟨rfl, rfl, pureL_bys _⟩, ⟨rfl, rfl⟩, trivial⟩ ⟨shC_les _ _ _, lesP_bys rfl, (show lesP _ (c8 h) (c8 h) from c8_les _), trivial⟩
   ·exact weaker_of [(0, 0), (1, 1), (2, 2)] rfl rfl ⟨⟨rfl, rfl⟩, ⟨rfl, rfl⟩, ⟨rfl, rfl, rfl, rfl, fun h => h⟩, ⟨rfl, rfl⟩, trivial⟩ ⟨shC_les _ _ _, lesP_bys (l := List.replicate 32 0) rfl, lesP_bys rfl, trivial⟩
 ·refine weaker_of [(0, 0), (1, 1), (2, 4)] rfl rfl ⟨⟨rfl, rfl⟩, ⟨rfl, rfl⟩, ⟨rfl, rfl, by first | rfl | simp, rfl, fun h => h⟩, trivial⟩ ⟨shC_les _ _ _, lesP_bys (l := List.replicate 32 0) rfl, ?_, trivial⟩
  exact lesP_bys (by simp [padN, bys])
end
section
--KR
attribute [local irreducible] ifB fitP Does Weaker
def shaL (b : List Int) : List Int := sumL (wN hF b (b.length / 64)) (b.drop (64 * (b.length / 64))) b.length
theorem sumL_len (h rest : List Int) (n : Int) : (sumL h rest n).length = 32 := by
 unfold sumL
 generalize wN h (tailL rest n) ((tailL rest n).length / 64) = w
 exact outN_len w 32
theorem shaL_len (b : List Int) : (shaL b).length = 32 := by
 unfold shaL
 exact sumL_len _ _ _
theorem outN_byt (w : List Int) : ∀ i, Byt (outN w i)
 | 0 => fun x hx => by simp only [outN, List.mem_replicate] at hx; omega
 | i + 1 => fun x hx => by
  rw [outN] at hx
  rcases List.mem_or_eq_of_mem_set hx with h | h
  ·exact outN_byt w i x h
  ·rw [h]; exact u8_wrap _
theorem sumL_byt (h rest : List Int) (n : Int) : Byt (sumL h rest n) := by
 unfold sumL
 generalize wN h (tailL rest n) ((tailL rest n).length / 64) = w
 exact outN_byt w 32
theorem shaL_byt (b : List Int) : Byt (shaL b) := by
 unfold shaL
 exact sumL_byt _ _ _
set_option maxHeartbeats 1000000 in
theorem ssum_ok' (h rest : List Int) (n : Int) (hh : h.length = 8) (hr : Byt rest) (hl : rest.length < 64) : ACall Tryz.prog 87 [.ref (shC h rest n)] (.agg (c32 (sumL h rest n) [])) [.ref (shC h rest n)] := by
 have h3 := ssum_ok h rest n hh hr hl
 have hx := sumL_len h rest n
 generalize sumL h rest n = x at h3 hx ⊢
 rw [c32_eq hx, List.append_nil]
 exact h3
theorem c32_dems1 {H : Heap} {x : List Int} {zs : List AV} {K : List Nat → Prop} (hz : zs = c32 x []) (h : K []) : demsP H [.agg (c32 x [])] [.agg zs] K := by
 subst hz
 simp only [demsP, demP]
 refine c32_dems ?_
 simpa only [demsP, and_self, true_and, List.nil_append] using h
attribute [local irreducible] demsP
set_option maxRecDepth 20000 in
set_option maxHeartbeats 2000000 in
theorem sha_ok (b : List Int) (hb : Byt b) (hl : b.length ≤ 400000) : ACall Tryz.prog 58 [.ro b.length (bys b)] (.agg (c32 (shaL b) [])) [] := by
 have h1 := new_ok
 have h2 := swrite_ok b hb hl
 have h3 := ssum_ok' (wN hF b (b.length / 64)) (b.drop (64 * (b.length / 64))) b.length (wN_len rfl b _) (fun x hx => hb x (List.mem_of_mem_drop hx)) (by simp; omega)
 unfold shaL
 generalize wN hF b (b.length / 64) = v at h2 h3 ⊢
 generalize sumL v (b.drop (64 * (b.length / 64))) b.length = x at h3 ⊢
 refine ACall.of_does TTok Tryz.func58 rfl Tryz.call58 rfl (wpc_sound (M := MS2) (PL := PL0) (CU := cutAt [99999]) TTok mixed _ _ _ ?_)
 conv => whnf
 repeat ((refine ⟨rfl, ?_⟩); conv => whnf)
 refine ⟨_, _, h1, by first | rfl | simp [noRoIf, noRoL, noRoV, noRoL_bys], ?_⟩
 conv => whnf
 repeat ((first | refine ⟨pureL_bys _, ?_⟩ | refine ⟨rfl, ?_⟩); conv => whnf)
 refine ⟨_, _, h2, by first | rfl | simp [noRoIf, noRoL, noRoV, noRoL_bys], ?_⟩
 conv => whnf
 repeat ((first | refine ⟨pureL_bys _, ?_⟩ | refine ⟨rfl, ?_⟩); conv => whnf)
 refine ⟨_, _, h3, by first | rfl | simp [noRoIf, noRoL, noRoV, noRoL_bys], ?_⟩
 conv => whnf
 repeat ((refine ⟨(⟨by kernel_rfl, by kernel_rfl, Nat.le_of_ble_eq_true (by kernel_rfl)⟩ : AV.ones _ = true ∧ _ ∧ _), ?_⟩); conv => whnf)
 refine Does.tidy [(2, .ptr 0 0)] [(0, c32 x []), (1, shC v (b.drop (64 * (b.length / 64))) b.length)] 2 10 rfl rfl rfl (by kernel_rfl) (by kernel_rfl) ?_
 refine wpc_sound (M := MS2) (PL := PL0) (CU := noCut) TTok mixed _ _ _ ?_
 conv => whnf
 refine ⟨c32 x [], by kernel_rfl, ?_⟩
 conv => whnf
 refine c32_dems1 (by kernel_rfl) ?_
 rfl
end
section

theorem ACall.ownArg {P : Program} {f : FuncId} {len esz : Nat} {cs : List AV} {r : AV} (h : ACall P f [.ro len cs] r []) : ACall P f [.own len esz cs] r [] := by
 refine ⟨h.1, fun Z E vals X hh hr hn hz => ?_⟩
 simp only [RepBL] at hr
 obtain ⟨u, us, Y, Y', e1, e2, h1, rfl, rfl⟩ := hr
 subst e1
 rw [List.append_nil] at e2
 subst e2
 have hro := roOf_own (Z := Z) (fun b hb => (hh.V b).2 (.inl (.inl hb))) hz h1
 have hW : ∀ b, ¬ Wr E.ρ noHeap b := fun b ⟨id, c, k, _⟩ => by cases k
 have H1 : HeapRep (fun b => Z b ∨ b ∈ ([] : List Nat)) ⟨E.η, E.ρ, Z, E.w⟩ noHeap 0 := {
  blk := fun id c k => by cases k
  inj := fun id id' n k => (k rfl).elim
  V := fun b => ⟨fun k => .inl (.inl k), fun k => by
   rcases k with (k | k) | k
   ·exact k
   ·exact absurd k (List.not_mem_nil)
   ·exact (hW b k).elim⟩
  apart := fun id n k => (k rfl).elim
  fresh := hh.fresh
  one := hh.one
  old := hh.old
  zold := fun b k => by
   rcases k with k | k
   ·exact hh.zold b (.inl k)
   ·exact absurd k (List.not_mem_nil)
  tab := fun g k l hg => by
   obtain ⟨t1, t2, t3⟩ := hh.tab g k l hg
   exact ⟨t1, fun hv => t2 ((hh.V g).2 (.inl (.inl hv))), t3⟩ }
 have hb : RepBL ⟨E.η, E.ρ, Z, E.w⟩ [.ro len cs] [u] [] := by
  simp only [RepBL]
  exact ⟨u, [], [], [], rfl, rfl, hro, rfl, rfl⟩
 refine (h.2 Z ⟨E.η, E.ρ, Z, E.w⟩ [u] [] H1 hb List.nodup_nil (fun b hb => absurd hb (List.not_mem_nil))).mono ?_
 rintro e w' ⟨v, E', Xr, he, hw, hη, hev, hV, hB, hnd, hX⟩
 exact ⟨v, E', Xr, he, hw, hη, hev.mono (fun x hx => absurd hx (List.not_mem_nil)), hV, hB, hnd, fun b hb => ⟨(hX b hb).1, fun k => absurd ((hX b hb).2.1 k) (List.not_mem_nil), (hX b hb).2.2⟩⟩
mutual
theorem unborder_pure {E : Env} : ∀ (x : AV) (v : Value) (X : List Nat), pureV x = true → RepB E x v X → RepV E x v ∧ X = []
 | .own _ _ _, v, X, hp, _ => by simp [pureV] at hp
 | .ref _, v, X, hp, _ => by simp [pureV] at hp
 | .sl _ _ _ _ _, v, X, hp, _ => by simp [pureV] at hp
 | .ptr _ _, v, X, hp, _ => by simp [pureV] at hp
 | .agg cs, v, X, hp, h => by
  simp only [RepB] at h
  obtain ⟨vs, rfl, hl⟩ := h
  have := unborderL_pure cs _ X (by simpa [pureV] using hp) hl
  simp only [RepV]
  exact ⟨⟨vs, rfl, this.1⟩, this.2⟩
 | .tuple cs, v, X, hp, h => by
  simp only [RepB] at h
  obtain ⟨vs, rfl, hl⟩ := h
  have := unborderL_pure cs _ X (by simpa [pureV] using hp) hl
  simp only [RepV]
  exact ⟨⟨vs, rfl, this.1⟩, this.2⟩
 | .top, v, X, hp, h => by simp only [RepB] at h; exact ⟨h.2.1, h.2.2⟩
 | .int k n, v, X, hp, h => by simp only [RepB] at h; exact ⟨h.2.1, h.2.2⟩
 | .bool b, v, X, hp, h => by simp only [RepB] at h; exact ⟨h.2.1, h.2.2⟩
 | .anyb, v, X, hp, h => by simp only [RepB] at h; exact ⟨h.2.1, h.2.2⟩
 | .str s, v, X, hp, h => by simp only [RepB] at h; exact ⟨h.2.1, h.2.2⟩
 | .nil, v, X, hp, h => by simp only [RepB] at h; exact ⟨h.2.1, h.2.2⟩
 | .ro len cs, v, X, hp, h => by simp only [RepB] at h; exact ⟨h.2.1, h.2.2⟩
 | .rop cs, v, X, hp, h => by simp only [RepB] at h; exact ⟨h.2.1, h.2.2⟩
 | .nilp, v, X, hp, h => by simp only [RepB] at h; exact ⟨h.2.1, h.2.2⟩
 | .hid i, v, X, hp, h => by simp only [RepB] at h; exact ⟨h.2.1, h.2.2⟩
 | .fn f cs, v, X, hp, h => by simp only [RepB] at h; exact ⟨h.2.1, h.2.2⟩
theorem unborderL_pure {E : Env} : ∀ (cs : List AV) (vs : List Value) (X : List Nat), pureL cs = true → RepBL E cs vs X → RepL E cs vs ∧ X = []
 | [], vs, X, _, h => by
  simp only [RepBL] at h
  simp only [RepL]
  exact h
 | c :: cs, vs, X, hp, h => by
  simp only [pureL, Bool.and_eq_true] at hp
  simp only [RepBL] at h
  obtain ⟨u, us, Y, Y', rfl, rfl, h1, h2⟩ := h
  have a := unborder_pure c u Y hp.1 h1
  have b := unborderL_pure cs us Y' hp.2 h2
  simp only [RepL]
  exact ⟨⟨u, us, rfl, a.1, b.1⟩, by rw [a.2, b.2]; rfl⟩
end
theorem ACall.les {P : Program} {f : FuncId} {xs ys : List AV} {r : AV} (h : ACall P f ys r []) (hx : pureL xs = true) (hy : pureL ys = true) (hl : lesP (fun _ => none) ys xs) : ACall P f xs r [] := by
 refine ⟨h.1, fun Z E vals X hh hr hn hz => ?_⟩
 obtain ⟨k1, rfl⟩ := unborderL_pure xs vals X hx hr
 have k2 := lesP_ok (E := E) (E' := E) ⟨rfl, rfl⟩ (fun b hb => hb) (fun i j n hi => by cases hi) ys xs _ hl k1
 have k3 := borderL_pure ys vals hy k2
 have := h.2 Z E vals [] hh k3 hn hz
 rw [refVals_pure ys vals hy] at this
 rw [refVals_pure xs vals hx]
 exact this
end
end Go.Proofs.YtgcmddhdnfmdnaaGreatDoor.Abs
