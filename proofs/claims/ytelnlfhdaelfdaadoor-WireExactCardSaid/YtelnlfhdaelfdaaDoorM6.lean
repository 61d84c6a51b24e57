/- Texts GN to X3, merged. -/
import Derived.Test.YtelnlfhdaelfdaaDoorRows
import Derived.Test.YtelnlfhdaelfdaaDoorProg
import Derived.Lib.LaidU8T
import Derived.PinnedBridge
import Derived.Test.YtelnlfhdaelfdaaDoorCards
import Derived.Test.YtelnlfhdaelfdaaDoorTie
import Derived.WalkKit
import Derived.ProofKit
import Derived.OpenShut
import Derived.ShutString
import Derived.ChangeOld
import Derived.Below
import Derived.SizedLaws
import Derived.Carry
import Derived.ChangeSlices
import Derived.LaidMore
import Derived.Stop.Joined
import Derived.SevenTiedAt
import Derived.Lay
import Derived.Test.YtelnlfhdaelfdaaDoorM5
section
--KR
set_option linter.unusedVariables false
set_option linter.unusedSimpArgs false
namespace Go.Proofs.YtelnlfhdaelfdaaDoor.Abs
open Go
attribute [local irreducible] ifB fitP Does Weaker
theorem entB_enc {e : Ent} (h : entR e = true) : (entB e).1 = (encR validR (entTs e)).1 := by unfold entB; rw [if_pos h]
theorem prfB_enc {p : Prf} (hp : PrfS p) (h : prfR p = true) : (prfB p).1 = (encR validR (prfT p)).1 := by
  have g := prfR_ents h
  unfold prfB prfT
  rw [if_pos h, entB_enc (entB_right g.1).1, entB_enc (entB_right g.2.1).1]
def PLrmb : Nat → Bool × Plan := plans [(3, (false, (takesTo [2, 3, 5, 6, 8, 9, 10] (.all [(0, (.all [(1, (.all [(4, (.all [(7, (.all [(11, (.all [(12, (takes [13]))]))]))]))]))]))])))), (11, (false, (takesTo [0, 2, 3, 6, 7, 9, 10, 13] (.all [(1, (.all [(4, (.all [(5, (.all [(8, (.all [(11, (.all [(12, (.all [(14, (.all [(15, (.all [(16, (takes [17]))]))]))]))]))]))]))]))]))])))), (12, (false, (takesTo [2, 3, 5, 6, 8, 9, 10] (.all [(0, (.all [(1, (.all [(4, (.all [(7, (.all [(11, (.all [(12, (takes [13]))]))]))]))]))]))]))))]
set_option maxRecDepth 20000 in
set_option maxHeartbeats 2000000 in
theorem refmsgb_ok (m : Msg) (hm : MsgS m) (hr : msgR m = true) : ACall Tryd.prog 35 [.agg (msgC m)] (.own (msgB m).1.length 1 (bys (msgB m).1)) [] := by
  obtain ⟨g1, g2, g3, g4⟩ := msgR_facts hr
  unfold msgB
  rw [if_pos hr]
  refine ACall.of_does TTok Tryd.func35 rfl Tryd.call35 rfl (wpc_sound (M := MF) (PL := PLrmb) (CU := cutAt [100002]) TTok mixed _ _ _ ?_)
  conv => whnf
  repeat ((refine ⟨rfl, ?_⟩); conv => whnf)
  refine Does.freeze 0 rfl (Does.tidy [(1, .rop (msgC m)), (3, .nil)] [] 1 118 rfl rfl rfl (by kernel_rfl) (by kernel_rfl) ?_)
  refine wpc_sound (M := MF) (PL := PLrmb) (CU := noCut) TTok mixed _ _ _ ?_
  unfold msgT
  by_cases k1 : m.kind = 1
  · rw [if_pos k1]
    conv => whnf
    repeat ((first | (refine ifB_pos (decide_eq_true (by first | omega | rfl | (dsimp only; omega))) ?_) | refine ⟨_, rfl, ?_⟩); conv => whnf)
    refine ⟨by kernel_rfl, ?_⟩
    conv => whnf
    repeat ((first | refine ⟨rfl, ?_⟩ | refine ⟨_, rfl, ?_⟩); conv => whnf)
    refine ⟨_, _, refarray_ok 4, by first | rfl | simp [noRoIf, noRoL, noRoV, noRoL_bys], ?_⟩
    conv => whnf
    repeat ((refine ⟨rfl, ?_⟩); conv => whnf)
    refine ⟨_, _, refnum_ok 3, by first | rfl | simp [noRoIf, noRoL, noRoV, noRoL_bys], ?_⟩
    conv => whnf
    repeat ((refine ⟨rfl, ?_⟩); conv => whnf)
    refine ⟨_, _, refnum_ok m.frm, by first | rfl | simp [noRoIf, noRoL, noRoV, noRoL_bys], ?_⟩
    conv => whnf
    repeat ((refine ⟨rfl, ?_⟩); conv => whnf)
    refine ⟨_, _, refnum_ok m.to, by first | rfl | simp [noRoIf, noRoL, noRoV, noRoL_bys], ?_⟩
    conv => whnf
    repeat ((refine ⟨rfl, ?_⟩); conv => whnf)
    refine ⟨_, _, refarray_ok m.hs.length, by first | rfl | simp [noRoIf, noRoL, noRoV, noRoL_bys], ?_⟩
    conv => whnf
    repeat ((refine ⟨⟨rfl, rfl⟩, ?_⟩); conv => whnf)
    have hL := hm.hl
    refine Does.loop (fun c : Nat => mkSt [(1, .rop (msgC m)), (3, .sl 1 0 (5 + 5 * c) 3 false), (4, .int .i64 c)] [(1, toksC (frT m ++ hdsT (m.hs.take c)))] 2 118)
      (fun c => c ≤ m.hs.length) (fun c => m.hs.length - c) ?_ 0 (Nat.zero_le _) ?_
    · intro c hcl
      rcases Nat.lt_or_ge c m.hs.length with c2 | c2
      · have hh := hm.hs _ (List.getElem_mem c2)
        have hlen : (frT m ++ hdsT (m.hs.take c)).length = 5 + 5 * c := by rw [List.length_append, hdsT_len]; simp [frT] <;> omega
        refine wpc_sound (M := MF) (PL := PLrmb) (CU := cutAt [100008]) TTok mixed _ _ _ ?_
        conv => whnf
        repeat ((first | (refine ifB_pos (decide_eq_true (by first | omega | rfl | (dsimp only; omega))) ?_) | refine ⟨_, rfl, ?_⟩ | (refine ⟨⟨?_, ?_, ?_⟩, ?_⟩; (focus omega); (focus (first | omega | (simp; done) | (simp; omega))); (focus (first | (rw [prfs_len]; simp; omega) | (rw [ents_len]; simp; omega) | (rw [hds_len]; simp; omega) | (rw [lets_len]; simp; omega))))); conv => whnf)
        refine ⟨_, takeN_row hdC_length c2 (by simp; omega) rfl, ?_⟩
        conv => whnf
        repeat ((first | refine ⟨(⟨by kernel_rfl, by kernel_rfl, Nat.le_of_ble_eq_true (by kernel_rfl)⟩ : AV.ones _ = true ∧ _ ∧ _), ?_⟩ | refine ⟨rfl, ?_⟩); conv => whnf)
        have hnext : frT m ++ hdsT (m.hs.take (c + 1)) = (frT m ++ hdsT (m.hs.take c)) ++ hdT m.hs[c] := by
          rw [take_snoc c2, hdsT_app, List.append_assoc]; simp [hdsT]
        generalize frT m ++ hdsT (m.hs.take c) = T at hlen hnext ⊢
        generalize m.hs[c] = q at hh hnext ⊢
        have t1 := (twin_ok q.au (by have := hh.au.2; omega)).roRes
        have t2 := (twin_ok q.id (by have := hh.id.2; omega)).roRes
        refine Does.freeze 2 rfl (Does.tidy [(1, .rop (msgC m)), (3, .sl 1 0 (5 + 5 * c) 3 false), (4, .int .i64 c), (5, .rop (hdC q))] [(1, frzL 2 (hdC q) (toksC T))] 3 118 rfl rfl rfl (by kernel_rfl) (by kernel_rfl) ?_)
        rw [frzL_toks]
        refine wpc_sound (M := MF) (PL := PLrmb) (CU := noCut) TTok mixed _ _ _ ?_
        rcases q with ⟨au, len, id, shut⟩
        cases shut
        all_goals
          conv => whnf
          repeat ((first | refine ifB_t ?_ | refine ifB_f ?_ | refine ⟨_, rfl, ?_⟩); conv => whnf)
          refine ⟨by kernel_rfl, ?_⟩
          conv => whnf
          repeat ((first | (refine ⟨⟨by first | (simp only [List.drop_zero, List.length_drop, hds_len]; omega) | exact Nat.le_of_ble_eq_true (by kernel_rfl), okB_none _⟩, ?_⟩) | refine ⟨rfl, ?_⟩ | refine ⟨_, rfl, ?_⟩); conv => whnf)
          refine ⟨_, _, refarray_ok 4, by first | rfl | simp [noRoIf, noRoL, noRoV, noRoL_bys], ?_⟩
          conv => whnf
          repeat ((refine ⟨rfl, ?_⟩); conv => whnf)
          refine ⟨_, _, t1.arg1 hh.au.2.symm (cut32 hh.au.2 _), by first | rfl | simp [noRoIf, noRoL, noRoV, noRoL_bys], ?_⟩
          conv => whnf
          repeat ((first | refine ⟨pureL_bys _, ?_⟩ | refine ⟨rfl, ?_⟩); conv => whnf)
          refine ⟨_, _, refbytes_ok au, by first | rfl | simp [noRoIf, noRoL, noRoV, noRoL_bys], ?_⟩
          conv => whnf
          repeat ((refine ⟨rfl, ?_⟩); conv => whnf)
          refine ⟨_, _, refnum_ok len, by first | rfl | simp [noRoIf, noRoL, noRoV, noRoL_bys], ?_⟩
          conv => whnf
          repeat ((refine ⟨rfl, ?_⟩); conv => whnf)
          refine ⟨_, _, t2.arg1 hh.id.2.symm (cut32 hh.id.2 _), by first | rfl | simp [noRoIf, noRoL, noRoV, noRoL_bys], ?_⟩
          conv => whnf
          repeat ((first | refine ⟨pureL_bys _, ?_⟩ | refine ⟨rfl, ?_⟩); conv => whnf)
          refine ⟨_, _, refbytes_ok id, by first | rfl | simp [noRoIf, noRoL, noRoV, noRoL_bys], ?_⟩
          conv => whnf
          repeat ((refine ⟨rfl, ?_⟩); conv => whnf)
          refine ⟨_, _, refnum_ok _, by first | rfl | simp [noRoIf, noRoL, noRoV, noRoL_bys], ?_⟩
          conv => whnf
          repeat ((first | (refine fit_i64 ⟨by first | omega | rfl | (dsimp only; omega), by first | omega | rfl | (dsimp only; omega)⟩ ?_) | (refine Or.inl ⟨⟨rfl, ?_⟩, ?_⟩; (focus (first | rfl | (simp; done) | (rw [toksC_length]; omega)))) | refine ⟨rfl, ?_⟩ | refine ⟨⟨rfl, rfl⟩, ?_⟩ | (refine ⟨⟨rfl, rfl, ?_, ?_⟩, ?_⟩; (focus (first | (simp [toksC_length]; done) | (simp [toksC_length]; omega))); (focus (first | (simp [limB, lenB, offB]; done) | (simp [limB, lenB, offB]; omega))))); conv => whnf)
          refine ⟨c + 1, by omega, by omega, weaker_of [(1, 4)] rfl rfl ⟨⟨rfl, msgC_pure m⟩, ⟨rfl, rfl, rfl, rfl, fun h => h⟩, ⟨rfl, rfl⟩, trivial⟩ ⟨?_, trivial⟩⟩
          rw [hnext]
          exact lesP_toks (by rw [toksC_append]; rfl)
      · obtain rfl : c = m.hs.length := by omega
        rw [List.take_length]
        have hlen : (frT m ++ hdsT m.hs).length = 5 + 5 * m.hs.length := by rw [List.length_append, hdsT_len]; simp [frT] <;> omega
        have hb := refEncode_ok (frT m ++ hdsT m.hs) (fun t ht => (fr_tokB hm t ht).1) (fun t ht => (fr_tokB hm t ht).2)
        refine wpc_sound (M := MF) (PL := PLrmb) (CU := noCut) TTok mixed _ _ _ ?_
        conv => whnf
        repeat ((first | (refine ifB_neg (decide_eq_false (by first | omega | rfl | (dsimp only; omega))) ?_) | (refine Or.inl ⟨⟨rfl, ?_⟩, ?_⟩; (focus (first | rfl | (simp; done) | (rw [toksC_length]; omega)))) | refine ⟨rfl, ?_⟩ | refine ⟨_, rfl, ?_⟩ | (refine And.intro ?_ ?_; (focus (first | (simp only [pureL, pureV, pureL_bys, Bool.and_true, Bool.and_self]; done) | (simp only [pureL, pureV, pureL_bys, pureL_toks, Bool.and_true, Bool.and_self]; done))))); conv => whnf)
        refine ⟨_, _, hb.arg1 (by omega) rfl, by first | rfl | simp [noRoIf, noRoL, noRoV, noRoL_bys], ?_⟩
        conv => whnf
        repeat ((refine ⟨⟨rfl, rfl, rfl, ?_, pureL_bys _⟩, ?_⟩; (focus (simp; done))); conv => whnf)
        rfl
    · exact weaker_of [(1, 1)] rfl rfl ⟨⟨rfl, msgC_pure m⟩, ⟨rfl, rfl, rfl, rfl, fun h => by cases h⟩, ⟨rfl, rfl⟩, trivial⟩ ⟨lesP_toks rfl, trivial⟩
  · rw [if_neg k1]
    rcases g4 with g4 | ⟨k2, g5, g6, gp, ge⟩
    · exact (k1 g4.1).elim
    conv => whnf
    repeat ((first | (refine ifB_neg (decide_eq_false (by first | omega | rfl | (dsimp only; omega))) ?_) | refine ⟨_, rfl, ?_⟩); conv => whnf)
    refine ⟨by kernel_rfl, ?_⟩
    conv => whnf
    repeat ((first | refine ⟨rfl, ?_⟩ | refine ⟨_, rfl, ?_⟩); conv => whnf)
    refine ⟨_, _, refarray_ok 5, by first | rfl | simp [noRoIf, noRoL, noRoV, noRoL_bys], ?_⟩
    conv => whnf
    repeat ((refine ⟨rfl, ?_⟩); conv => whnf)
    refine ⟨_, _, refnum_ok 4, by first | rfl | simp [noRoIf, noRoL, noRoV, noRoL_bys], ?_⟩
    conv => whnf
    repeat ((refine ⟨rfl, ?_⟩); conv => whnf)
    refine ⟨_, _, refnum_ok m.frm, by first | rfl | simp [noRoIf, noRoL, noRoV, noRoL_bys], ?_⟩
    conv => whnf
    repeat ((refine ⟨rfl, ?_⟩); conv => whnf)
    refine ⟨_, _, refnum_ok m.to, by first | rfl | simp [noRoIf, noRoL, noRoV, noRoL_bys], ?_⟩
    conv => whnf
    repeat ((refine ⟨rfl, ?_⟩); conv => whnf)
    refine ⟨_, _, refarray_ok m.ps.length, by first | rfl | simp [noRoIf, noRoL, noRoV, noRoL_bys], ?_⟩
    conv => whnf
    repeat ((refine ⟨⟨rfl, rfl⟩, ?_⟩); conv => whnf)
    have hL := hm.pl
    have hE := hm.el
    refine Does.loop (fun c : Nat => mkSt [(1, .rop (msgC m)), (3, .sl 1 0 (5 + c) 3 false), (7, .int .i64 c)] [(1, toksC (anT m ++ prT (m.ps.take c)))] 2 118)
      (fun c => c ≤ m.ps.length) (fun c => m.ps.length - c) ?_ 0 (Nat.zero_le _) ?_
    · intro c hcl
      rcases Nat.lt_or_ge c m.ps.length with c2 | c2
      · have hh := hm.ps _ (List.getElem_mem c2)
        have hlen : (anT m ++ prT (m.ps.take c)).length = 5 + c := by rw [List.length_append]; simp [anT, prT] <;> omega
        have hnext : anT m ++ prT (m.ps.take (c + 1)) = (anT m ++ prT (m.ps.take c)) ++ [⟨3, 0, (prfB m.ps[c]).1⟩] := by
          unfold prT; rw [take_snoc c2, List.map_append, ← List.append_assoc]; rfl
        have hb := (refpbytes_ok m.ps[c] hh).roRes
        rw [← prfB_enc hh (gp _ (List.getElem_mem c2))] at hb
        refine wpc_sound (M := MF) (PL := PLrmb) (CU := noCut) TTok mixed _ _ _ ?_
        conv => whnf
        repeat ((first | (refine ifB_pos (decide_eq_true (by first | omega | rfl | (dsimp only; omega))) ?_) | refine ⟨_, rfl, ?_⟩ | (refine ⟨⟨?_, ?_, ?_⟩, ?_⟩; (focus omega); (focus (first | omega | (simp; done) | (simp; omega))); (focus (first | (rw [prfs_len]; simp; omega) | (rw [ents_len]; simp; omega) | (rw [hds_len]; simp; omega) | (rw [lets_len]; simp; omega))))); conv => whnf)
        refine ⟨_, takeN_row prfC_length c2 (by simp; omega) rfl, ?_⟩
        conv => whnf
        repeat ((first | refine ⟨rfl, ?_⟩ | refine ⟨(show pureL _ = true from by first | exact prfC_pure _ | exact hdC_pure _ | exact msgC_pure _ | exact letC_pure _), ?_⟩); conv => whnf)
        generalize anT m ++ prT (m.ps.take c) = T at hlen hnext ⊢
        generalize m.ps[c] = q at hh hb hnext ⊢
        generalize prfB q = o at hb hnext ⊢
        refine ⟨_, _, hb, by first | rfl | simp [noRoIf, noRoL, noRoV, noRoL_bys], ?_⟩
        conv => whnf
        repeat ((first | refine ⟨pureL_bys _, ?_⟩ | refine ⟨rfl, ?_⟩); conv => whnf)
        refine ⟨_, _, refbytes_ok o.1, by first | rfl | simp [noRoIf, noRoL, noRoV, noRoL_bys], ?_⟩
        conv => whnf
        repeat ((first | (refine fit_i64 ⟨by first | omega | rfl | (dsimp only; omega), by first | omega | rfl | (dsimp only; omega)⟩ ?_) | (refine Or.inl ⟨⟨rfl, ?_⟩, ?_⟩; (focus (first | rfl | (simp; done) | (rw [toksC_length]; omega)))) | refine ⟨rfl, ?_⟩ | refine ⟨⟨rfl, rfl⟩, ?_⟩ | (refine ⟨⟨rfl, rfl, ?_, ?_⟩, ?_⟩; (focus (first | (simp [toksC_length]; done) | (simp [toksC_length]; omega))); (focus (first | (simp [limB, lenB, offB]; done) | (simp [limB, lenB, offB]; omega))))); conv => whnf)
        refine ⟨c + 1, by omega, by omega, weaker_of [(1, 3)] rfl rfl ⟨⟨rfl, msgC_pure m⟩, ⟨rfl, rfl, by first | rfl | omega, rfl, id⟩, ⟨rfl, rfl⟩, trivial⟩ ⟨?_, trivial⟩⟩
        rw [hnext]
        exact lesP_toks (by rw [toksC_append]; rfl)
      · obtain rfl : c = m.ps.length := by omega
        rw [List.take_length]
        have hlen : (anT m ++ prT m.ps).length = 5 + m.ps.length := by rw [List.length_append]; simp [anT, prT] <;> omega
        refine wpc_sound (M := MF) (PL := PLrmb) (CU := noCut) TTok mixed _ _ _ ?_
        conv => whnf
        repeat ((first | (refine ifB_neg (decide_eq_false (by first | omega | rfl | (dsimp only; omega))) ?_) | refine ⟨rfl, ?_⟩ | refine ⟨_, rfl, ?_⟩); conv => whnf)
        have hTB := an_tokB hm
        generalize anT m ++ prT m.ps = T0 at hlen hTB ⊢
        refine ⟨_, _, refarray_ok m.es.length, by first | rfl | simp [noRoIf, noRoL, noRoV, noRoL_bys], ?_⟩
        conv => whnf
        repeat ((first | (refine Or.inl ⟨⟨rfl, ?_⟩, ?_⟩; (focus (first | rfl | (simp; done) | (rw [toksC_length]; omega)))) | refine ⟨rfl, ?_⟩ | refine ⟨⟨rfl, rfl⟩, ?_⟩ | (refine ⟨⟨rfl, rfl, ?_, ?_⟩, ?_⟩; (focus (first | (simp [toksC_length]; done) | (simp [toksC_length]; omega))); (focus (first | (simp [limB, lenB, offB]; done) | (simp [limB, lenB, offB]; omega))))); conv => whnf)
        refine Does.loop (fun c : Nat => mkSt [(1, .rop (msgC m)), (3, .sl 1 0 (6 + m.ps.length + c) 3 false), (8, .int .i64 c)] [(1, toksC (T0 ++ ([⟨5, m.es.length, []⟩] : List Tok) ++ enT (m.es.take c)))] 2 118)
          (fun c => c ≤ m.es.length) (fun c => m.es.length - c) ?_ 0 (Nat.zero_le _) ?_
        · intro c hcl
          rcases Nat.lt_or_ge c m.es.length with c2 | c2
          · have hh := hm.es _ (List.getElem_mem c2)
            have hlen : (T0 ++ ([⟨5, m.es.length, []⟩] : List Tok) ++ enT (m.es.take c)).length = 6 + m.ps.length + c := by rw [List.length_append, List.length_append, hlen]; simp [enT] <;> omega
            have hnext : T0 ++ ([⟨5, m.es.length, []⟩] : List Tok) ++ enT (m.es.take (c + 1)) = (T0 ++ ([⟨5, m.es.length, []⟩] : List Tok) ++ enT (m.es.take c)) ++ [⟨3, 0, (entB m.es[c]).1⟩] := by
              unfold enT; rw [take_snoc c2, List.map_append, ← List.append_assoc]; rfl
            have hb := (refebytes_ok m.es[c] hh).roRes
            rw [← entB_enc (ge _ (List.getElem_mem c2))] at hb
            refine wpc_sound (M := MF) (PL := PLrmb) (CU := noCut) TTok mixed _ _ _ ?_
            conv => whnf
            repeat ((first | (refine ifB_pos (decide_eq_true (by first | omega | rfl | (dsimp only; omega))) ?_) | refine ⟨_, rfl, ?_⟩ | (refine ⟨⟨?_, ?_, ?_⟩, ?_⟩; (focus omega); (focus (first | omega | (simp; done) | (simp; omega))); (focus (first | (rw [prfs_len]; simp; omega) | (rw [ents_len]; simp; omega) | (rw [hds_len]; simp; omega) | (rw [lets_len]; simp; omega))))); conv => whnf)
            refine ⟨_, takeN_row entC_length c2 (by simp; omega) rfl, ?_⟩
            conv => whnf
            repeat ((first | refine ⟨entC_pure _, ?_⟩ | refine ⟨rfl, ?_⟩); conv => whnf)
            generalize T0 ++ ([⟨5, m.es.length, []⟩] : List Tok) ++ enT (m.es.take c) = T at hlen hnext ⊢
            generalize m.es[c] = q at hh hb hnext ⊢
            generalize entB q = o at hb hnext ⊢
            refine ⟨_, _, hb, by first | rfl | simp [noRoIf, noRoL, noRoV, noRoL_bys], ?_⟩
            conv => whnf
            repeat ((first | refine ⟨pureL_bys _, ?_⟩ | refine ⟨rfl, ?_⟩); conv => whnf)
            refine ⟨_, _, refbytes_ok o.1, by first | rfl | simp [noRoIf, noRoL, noRoV, noRoL_bys], ?_⟩
            conv => whnf
            repeat ((first | (refine fit_i64 ⟨by first | omega | rfl | (dsimp only; omega), by first | omega | rfl | (dsimp only; omega)⟩ ?_) | (refine Or.inl ⟨⟨rfl, ?_⟩, ?_⟩; (focus (first | rfl | (simp; done) | (rw [toksC_length]; omega)))) | refine ⟨rfl, ?_⟩ | refine ⟨⟨rfl, rfl⟩, ?_⟩ | (refine ⟨⟨rfl, rfl, ?_, ?_⟩, ?_⟩; (focus (first | (simp [toksC_length]; done) | (simp [toksC_length]; omega))); (focus (first | (simp [limB, lenB, offB]; done) | (simp [limB, lenB, offB]; omega))))); conv => whnf)
            refine ⟨c + 1, by omega, by omega, weaker_of [(1, 3)] rfl rfl ⟨⟨rfl, msgC_pure m⟩, ⟨rfl, rfl, by first | rfl | omega, rfl, id⟩, ⟨rfl, rfl⟩, trivial⟩ ⟨?_, trivial⟩⟩
            rw [hnext]
            exact lesP_toks (by rw [toksC_append]; rfl)
          · obtain rfl : c = m.es.length := by omega
            rw [List.take_length]
            have hlen : (T0 ++ ([⟨5, m.es.length, []⟩] : List Tok) ++ enT m.es).length = 6 + m.ps.length + m.es.length := by rw [List.length_append, List.length_append, hlen]; simp [enT] <;> omega
            have hb := refEncode_ok (T0 ++ ([⟨5, m.es.length, []⟩] : List Tok) ++ enT m.es) (fun t ht => (hTB t ht).1) (fun t ht => (hTB t ht).2)
            refine wpc_sound (M := MF) (PL := PLrmb) (CU := noCut) TTok mixed _ _ _ ?_
            conv => whnf
            repeat ((first | (refine ifB_neg (decide_eq_false (by first | omega | rfl | (dsimp only; omega))) ?_) | (refine Or.inl ⟨⟨rfl, ?_⟩, ?_⟩; (focus (first | rfl | (simp; done) | (rw [toksC_length]; omega)))) | refine ⟨rfl, ?_⟩ | refine ⟨_, rfl, ?_⟩ | (refine And.intro ?_ ?_; (focus (first | (simp only [pureL, pureV, pureL_bys, Bool.and_true, Bool.and_self]; done) | (simp only [pureL, pureV, pureL_bys, pureL_toks, Bool.and_true, Bool.and_self]; done))))); conv => whnf)
            refine ⟨_, _, hb.arg1 (by omega) rfl, by first | rfl | simp [noRoIf, noRoL, noRoV, noRoL_bys], ?_⟩
            conv => whnf
            repeat ((refine ⟨⟨rfl, rfl, rfl, ?_, pureL_bys _⟩, ?_⟩; (focus (simp; done))); conv => whnf)
            rfl
        · exact weaker_of [(1, 3)] rfl rfl ⟨⟨rfl, msgC_pure m⟩, ⟨rfl, rfl, by simp <;> omega, rfl, fun h => by cases h⟩, ⟨rfl, rfl⟩, trivial⟩ ⟨lesP_toks (by rw [show enT (List.take 0 m.es) = [] from rfl, List.append_nil, toksC_append]; rfl), trivial⟩
    · exact weaker_of [(1, 1)] rfl rfl ⟨⟨rfl, msgC_pure m⟩, ⟨rfl, rfl, rfl, rfl, fun h => by cases h⟩, ⟨rfl, rfl⟩, trivial⟩ ⟨lesP_toks (by simp [prT]; rfl), trivial⟩
end Go.Proofs.YtelnlfhdaelfdaaDoor.Abs
end
section
--KR
set_option linter.unusedVariables false
set_option linter.unusedSimpArgs false
namespace Go.Proofs.YtelnlfhdaelfdaaDoor.Abs
open Go
attribute [local irreducible] ifB fitP Does Weaker
def ML3 : FuncId → List Mode := orElse [(34, [.bw, .bw]), (39, [.bw]), (16, [.rd]), (32, []), (18, [.rd]), (22, [.rd, .rd]), (85, [.rd])] MF2
set_option maxRecDepth 20000 in
set_option maxHeartbeats 2000000 in
theorem wireExact_ok (m : Msg) (om : MsgO m) : ACall Tryd.prog 6 [.agg (msgC m)] (.bool true) [] := by
  have v1 := heavy13_ok m
  refine ACall.of_does TTok Tryd.func6 rfl Tryd.call6 rfl (wpc_sound (M := ML3) (PL := PL0) (CU := cutAt [100001]) TTok mixed _ _ _ ?_)
  conv => whnf
  repeat ((refine ⟨rfl, ?_⟩); conv => whnf)
  refine Does.freeze 0 rfl (Does.tidy [(1, .rop (msgC m))] [] 1 73 rfl rfl rfl (by kernel_rfl) (by kernel_rfl) ?_)
  refine wpc_sound (M := ML3) (PL := PL0) (CU := noCut) TTok mixed _ _ _ ?_
  conv => whnf
  repeat ((first | refine ⟨rfl, ?_⟩ | refine ⟨_, rfl, ?_⟩ | refine ⟨(show pureL _ = true from by first | exact prfC_pure _ | exact hdC_pure _ | exact msgC_pure _ | exact letC_pure _), ?_⟩); conv => whnf)
  cases hv1 : heavyM m <;> rw [hv1] at v1
  case true =>
    refine ⟨_, _, v1, by first | rfl | simp [noRoIf, noRoL, noRoV, noRoL_bys], ?_⟩
    conv => whnf
    repeat ((first | refine ifB_t ?_ | refine ⟨rfl, ?_⟩); conv => whnf)
    rfl
  refine ⟨_, _, v1, by first | rfl | simp [noRoIf, noRoL, noRoV, noRoL_bys], ?_⟩
  conv => whnf
  repeat ((first | refine ifB_f ?_ | refine ⟨rfl, ?_⟩ | refine ⟨_, rfl, ?_⟩ | refine ⟨(show pureL _ = true from by first | exact prfC_pure _ | exact hdC_pure _ | exact msgC_pure _ | exact letC_pure _), ?_⟩); conv => whnf)
  have hm := msgS_of om hv1
  have hl := heavyM_no hv1
  have tw := ktwinm_ok m hm (by omega) (by omega) (by omega)
  have rm := refmsg_ok m hm
  have e1 := (msg_bytes_ok _ hm).roRes2 (.inl ⟨_, _, rfl⟩)
  have hc := check_msg_ok m hm
  have kk := kmsg_ok m m hm hm
  rw [dt rfl] at kk
  have y1 := msgB_byt hm
  cases hr : msgR m <;> rw [hr] at rm hc
  · have hz : msgB m = ([], 1) := by unfold msgB; rw [hr]; rfl
    rw [hz] at e1
    refine ⟨_, _, tw, by first | rfl | simp [noRoIf, noRoL, noRoV, noRoL_bys], ?_⟩
    conv => whnf
    repeat ((first | refine ⟨(⟨by kernel_rfl, by kernel_rfl, Nat.le_of_ble_eq_true (by kernel_rfl)⟩ : AV.ones _ = true ∧ _ ∧ _), ?_⟩ | refine ⟨rfl, ?_⟩ | refine ⟨_, rfl, ?_⟩ | refine ⟨(show pureL _ = true from by first | exact prfC_pure _ | exact hdC_pure _ | exact msgC_pure _ | exact letC_pure _), ?_⟩); conv => whnf)
    refine ⟨_, _, rm, by first | rfl | simp [noRoIf, noRoL, noRoV, noRoL_bys], ?_⟩
    conv => whnf
    repeat ((first | refine ⟨rfl, ?_⟩ | refine ⟨_, rfl, ?_⟩ | refine ⟨(show pureL _ = true from by first | exact prfC_pure _ | exact hdC_pure _ | exact msgC_pure _ | exact letC_pure _), ?_⟩); conv => whnf)
    refine ⟨_, _, e1, by first | rfl | simp [noRoIf, noRoL, noRoV, noRoL_bys], ?_⟩
    conv => whnf
    repeat ((first | refine ⟨rfl, ?_⟩ | refine ⟨_, rfl, ?_⟩ | refine ⟨(show pureL _ = true from by first | exact prfC_pure _ | exact hdC_pure _ | exact msgC_pure _ | exact letC_pure _), ?_⟩); conv => whnf)
    refine ⟨_, _, hc, by first | rfl | simp [noRoIf, noRoL, noRoV, noRoL_bys], ?_⟩
    conv => whnf
    repeat ((first | refine ifB_f ?_ | refine ⟨rfl, ?_⟩ | refine ⟨_, rfl, ?_⟩ | refine ⟨(show pureL _ = true from by first | exact prfC_pure _ | exact hdC_pure _ | exact msgC_pure _ | exact letC_pure _), ?_⟩); conv => whnf)
    refine ⟨_, _, kk, by first | rfl | simp [noRoIf, noRoL, noRoV, noRoL_bys], ?_⟩
    conv => whnf
    repeat ((first | refine ifB_t ?_ | refine ifB_f ?_ | refine ⟨rfl, ?_⟩ | refine ⟨_, rfl, ?_⟩ | refine ⟨(show pureL _ = true from by first | exact prfC_pure _ | exact hdC_pure _ | exact msgC_pure _ | exact letC_pure _), ?_⟩); conv => whnf)
    refine ⟨_, _, hc, by first | rfl | simp [noRoIf, noRoL, noRoV, noRoL_bys], ?_⟩
    conv => whnf
    repeat ((first | refine ifB_t ?_ | refine ⟨rfl, ?_⟩); conv => whnf)
    refine ⟨_, _, wakes13_ok, by first | rfl | simp [noRoIf, noRoL, noRoV, noRoL_bys], ?_⟩
    conv => whnf
    repeat ((first | refine ifB_t ?_ | refine ⟨rfl, ?_⟩); conv => whnf)
    rfl
  · have hz : (msgB m).2 = 0 := by have := msgB_err hm; rw [hr] at this; exact of_decide_eq_true this
    have hB := rdMsg_bytes hm hz
    have ho := mread_ok _ y1.1 (by omega)
    have hrb := (refmsgb_ok m hm hr).roRes
    have bb := bytes_ok (msgB m).1 (msgB m).1 (by omega)
    rw [dt rfl] at bb
    rw [hB.2] at ho
    clear hB y1
    generalize msgB m = o at e1 ho hz hrb bb
    obtain ⟨a, e⟩ := o
    dsimp only at hz e1 ho hrb bb
    subst hz
    refine ⟨_, _, tw, by first | rfl | simp [noRoIf, noRoL, noRoV, noRoL_bys], ?_⟩
    conv => whnf
    repeat ((first | refine ⟨(⟨by kernel_rfl, by kernel_rfl, Nat.le_of_ble_eq_true (by kernel_rfl)⟩ : AV.ones _ = true ∧ _ ∧ _), ?_⟩ | refine ⟨rfl, ?_⟩ | refine ⟨_, rfl, ?_⟩ | refine ⟨(show pureL _ = true from by first | exact prfC_pure _ | exact hdC_pure _ | exact msgC_pure _ | exact letC_pure _), ?_⟩); conv => whnf)
    refine ⟨_, _, rm, by first | rfl | simp [noRoIf, noRoL, noRoV, noRoL_bys], ?_⟩
    conv => whnf
    repeat ((first | refine ⟨rfl, ?_⟩ | refine ⟨_, rfl, ?_⟩ | refine ⟨(show pureL _ = true from by first | exact prfC_pure _ | exact hdC_pure _ | exact msgC_pure _ | exact letC_pure _), ?_⟩); conv => whnf)
    refine ⟨_, _, e1, by first | rfl | simp [noRoIf, noRoL, noRoV, noRoL_bys], ?_⟩
    conv => whnf
    repeat ((first | refine ⟨rfl, ?_⟩ | refine ⟨_, rfl, ?_⟩ | refine ⟨(show pureL _ = true from by first | exact prfC_pure _ | exact hdC_pure _ | exact msgC_pure _ | exact letC_pure _), ?_⟩); conv => whnf)
    refine ⟨_, _, hc, by first | rfl | simp [noRoIf, noRoL, noRoV, noRoL_bys], ?_⟩
    conv => whnf
    repeat ((first | refine ifB_f ?_ | refine ⟨rfl, ?_⟩ | refine ⟨_, rfl, ?_⟩ | refine ⟨(show pureL _ = true from by first | exact prfC_pure _ | exact hdC_pure _ | exact msgC_pure _ | exact letC_pure _), ?_⟩); conv => whnf)
    refine ⟨_, _, kk, by first | rfl | simp [noRoIf, noRoL, noRoV, noRoL_bys], ?_⟩
    conv => whnf
    repeat ((first | refine ifB_f ?_ | refine ⟨pureL_bys _, ?_⟩ | refine ⟨rfl, ?_⟩); conv => whnf)
    refine ⟨_, _, ho, by first | rfl | simp [noRoIf, noRoL, noRoV, noRoL_bys], ?_⟩
    conv => whnf
    repeat ((first | refine ifB_t ?_ | refine ⟨(⟨by kernel_rfl, by kernel_rfl, Nat.le_of_ble_eq_true (by kernel_rfl)⟩ : AV.ones _ = true ∧ _ ∧ _), ?_⟩ | refine ⟨rfl, ?_⟩ | refine ⟨_, rfl, ?_⟩ | refine ⟨(show pureL _ = true from by first | exact prfC_pure _ | exact hdC_pure _ | exact msgC_pure _ | exact letC_pure _), ?_⟩); conv => whnf)
    refine ⟨_, _, hrb, by first | rfl | simp [noRoIf, noRoL, noRoV, noRoL_bys], ?_⟩
    conv => whnf
    repeat ((first | refine ifB_t ?_ | refine ⟨pureL_bys _, ?_⟩ | refine ⟨rfl, ?_⟩); conv => whnf)
    refine ⟨_, _, bb, by first | rfl | simp [noRoIf, noRoL, noRoV, noRoL_bys], ?_⟩
    conv => whnf
    repeat ((first | refine ifB_t ?_ | refine ⟨rfl, ?_⟩ | refine ⟨_, rfl, ?_⟩ | refine ⟨(show pureL _ = true from by first | exact prfC_pure _ | exact hdC_pure _ | exact msgC_pure _ | exact letC_pure _), ?_⟩); conv => whnf)
    refine ⟨_, _, kk, by first | rfl | simp [noRoIf, noRoL, noRoV, noRoL_bys], ?_⟩
    conv => whnf
    repeat ((first | refine ifB_t ?_ | refine ⟨rfl, ?_⟩); conv => whnf)
    refine ⟨_, _, wakes13_ok, by first | rfl | simp [noRoIf, noRoL, noRoV, noRoL_bys], ?_⟩
    conv => whnf
    repeat ((first | refine ifB_t ?_ | refine ⟨rfl, ?_⟩); conv => whnf)
    rfl
end Go.Proofs.YtelnlfhdaelfdaaDoor.Abs
end
section
set_option linter.unusedVariables false
namespace Go.Proofs.YtelnlfhdaelfdaaDoor.Abs
open Go Go.Shelf Go.Lib
theorem first_eq : ∀ c : Fin 256, firstT c.val = utf8First.getD c.val 0 := by decide +kernel
theorem acc_eq : ∀ i : Fin 16, accLo i.val = utf8Ranges.getD (2 * i.val) 0 ∧ accHi i.val = utf8Ranges.getD (2 * i.val + 1) 0 := by decide +kernel
theorem tabOk_of {W : World} (h : Lib.Utf8Tabs 1 2 W) : TabOk (env0 W) := by
  obtain ⟨h1, h2⟩ := h
  have l1 : utf8First.length = 256 := by decide +kernel
  have l2 : utf8Ranges.length = 32 := by decide +kernel
  have s0 : 1 < W.heap.size := World.block_lt_of_cell? _ _ (h1 0 (by omega))
  have s1 : 2 < W.heap.size := World.block_lt_of_cell? _ _ (h2 0 (by omega)).1
  intro g k l hg
  unfold tabs at hg
  by_cases g0 : g = 1
  · subst g0
    simp only [Nat.beq_refl, cond_true, Option.some.injEq, Prod.mk.injEq] at hg
    obtain ⟨rfl, rfl⟩ := hg
    refine ⟨s0, fun hv => hv, fun j x hx => ?_⟩
    have hj : j < 256 := by rw [← l1]; exact (List.getElem?_eq_some_iff.1 hx).1
    have := h1 j hj
    have e := first_eq ⟨j, hj⟩
    simp only at e
    rw [e, List.getD_eq_getElem?_getD, hx] at this
    exact this
  · have hb : Nat.beq g 1 = false := by
      cases hh : Nat.beq g 1
      · rfl
      · exact absurd (Nat.eq_of_beq_eq_true hh) g0
    rw [hb, cond_false] at hg
    by_cases g1 : g = 2
    · subst g1
      simp only [Nat.beq_refl, cond_true, Option.some.injEq, Prod.mk.injEq] at hg
      obtain ⟨rfl, rfl⟩ := hg
      refine ⟨s1, fun hv => hv, fun j x hx => ?_⟩
      have hj : j < 32 := by rw [← l2]; exact (List.getElem?_eq_some_iff.1 hx).1
      have e := acc_eq ⟨j / 2, by omega⟩
      obtain ⟨q1, q2⟩ := h2 (j / 2) (by omega)
      simp only at e
      rw [e.1] at q1
      rw [e.2] at q2
      rcases Nat.mod_two_eq_zero_or_one j with hm | hm
      · have ej : 2 * (j / 2) = j := by omega
        rw [ej, List.getD_eq_getElem?_getD, hx] at q1
        exact q1
      · have ej : 2 * (j / 2) + 1 = j := by omega
        rw [ej, List.getD_eq_getElem?_getD, hx] at q2
        exact q2
    · have hb : Nat.beq g 2 = false := by
        cases hh : Nat.beq g 2
        · rfl
        · exact absurd (Nat.eq_of_beq_eq_true hh) g1
      rw [hb, cond_false] at hg
      cases hg
/-- The numbers of this program's types and tables. -/
def utRen : Ren := ⟨fun x => x, fun n => if n = 5 then 5 else if n = 119 then 170 else if n = 138 then 172 else 173, fun n => if n = 3 then 1 else 2⟩
theorem tabOk_of_laid {W : World} (hL : laidMet Tryd.prog [("unicode/utf8.acceptRanges", Rows.laid_unicode_utf8_acceptRanges), ("unicode/utf8.first", Rows.laid_unicode_utf8_first)] W) : TabOk (env0 W) := by
  have e1 : Rows.laid_unicode_utf8_first = Lib.firstData := Pinned.utf8First_eq
  have e2 : (Rows.laid_unicode_utf8_acceptRanges : DataW Unit) = Lib.acceptData := by kernel_rfl
  rw [e1, e2] at hL
  exact tabOk_of (utf8Tabs_of_readsT (P := Tryd.prog) (ρ := utRen) ⟨by kernel_rfl, by kernel_rfl, by kernel_rfl, by kernel_rfl⟩ ⟨by kernel_rfl, by kernel_rfl, by kernel_rfl, by kernel_rfl, by kernel_rfl, by kernel_rfl, by kernel_rfl⟩
    (Lib.laidMet.reads hL (.tail _ (.head _))) (Lib.laidMet.reads hL (.head _)))
end Go.Proofs.YtelnlfhdaelfdaaDoor.Abs
end
section
namespace Go.Proofs.YtelnlfhdaelfdaaDoor.wireExact
open Go Go.ChangeShapes Go.WideShapes Go.ChangeAt Go.RowKit Go.Proofs.YtelnlfhdaelfdaaDoor.Abs
set_option linter.unusedVariables false
set_option linter.unusedSimpArgs false
theorem own : ownKnob Tryd.prog.godebug = none := by kernel_rfl
theorem laidOut : laidOutB Tryd.prog = true := by kernel_rfl
noncomputable def laidWorld (os : Os) : World := World.laidAll Tryd.prog os Rows.wireExactRow.laid
theorem laid_met (os : Os) (args : Array Value) : laidMetH Tryd.prog Rows.wireExactRow.laid ((laidWorld os).forCall (fun _ _ => 0) ⟨#[], args, []⟩).memory := by
  rw [MakeChecks.laidMetH_plain _ _ _ (by kernel_rfl)]
  exact laidMet_laidAll args (by kernel_rfl) (by kernel_rfl)
set_option maxRecDepth 100000 in
theorem lifted (os : Os) (started : os.Started) (H : Type) (enc : TypeId × Value → H) :
    ReturnsInHanded {} Tryd.checked os 6 .any (fun w args => (Rows.wireExactSpec.pre enc Tryd.prog Tryd.f6 [] false w args ∧ laidMetH Tryd.prog Rows.wireExactRow.laid w) ∧ sizedMet enc Tryd.prog Tryd.f6 (OpenSpec.ofChange Rows.wireExactSpec) false w args)
      (Rows.wireExactSpec.post enc Tryd.prog Tryd.f6 false true false false) := by
  refine returnsInHanded_of_change_and (C := Tryd.checked) (X := fun w _ => laidMetH Tryd.prog Rows.wireExactRow.laid w) (fun _ _ _ hh h => h.of_heap hh) own started (by kernel_rfl) Tryd.func6
    (ChangeSpec.witness_shaped (enc := enc) (C := Tryd.checked) (os := os) (X := fun w _ => laidMetH Tryd.prog Rows.wireExactRow.laid w) false (laidWorld os) #[.agg #[.int .i64 0, .int .i64 0, .int .i64 0, .slice none 0 0, .slice none 0 0, .slice none 0 0]] 8 (World.laidAll_os _ _ _) (World.shaped_of_RefB (by kernel_rfl) (by kernel_rfl)) (by kernel_rfl) (by kernel_rfl) (by kernel_rfl) (laid_met os _)) ?_
  intro W base args ds gs before hval0 hW _ _ hL _
  have hval : ∀ (j : Nat) t v, Tryd.f6.params[j]? = some t → args[j]? = some v → Value.okWide Tryd.prog W .any base t v := hval0
  have hW' := hW
  obtain ⟨p, q, hA0, hV, rfl, hfz, hnd⟩ := hW
  have hA : DataW.TrodAll enc Tryd.prog W 0 (fun _ => true) true Tryd.f6.params.toList args.toList ds p := hA0
  rw [Tryd.params6] at hA hval
  rw [MakeChecks.laidMetH_plain _ _ _ (by kernel_rfl)] at hL
  have htab : TabOk (env0 W) := tabOk_of_laid hL
  obtain ⟨v0, vs0, d0, ds0, p0, q0, hargs, rfl, rfl, h0, r0⟩ := trodAll_cons hA
  obtain ⟨rfl, rfl, rfl⟩ := trodAll_nil r0
  obtain rfl : args = #[v0] := by cases args; simp_all
  obtain ⟨rfl, rfl⟩ := trodVars_none hV
  obtain ⟨a0, rfl, _⟩ := okWide_struct Tryd.underlying27 (hval 0 27 v0 rfl rfl)
  have k0 := h0
  have lt0 : ∀ x ∈ p0, x.block < W.heap.size := by obtain ⟨m, hm⟩ := k0; exact DataW.trod_lt m _ _ _ hm
  obtain ⟨x0, w0, t0⟩ := (by obtain ⟨fuel, hf⟩ := h0; exact open_any TTok 9 fuel 27 _ _ (by kernel_rfl) hf : ∃ xs, RepL (env0 W) xs (Value.cells _).toList ∧ TyL TT 9 27 xs)
  obtain ⟨l0, rfl, b0⟩ := msg_of_ty t0
  have w0 := rep_agg w0
  clear hA0 hval0
  refine (ACall.row (wireExact_ok l0 b0) (by simp [pureL, pureV, pureL_bys, pureL_ints, pureL_toks, msgC_pure]) (W := W) (vals := [.agg a0]) (by simp only [RepL]; exact ⟨_, _, rfl, w0, rfl⟩) htab).mono fun e W' ⟨he, bel⟩ => ?_
  subst he
  exact ⟨_, rfl, _, _, _, [], _, [], hW', trodAll_mk1 (shut_bool Tryd.underlying4 _), (trodAll_cons_mk (Below.trod laidOut (by kernel_rfl) (of_decide_eq_true (by kernel_rfl)) k0 bel lt0) trodAll_mk0), rfl, bel.frame _, fun h => by cases h⟩
theorem over : Rows.wireExactRow.holds Tryd.pinned (OpenSpec.ofChange Rows.wireExactSpec) :=
  OpenClaim.holds_of_wide 6 Tryd.f6 rfl rfl rfl rfl rfl rfl rfl ⟨rfl, rfl, rfl, rfl, rfl⟩ rfl rfl rfl rfl rfl (by kernel_rfl) Tryd.func6 (by kernel_rfl)
    (of_decide_eq_true (by kernel_rfl)) (by unfold Func.isWrapper; first | (rw [if_pos (by decide +kernel)]; kernel_rfl) | (rw [if_neg (by decide +kernel)]; exact ⟨rfl, rfl⟩))
    (fun os started H enc _ => lifted os started H enc)
/-- The tied card. -/
theorem card : Claim7.holds Tryd.pinned (.plain (OpenSpec.ofChange Rows.wireExactSpec)) Rows.wireExactCard :=
  Claim7.holds_tied_plain_at .later [] [.data, .pinned] true (true, "891155d96ca261d6dec426f9a893f0765c918b26fb9e2bfab3eb0523fb6b23ea") false
    over (fun _ h => by cases h) (by kernel_rfl) (fun _ h => by cases h) wireExact_row_tie rfl ⟨rfl, rfl⟩ (by kernel_rfl) rfl
    (fun f fn hf hfn => by
      obtain rfl : f = 6 := Option.some.inj ((show Tryd.prog.funcNamed "codicil/codicillaw13.WireExact" = some 6 by kernel_rfl).symm.trans hf) |>.symm
      obtain rfl : fn = Tryd.f6 := (Option.some.inj (Tryd.func6.symm.trans hfn)).symm
      exact ⟨by kernel_rfl, fun j t ht => by
        rw [Tryd.params6] at ht
        have hm : t ∈ [27] := by simpa using Array.mem_of_getElem? ht
        have hall : ([27].all fun u => !Tryd.prog.wantsStandIn u) = true := by kernel_rfl
        exact (show Tryd.prog.wantsStandIn t = false by simpa using List.all_eq_true.1 hall t hm)⟩)
    (by kernel_rfl)
end Go.Proofs.YtelnlfhdaelfdaaDoor.wireExact
namespace Go.Proofs.YtelnlfhdaelfdaaDoor
/-- The law WireExact. -/
theorem wireExact_holds : Rows.WireExactCardSaid := wireExact.card
end Go.Proofs.YtelnlfhdaelfdaaDoor
end
