/- Texts CG to CP, merged. -/
import Derived.Test.YtgcmddhdnfmdnaaGreatDoorU7
set_option linter.unusedVariables false
set_option linter.unusedSimpArgs false
namespace Go.Proofs.YtgcmddhdnfmdnaaGreatDoor.Abs
open Go
section

attribute [local irreducible] ifB fitP Does Weaker
def PLitA : Plan := .all [(11, .done)]
def PLitB : Plan := takesTo [8, 9] (.all [(10, PLitA)])
def PLitC : Plan := takesTo [8, 9] PLitA
def PLit : Nat → Bool × Plan := plans [(0, (true, takes [0, 1, 2, 3, 4, 5, 6, 7, 8, 9, 10, 11, 12, 13, 14, 15, 16, 17])),
 (2, (false, takesTo [0, 1, 2, 4, 5, 6] (.all [(3, .all [(7, PLitB), (10, .all [(7, PLitC)])]), (7, .all [(3, PLitB), (10, .all [(3, PLitC)])]), (10, .all [(3, .all [(7, PLitC)]), (7, .all [(3, PLitC)])])])))]
theorem item_bad (l : List Tok) (w : W) (hw : w.out.length ≤ 65600) (h : l.length ≤ w.at' ∨ 32768 < w.out.length) (d : Int) :
  ACall Tryz.prog 109 [.ref (wC l.length (toksC l) w), .int .i64 d] (.tuple []) [.ref (wC l.length (toksC l) { w with bad := true })] := by
 have hL := pureL_toks l
 obtain ⟨at', out, bad⟩ := w
 refine ACall.of_does TTok Tryz.func109 rfl Tryz.call109 rfl (wpc_sound (M := MC) (PL := PLit) (CU := noCut) TTok mixed _ _ _ ?_)
 conv => whnf
 refine ⟨by kernel_rfl, ?_⟩
 conv => whnf
 repeat ((refine ⟨_, rfl, ?_⟩); conv => whnf)
 simp only at h hw
 refine ifB_dec (fun k1 => ?_) (fun k1 => ?_)
 ·simp only at k1
  conv => whnf
  repeat ((first | refine ifB_t ?_ | refine ⟨rfl, ?_⟩ | refine ⟨⟨rfl, rfl⟩, ?_⟩ | (refine ⟨⟨rfl, rfl, rfl, ?_, pureL_bys _⟩, ?_⟩; (focus (simp; done))) | (refine ⟨⟨rfl, rfl, ?_⟩, ?_⟩; (focus (first | assumption | exact pureL_bys _ | exact pureL_toks _))) | (refine ⟨⟨rfl, rfl, ?_⟩, ?_⟩; (focus (first | exact Nat.le_of_ble_eq_true rfl | (simp; done))))); conv => whnf)
  rfl
 ·simp only at k1
  have k2 : (32768 : Int) < out.length := by omega
  conv => whnf
  repeat ((first | refine ifB_f ?_ | (refine ifB_pos (decide_eq_true (by first | omega | rfl | (dsimp only; omega))) ?_) | refine ⟨rfl, ?_⟩ | refine ⟨_, rfl, ?_⟩ | refine ⟨⟨rfl, rfl⟩, ?_⟩ | (refine ⟨⟨rfl, rfl, rfl, ?_, pureL_bys _⟩, ?_⟩; (focus (simp; done))) | (refine ⟨⟨rfl, rfl, ?_⟩, ?_⟩; (focus (first | assumption | exact pureL_bys _ | exact pureL_toks _))) | (refine ⟨⟨rfl, rfl, ?_⟩, ?_⟩; (focus (first | exact Nat.le_of_ble_eq_true rfl | (simp; done))))); conv => whnf)
  rfl
theorem item_at (l : List Tok) (hl : ToksOk l) (hlb : ∀ t ∈ l, t.b.length ≤ 1099511627776) (hll : l.length ≤ 1000000) (w : W) (hw : w.out.length ≤ 32768) (ha : w.at' < l.length) (d : Int) (R : W → Tok → W)
  (hm : (l[w.at'].k = 5 ∨ l[w.at'].k = 6) → ACall Tryz.prog 129 [.ref (wC l.length (toksC l) { w with at' := w.at' + 1 }), .agg (tokC l[w.at']), .int .i64 d] (.tuple []) [.ref (wC l.length (toksC l) (R { w with at' := w.at' + 1 } l[w.at']))]) :
  ACall Tryz.prog 109 [.ref (wC l.length (toksC l) w), .int .i64 d] (.tuple [])
   [.ref (wC l.length (toksC l) (if l[w.at'].k = 1 then wNumber 0 l[w.at'] { w with at' := w.at' + 1 } else if l[w.at'].k = 2 then wNumber 1 l[w.at'] { w with at' := w.at' + 1 }
    else if l[w.at'].k = 3 ∨ l[w.at'].k = 4 then wBytes validR l[w.at'] { w with at' := w.at' + 1 } else if l[w.at'].k = 5 ∨ l[w.at'].k = 6 then R { w with at' := w.at' + 1 } l[w.at'] else { w with at' := w.at' + 1, bad := true }))] := by
 have hL := pureL_toks l
 obtain ⟨at', out, bad⟩ := w
 simp only at ha hw hm ⊢
 obtain ⟨t, ht⟩ : ∃ t, t = l[at'] := ⟨_, rfl⟩
 have hto : TokOk t := by rw [ht]; exact hl _ (List.getElem_mem ha)
 have htb : t.b.length ≤ 1099511627776 := by rw [ht]; exact hlb _ (List.getElem_mem ha)
 have hld : ∀ m s : Nat, m = 3 * at' → s = 3 → takeN s ((toksC l).drop m) = some (tokC t) := by
  intro m s hm hs
  rw [takeN_tok ha hm hs, ht]
 rw [← ht] at hm ⊢
 refine ACall.of_does TTok Tryz.func109 rfl Tryz.call109 rfl (wpc_sound (M := MC) (PL := PLit) (CU := cutAt [200002]) TTok mixed _ _ _ ?_)
 conv => whnf
 refine ⟨by kernel_rfl, ?_⟩
 conv => whnf
 repeat ((first | refine ifB_f ?_ | (refine ifB_neg (decide_eq_false (by first | omega | rfl | (dsimp only; omega))) ?_) | refine ⟨_, rfl, ?_⟩); conv => whnf)
 refine Does.seqCut (α := Unit) (fun _ => mkSt [(0, .ptr 1 0), (1, .int .i64 d), (4, .ptr 2 0)]
  [(0, bys out), (1, [.ro l.length (toksC l), .int .i64 (at' : Int), .sl 0 0 out.length 1 false, .bool bad]), (2, tokC t)] 3 71) (fun _ => True) ?_ (fun _ _ => ?_)
 ·refine wpc_sound (M := MC) (PL := PLit) (CU := noCut) TTok mixed _ _ _ ?_
  conv => whnf
  refine ⟨by kernel_rfl, ?_⟩
  conv => whnf
  refine ⟨?_, ?_, ?_⟩
  ·conv => whnf
   repeat ((refine ⟨_, rfl, ?_⟩); conv => whnf)
   refine ⟨?_, ?_⟩
   ·conv => whnf
    repeat ((first | refine ⟨_, rfl, ?_⟩ | (refine ⟨⟨?_, ?_, ?_⟩, ?_⟩; (focus omega); (focus (first | omega | (simp; done) | (simp; omega))); (focus (first | (simp; done) | (simp; omega) | (rw [toksC_length]; simp; omega)))) | (refine ⟨roLoad_ok rfl ?_, ?_⟩; (focus (simp [toksC_length]; omega)))); conv => whnf)
    refine ⟨_, hld _ _ (by simp; omega) rfl, ?_⟩
    conv => whnf
    repeat ((first | refine ⟨rfl, ?_⟩ | (refine ⟨⟨rfl, rfl, ?_⟩, ?_⟩; (focus (first | exact Nat.le_of_ble_eq_true rfl | (simp; done))))); conv => whnf)
    refine ⟨(), trivial, weaker_of [(2, 2)] rfl rfl ?_ ?_⟩
    ·exact ⟨⟨rfl, rfl⟩, ⟨rfl, rfl⟩, ⟨rfl, rfl⟩, trivial⟩
    ·exact ⟨lesP_bys rfl, ⟨⟨rfl, rfl, hL⟩, ⟨rfl, rfl⟩, ⟨rfl, rfl, rfl, rfl, id⟩, rfl, trivial⟩, ⟨⟨rfl, rfl⟩, ⟨rfl, rfl⟩, ⟨rfl, rfl, pureL_bys _⟩, trivial⟩, trivial⟩
   ·conv => whnf
    repeat ((first | refine ⟨rfl, ?_⟩ | refine ⟨_, rfl, ?_⟩ | (refine ⟨⟨?_, ?_, ?_⟩, ?_⟩; (focus omega); (focus (first | omega | (simp; done) | (simp; omega))); (focus (first | (simp; done) | (simp; omega) | (rw [toksC_length]; simp; omega)))) | (refine ⟨roLoad_ok rfl ?_, ?_⟩; (focus (simp [toksC_length]; omega)))); conv => whnf)
    refine ⟨_, hld _ _ (by simp; omega) rfl, ?_⟩
    conv => whnf
    repeat ((refine ⟨⟨rfl, rfl, ?_⟩, ?_⟩; (focus (first | exact Nat.le_of_ble_eq_true rfl | (simp; done)))); conv => whnf)
    refine ⟨(), trivial, weaker_of [(2, 2)] rfl rfl ?_ ?_⟩
    ·exact ⟨⟨rfl, rfl⟩, ⟨rfl, rfl⟩, ⟨rfl, rfl⟩, trivial⟩
    ·exact ⟨lesP_bys rfl, ⟨⟨rfl, rfl, hL⟩, ⟨rfl, rfl⟩, ⟨rfl, rfl, rfl, rfl, id⟩, rfl, trivial⟩, ⟨⟨rfl, rfl⟩, ⟨rfl, rfl⟩, ⟨rfl, rfl, pureL_bys _⟩, trivial⟩, trivial⟩
  ·conv => whnf
   repeat ((refine ⟨_, rfl, ?_⟩); conv => whnf)
   refine ⟨?_, ?_⟩
   ·conv => whnf
    repeat ((first | refine ⟨_, rfl, ?_⟩ | (refine ⟨⟨?_, ?_, ?_⟩, ?_⟩; (focus omega); (focus (first | omega | (simp; done) | (simp; omega))); (focus (first | (simp; done) | (simp; omega) | (rw [toksC_length]; simp; omega)))) | (refine ⟨roLoad_ok rfl ?_, ?_⟩; (focus (simp [toksC_length]; omega)))); conv => whnf)
    refine ⟨_, hld _ _ (by simp; omega) rfl, ?_⟩
    conv => whnf
    repeat ((first | refine ⟨rfl, ?_⟩ | (refine ⟨⟨rfl, rfl, ?_⟩, ?_⟩; (focus (first | exact Nat.le_of_ble_eq_true rfl | (simp; done))))); conv => whnf)
    refine ⟨(), trivial, weaker_of [(2, 2)] rfl rfl ?_ ?_⟩
    ·exact ⟨⟨rfl, rfl⟩, ⟨rfl, rfl⟩, ⟨rfl, rfl⟩, trivial⟩
    ·exact ⟨lesP_bys rfl, ⟨⟨rfl, rfl, hL⟩, ⟨rfl, rfl⟩, ⟨rfl, rfl, rfl, rfl, id⟩, rfl, trivial⟩, ⟨⟨rfl, rfl⟩, ⟨rfl, rfl⟩, ⟨rfl, rfl, pureL_bys _⟩, trivial⟩, trivial⟩
   ·conv => whnf
    repeat ((first | refine ⟨rfl, ?_⟩ | refine ⟨_, rfl, ?_⟩ | (refine ⟨⟨?_, ?_, ?_⟩, ?_⟩; (focus omega); (focus (first | omega | (simp; done) | (simp; omega))); (focus (first | (simp; done) | (simp; omega) | (rw [toksC_length]; simp; omega)))) | (refine ⟨roLoad_ok rfl ?_, ?_⟩; (focus (simp [toksC_length]; omega)))); conv => whnf)
    refine ⟨_, hld _ _ (by simp; omega) rfl, ?_⟩
    conv => whnf
    repeat ((refine ⟨⟨rfl, rfl, ?_⟩, ?_⟩; (focus (first | exact Nat.le_of_ble_eq_true rfl | (simp; done)))); conv => whnf)
    refine ⟨(), trivial, weaker_of [(2, 2)] rfl rfl ?_ ?_⟩
    ·exact ⟨⟨rfl, rfl⟩, ⟨rfl, rfl⟩, ⟨rfl, rfl⟩, trivial⟩
    ·exact ⟨lesP_bys rfl, ⟨⟨rfl, rfl, hL⟩, ⟨rfl, rfl⟩, ⟨rfl, rfl, rfl, rfl, id⟩, rfl, trivial⟩, ⟨⟨rfl, rfl⟩, ⟨rfl, rfl⟩, ⟨rfl, rfl, pureL_bys _⟩, trivial⟩, trivial⟩
  ·conv => whnf
   repeat ((refine ⟨rfl, ?_⟩); conv => whnf)
   refine ⟨?_, ?_⟩
   ·conv => whnf
    repeat ((first | refine ⟨_, rfl, ?_⟩ | (refine ⟨⟨?_, ?_, ?_⟩, ?_⟩; (focus omega); (focus (first | omega | (simp; done) | (simp; omega))); (focus (first | (simp; done) | (simp; omega) | (rw [toksC_length]; simp; omega)))) | (refine ⟨roLoad_ok rfl ?_, ?_⟩; (focus (simp [toksC_length]; omega)))); conv => whnf)
    refine ⟨_, hld _ _ (by simp; omega) rfl, ?_⟩
    conv => whnf
    repeat ((refine ⟨⟨rfl, rfl, ?_⟩, ?_⟩; (focus (first | exact Nat.le_of_ble_eq_true rfl | (simp; done)))); conv => whnf)
    refine ⟨(), trivial, weaker_of [(2, 2)] rfl rfl ?_ ?_⟩
    ·exact ⟨⟨rfl, rfl⟩, ⟨rfl, rfl⟩, ⟨rfl, rfl⟩, trivial⟩
    ·exact ⟨lesP_bys rfl, ⟨⟨rfl, rfl, hL⟩, ⟨rfl, rfl⟩, ⟨rfl, rfl, rfl, rfl, id⟩, rfl, trivial⟩, ⟨⟨rfl, rfl⟩, ⟨rfl, rfl⟩, ⟨rfl, rfl, pureL_bys _⟩, trivial⟩, trivial⟩
   ·conv => whnf
    repeat ((first | refine ⟨_, rfl, ?_⟩ | (refine ⟨⟨?_, ?_, ?_⟩, ?_⟩; (focus omega); (focus (first | omega | (simp; done) | (simp; omega))); (focus (first | (simp; done) | (simp; omega) | (rw [toksC_length]; simp; omega)))) | (refine ⟨roLoad_ok rfl ?_, ?_⟩; (focus (simp [toksC_length]; omega)))); conv => whnf)
    refine ⟨_, hld _ _ (by simp; omega) rfl, ?_⟩
    conv => whnf
    repeat ((refine ⟨⟨rfl, rfl, ?_⟩, ?_⟩; (focus (first | exact Nat.le_of_ble_eq_true rfl | (simp; done)))); conv => whnf)
    refine ⟨(), trivial, weaker_of [(2, 2)] rfl rfl ?_ ?_⟩
    ·exact ⟨⟨rfl, rfl⟩, ⟨rfl, rfl⟩, ⟨rfl, rfl⟩, trivial⟩
    ·exact ⟨lesP_bys rfl, ⟨⟨rfl, rfl, hL⟩, ⟨rfl, rfl⟩, ⟨rfl, rfl, rfl, rfl, id⟩, rfl, trivial⟩, ⟨⟨rfl, rfl⟩, ⟨rfl, rfl⟩, ⟨rfl, rfl, pureL_bys _⟩, trivial⟩, trivial⟩
 ·refine wpc_sound (M := MC) (PL := PLit) (CU := noCut) TTok mixed _ _ _ ?_
  conv => whnf
  repeat ((first | (refine fit_i64 ⟨by first | omega | rfl | (dsimp only; omega), by first | omega | rfl | (dsimp only; omega)⟩ ?_) | refine ⟨_, rfl, ?_⟩ | (refine ⟨⟨rfl, rfl, ?_⟩, ?_⟩; (focus (first | exact Nat.le_of_ble_eq_true rfl | (simp; done))))); conv => whnf)
  have hcast : ((at' + 1 : Nat) : Int) = (at' : Int) + 1 := by omega
  have hn1 := wnumber_ok l.length (toksC l) hL ⟨at' + 1, out, bad⟩ (show out.length ≤ 1048576 by omega)
  have hnb := wbytes_ok l.length (toksC l) hL ⟨at' + 1, out, bad⟩ (show out.length ≤ 1048576 by omega) t hto
  refine ifB_dec (fun k1 => ?_) (fun k1 => ?_)
  ·rw [if_pos k1]
   conv => whnf
   repeat ((first | refine ⟨rfl, ?_⟩ | refine ⟨_, rfl, ?_⟩ | (refine ⟨⟨rfl, rfl, ?_, pureL_bys _⟩, ?_⟩; (focus (simp; done))) | (refine And.intro (by first | omega | rfl | (dsimp only; omega)) ?_) | (refine And.intro ?_ ?_; (focus (first | (simp only [pureL, pureV, pureL_bys, Bool.and_true, Bool.and_self]; done) | (simp only [pureL, pureV, pureL_bys, pureL_toks, Bool.and_true, Bool.and_self]; done))))); conv => whnf)
   refine ⟨_, _, hn1 0 t hto.2.1.2, by first | rfl | simp [noRoIf, noRoL, noRoV, noRoL_bys], ?_⟩
   conv => whnf
   repeat ((first | refine ⟨rfl, ?_⟩ | refine ⟨⟨rfl, rfl⟩, ?_⟩ | (refine ⟨⟨rfl, rfl, rfl, ?_, pureL_bys _⟩, ?_⟩; (focus (simp; done))) | (refine ⟨⟨rfl, rfl, ?_⟩, ?_⟩; (focus (first | assumption | exact pureL_bys _ | exact pureL_toks _)))); conv => whnf)
   rfl
  rw [if_neg k1]
  conv => whnf
  refine ifB_dec (fun k2 => ?_) (fun k2 => ?_)
  ·rw [if_pos k2]
   conv => whnf
   repeat ((first | refine ⟨rfl, ?_⟩ | refine ⟨_, rfl, ?_⟩ | (refine ⟨⟨rfl, rfl, ?_, pureL_bys _⟩, ?_⟩; (focus (simp; done))) | (refine And.intro (by first | omega | rfl | (dsimp only; omega)) ?_) | (refine And.intro ?_ ?_; (focus (first | (simp only [pureL, pureV, pureL_bys, Bool.and_true, Bool.and_self]; done) | (simp only [pureL, pureV, pureL_bys, pureL_toks, Bool.and_true, Bool.and_self]; done))))); conv => whnf)
   refine ⟨_, _, hn1 1 t hto.2.1.2, by first | rfl | simp [noRoIf, noRoL, noRoV, noRoL_bys], ?_⟩
   conv => whnf
   repeat ((first | refine ⟨rfl, ?_⟩ | refine ⟨⟨rfl, rfl⟩, ?_⟩ | (refine ⟨⟨rfl, rfl, rfl, ?_, pureL_bys _⟩, ?_⟩; (focus (simp; done))) | (refine ⟨⟨rfl, rfl, ?_⟩, ?_⟩; (focus (first | assumption | exact pureL_bys _ | exact pureL_toks _)))); conv => whnf)
   rfl
  rw [if_neg k2]
  conv => whnf
  refine ifB_dec (fun k3 => ?_) (fun k3 => ?_)
  ·rw [if_pos (Or.inl k3)]
   conv => whnf
   repeat ((first | refine ifB_t ?_ | refine ⟨rfl, ?_⟩ | refine ⟨_, rfl, ?_⟩ | (refine ⟨⟨rfl, rfl, ?_, pureL_bys _⟩, ?_⟩; (focus (simp; done))) | (refine And.intro (by first | omega | rfl | (dsimp only; omega)) ?_) | (refine And.intro ?_ ?_; (focus (first | (simp only [pureL, pureV, pureL_bys, Bool.and_true, Bool.and_self]; done) | (simp only [pureL, pureV, pureL_bys, pureL_toks, Bool.and_true, Bool.and_self]; done))))); conv => whnf)
   refine ⟨_, _, hnb (Or.inl k3) htb, by first | rfl | simp [noRoIf, noRoL, noRoV, noRoL_bys], ?_⟩
   conv => whnf
   repeat ((first | refine ⟨rfl, ?_⟩ | refine ⟨⟨rfl, rfl⟩, ?_⟩ | (refine ⟨⟨rfl, rfl, rfl, ?_, pureL_bys _⟩, ?_⟩; (focus (simp; done))) | (refine ⟨⟨rfl, rfl, ?_⟩, ?_⟩; (focus (first | assumption | exact pureL_bys _ | exact pureL_toks _)))); conv => whnf)
   rfl
  conv => whnf
  refine ifB_dec (fun k4 => ?_) (fun k4 => ?_)
  ·rw [if_pos (Or.inr k4)]
   conv => whnf
   repeat ((first | refine ⟨rfl, ?_⟩ | refine ⟨_, rfl, ?_⟩ | (refine ⟨⟨rfl, rfl, ?_, pureL_bys _⟩, ?_⟩; (focus (simp; done))) | (refine And.intro (by first | omega | rfl | (dsimp only; omega)) ?_) | (refine And.intro ?_ ?_; (focus (first | (simp only [pureL, pureV, pureL_bys, Bool.and_true, Bool.and_self]; done) | (simp only [pureL, pureV, pureL_bys, pureL_toks, Bool.and_true, Bool.and_self]; done))))); conv => whnf)
   refine ⟨_, _, hnb (Or.inr k4) htb, by first | rfl | simp [noRoIf, noRoL, noRoV, noRoL_bys], ?_⟩
   conv => whnf
   repeat ((first | refine ⟨rfl, ?_⟩ | refine ⟨⟨rfl, rfl⟩, ?_⟩ | (refine ⟨⟨rfl, rfl, rfl, ?_, pureL_bys _⟩, ?_⟩; (focus (simp; done))) | (refine ⟨⟨rfl, rfl, ?_⟩, ?_⟩; (focus (first | assumption | exact pureL_bys _ | exact pureL_toks _)))); conv => whnf)
   rfl
  rw [if_neg (by omega)]
  conv => whnf
  refine ifB_dec (fun k5 => ?_) (fun k5 => ?_)
  ·rw [if_pos (Or.inl k5)]
   conv => whnf
   repeat ((first | refine ifB_t ?_ | refine ⟨rfl, ?_⟩ | refine ⟨_, rfl, ?_⟩ | (refine ⟨⟨rfl, rfl, ?_, pureL_bys _⟩, ?_⟩; (focus (simp; done))) | (refine And.intro (by first | omega | rfl | (dsimp only; omega)) ?_) | (refine And.intro ?_ ?_; (focus (first | (simp only [pureL, pureV, pureL_bys, Bool.and_true, Bool.and_self]; done) | (simp only [pureL, pureV, pureL_bys, pureL_toks, Bool.and_true, Bool.and_self]; done))))); conv => whnf)
   refine ⟨_, _, hm (Or.inl k5), by first | rfl | simp [noRoIf, noRoL, noRoV, noRoL_bys], ?_⟩
   conv => whnf
   repeat ((first | refine ⟨rfl, ?_⟩ | refine ⟨⟨rfl, rfl⟩, ?_⟩ | (refine ⟨⟨rfl, rfl, rfl, ?_, pureL_bys _⟩, ?_⟩; (focus (simp; done))) | (refine ⟨⟨rfl, rfl, ?_⟩, ?_⟩; (focus (first | assumption | exact pureL_bys _ | exact pureL_toks _)))); conv => whnf)
   rfl
  conv => whnf
  refine ifB_dec (fun k6 => ?_) (fun k6 => ?_)
  ·rw [if_pos (Or.inr k6)]
   conv => whnf
   repeat ((first | refine ⟨rfl, ?_⟩ | refine ⟨_, rfl, ?_⟩ | (refine ⟨⟨rfl, rfl, ?_, pureL_bys _⟩, ?_⟩; (focus (simp; done))) | (refine And.intro (by first | omega | rfl | (dsimp only; omega)) ?_) | (refine And.intro ?_ ?_; (focus (first | (simp only [pureL, pureV, pureL_bys, Bool.and_true, Bool.and_self]; done) | (simp only [pureL, pureV, pureL_bys, pureL_toks, Bool.and_true, Bool.and_self]; done))))); conv => whnf)
   refine ⟨_, _, hm (Or.inr k6), by first | rfl | simp [noRoIf, noRoL, noRoV, noRoL_bys], ?_⟩
   conv => whnf
   repeat ((first | refine ⟨rfl, ?_⟩ | refine ⟨⟨rfl, rfl⟩, ?_⟩ | (refine ⟨⟨rfl, rfl, rfl, ?_, pureL_bys _⟩, ?_⟩; (focus (simp; done))) | (refine ⟨⟨rfl, rfl, ?_⟩, ?_⟩; (focus (first | assumption | exact pureL_bys _ | exact pureL_toks _)))); conv => whnf)
   rfl
  rw [if_neg (by omega)]
  conv => whnf
  repeat ((first | refine ⟨rfl, ?_⟩ | refine ⟨⟨rfl, rfl⟩, ?_⟩ | (refine ⟨⟨rfl, rfl, rfl, ?_, pureL_bys _⟩, ?_⟩; (focus (simp; done))) | (refine ⟨⟨rfl, rfl, ?_⟩, ?_⟩; (focus (first | assumption | exact pureL_bys _ | exact pureL_toks _))) | (refine ⟨⟨rfl, rfl, ?_⟩, ?_⟩; (focus (first | exact Nat.le_of_ble_eq_true rfl | (simp; done))))); conv => whnf)
  rfl
theorem item_ok (l : List Tok) (hl : ToksOk l) (hlb : ∀ t ∈ l, t.b.length ≤ 1099511627776) (hll : l.length ≤ 1000000) : ∀ f : Nat, f ≤ 6 → ItemOk l f
 | 0, _ => by
  intro w hw hwb
  unfold wItem
  by_cases h : l.length ≤ w.at' ∨ 32768 < w.out.length
  ·rw [dif_pos h]
   exact item_bad l w hw h _
  ·rw [dif_neg h]
   exact item_at l hl hlb hll w (by omega) (by omega) _ (fun w t => { w with bad := true }) (fun hk => many_bad _ _ (pureL_toks l) _ _ _ (.inr (by simp)))
 | f + 1, hf => by
  have ih := item_ok l hl hlb hll f (by omega)
  intro w hw hwb
  unfold wItem
  by_cases h : l.length ≤ w.at' ∨ 32768 < w.out.length
  ·rw [dif_pos h]
   exact item_bad l w hw h _
  ·rw [dif_neg h]
   have e : 7 - ((f + 1 : Nat) : Int) = 6 - f := by omega
   rw [e]
   refine item_at l hl hlb hll w (by omega) (by omega) _ (fun w t => if wManyBad t then { w with bad := true } else if t.k = 5 then wArr (wItem validR l f) t.n.toNat (wHead 4 t.n w) else wMap (wItem validR l f) t.n.toNat 0 0 0 (wHead 5 t.n w)) (fun hk => ?_)
   simp only
   by_cases hb : wManyBad l[w.at'] = true
   ·rw [if_pos hb]
    exact many_bad _ _ (pureL_toks l) _ _ _ (.inl hb)
   ·rw [if_neg hb]
    have hb : wManyBad l[w.at'] = false := by simpa using hb
    by_cases h5 : l[w.at'].k = 5
    ·rw [if_pos h5]
     exact many_arr l f hl ih (by omega) { w with at' := w.at' + 1 } (show w.out.length ≤ 32768 by omega) _ hwb h5 hb
    ·rw [if_neg h5]
     exact many_map l f hl ih (by omega) { w with at' := w.at' + 1 } (show w.out.length ≤ 32768 by omega) _ hwb (by omega) hb
theorem encode_ok (l : List Tok) (hl : ToksOk l) (hlb : ∀ t ∈ l, t.b.length ≤ 1099511627776) : ACall Tryz.prog 88 [.ro l.length (toksC l)]
  (.tuple [.own (encR validR l).1.length 1 (bys (encR validR l).1), .int .i64 (encR validR l).2]) [] := by
 have hL := pureL_toks l
 refine ACall.of_does TTok Tryz.func88 rfl Tryz.call88 rfl (wpc_sound (M := MC) (PL := PL0) (CU := noCut) TTok mixed _ _ _ ?_)
 conv => whnf
 unfold encR
 refine ifB_dec (fun k1 => ?_) (fun k1 => ?_)
 ·rw [if_pos (by omega)]
  conv => whnf
  repeat ((refine ⟨⟨rfl, rfl⟩, ?_⟩); conv => whnf)
  rfl
 rw [if_neg (by omega)]
 have hi := item_ok l hl hlb (by omega) 6 (by omega) ⟨0, [], false⟩ (by simp) (by simp [Byt])
 have hle := wItem_le validR l 6 ⟨0, [], false⟩ (by simp)
 obtain ⟨w, hw⟩ : ∃ w, w = wItem validR l 6 ⟨0, [], false⟩ := ⟨_, rfl⟩
 rw [← hw] at hi hle ⊢
 rw [show (7 : Int) - ((6 : Nat) : Int) = 1 from rfl] at hi
 obtain ⟨wa, wo, wb⟩ := w
 conv => whnf
 repeat ((first | refine ⟨rfl, ?_⟩ | (refine And.intro (by first | omega | rfl | (dsimp only; omega)) ?_)); conv => whnf)
 refine ⟨_, _, hi, by first | rfl | simp [noRoIf, noRoL, noRoV, noRoL_bys], ?_⟩
 conv => whnf
 repeat ((refine ⟨_, rfl, ?_⟩); conv => whnf)
 cases wb
 ·conv => whnf
  repeat ((first | refine ifB_f ?_ | refine ⟨_, rfl, ?_⟩); conv => whnf)
  refine ifB_dec (fun k2 => ?_) (fun k2 => ?_)
  ·simp only at k2
   rw [if_pos (by simp; omega)]
   conv => whnf
   repeat ((first | refine ifB_t ?_ | refine ⟨⟨rfl, rfl⟩, ?_⟩); conv => whnf)
   rfl
  ·simp only at k2
   conv => whnf
   repeat ((first | refine ifB_f ?_ | refine ⟨_, rfl, ?_⟩); conv => whnf)
   refine ifB_dec (fun k3 => ?_) (fun k3 => ?_)
   ·simp only at k3
    rw [if_pos (by simp; omega)]
    conv => whnf
    repeat ((refine ⟨⟨rfl, rfl⟩, ?_⟩); conv => whnf)
    rfl
   ·simp only at k3
    rw [if_neg (by simp; omega)]
    conv => whnf
    repeat ((first | refine ⟨_, rfl, ?_⟩ | refine ⟨⟨rfl, rfl⟩, ?_⟩ | (refine ⟨⟨rfl, rfl, rfl, ?_, pureL_bys _⟩, ?_⟩; (focus (simp; done)))); conv => whnf)
    rfl
 ·rw [if_pos (by simp)]
  conv => whnf
  repeat ((first | refine ifB_t ?_ | refine ⟨⟨rfl, rfl⟩, ?_⟩); conv => whnf)
  rfl
end
section

attribute [local irreducible] ifB fitP Does Weaker
theorem bclone_ok (l : List Int) (hl : l.length ≤ 17592186044416) : ACall Tryz.prog 68 [.ro l.length (bys l)] (.own l.length 1 (bys l)) [] := by
 refine ACall.of_does TTok Tryz.func68 rfl Tryz.call68 rfl (wpc_sound (M := MC) (PL := PL0) (CU := noCut) TTok mixed _ _ _ ?_)
 conv => whnf
 repeat ((first | refine ifB_t ?_ | refine ifB_f ?_); conv => whnf)
 refine ⟨fun h => ?_, ?_⟩
 ·conv => whnf
  repeat ((first | refine ifB_t ?_ | refine ifB_f ?_); conv => whnf)
  have h0 : l = [] := bys_nil h
  subst h0
  exact ⟨⟨rfl, rfl⟩, rfl⟩
 ·conv => whnf
  repeat ((first | refine ifB_t ?_ | refine ifB_f ?_); conv => whnf)
  refine ⟨by simp, ?_⟩
  conv => whnf
  repeat ((first | refine ifB_t ?_ | refine ifB_f ?_); conv => whnf)
  refine ⟨ones_bys l, ?_⟩
  conv => whnf
  repeat ((first | refine ifB_t ?_ | refine ifB_f ?_); conv => whnf)
  refine ⟨⟨rfl, by simp, Or.inl rfl, by simp [limB]; omega⟩, ?_⟩
  conv => whnf
  repeat ((first | refine ifB_t ?_ | refine ifB_f ?_); conv => whnf)
  exact ⟨⟨by simp, rfl, rfl, by simp, pureL_bys _⟩, rfl⟩
def PLpart : Nat → Bool × Plan := plans [(1, (true, takes [0, 1, 2, 3, 4, 5, 6, 7, 8, 9, 10, 11])), (4, (false, (takesTo [0, 1, 2, 4, 5, 6, 8, 9, 10, 12] (.all [(3, (.all [(7, (.all [(11, (takesTo [13, 14] (.all [(15, (takes [16]))])))])), (11, (takesTo [13] (.all [(7, (takesTo [14] (.all [(15, (takes [16]))])))])))])), (7, (.all [(3, (.all [(11, (takesTo [13, 14] (.all [(15, (takes [16]))])))])), (11, (takesTo [13] (.all [(3, (takesTo [14] (.all [(15, (takes [16]))])))])))])), (11, (takesTo [13] (.all [(3, (.all [(7, (takesTo [14] (.all [(15, (takes [16]))])))])), (7, (.all [(3, (takesTo [14] (.all [(15, (takes [16]))])))]))])))]))))]
theorem part_no (b : List Int) (at' n : Nat) (bad : Bool) (hat : at' ≤ b.length) (hl : b.length ≤ 1099511627776) (h : b.length < at' + n) :
  ACall Tryz.prog 136 [.ref [.ro b.length (bys b), .int .i64 (at' : Int), .hid 0, .bool bad], .int .i64 (n : Int)] (.ro 0 []) [.ref [.ro b.length (bys b), .int .i64 (at' : Int), .hid 0, .bool true]] := by
 refine ACall.of_does TTok Tryz.func136 rfl Tryz.call136 rfl (wpc_sound (M := MC) (PL := PLpart) (CU := noCut) TTok mixed _ _ _ ?_)
 conv => whnf
 repeat ((first | refine ifB_t ?_ | refine ifB_f ?_); conv => whnf)
 refine ⟨by kernel_rfl, ?_⟩
 conv => whnf
 repeat ((first | (refine ifB_pos (decide_eq_true (by first | omega | rfl | (dsimp only; omega))) ?_) | (refine fit_i64 ⟨by first | omega | rfl | (dsimp only; omega), by first | omega | rfl | (dsimp only; omega)⟩ ?_) | refine ⟨rfl, ?_⟩ | refine ⟨_, rfl, ?_⟩ | refine ⟨⟨rfl, rfl⟩, ?_⟩ | (refine ⟨⟨rfl, rfl, ?_⟩, ?_⟩; (focus (first | assumption | exact pureL_bys _ | exact pureL_toks _))) | (refine ⟨⟨rfl, rfl, ?_⟩, ?_⟩; (focus (first | exact Nat.le_of_ble_eq_true rfl | (simp; done))))); conv => whnf)
 rfl
theorem part_yes (b : List Int) (at' n : Nat) (bad : Bool) (hl : b.length ≤ 1099511627776) (h : at' + n ≤ b.length) :
  ACall Tryz.prog 136 [.ref [.ro b.length (bys b), .int .i64 (at' : Int), .hid 0, .bool bad], .int .i64 (n : Int)] (.ro n (bys ((b.drop at').take n))) [.ref [.ro b.length (bys b), .int .i64 ((at' : Int) + n), .hid 0, .bool bad]] := by
 refine ACall.of_does TTok Tryz.func136 rfl Tryz.call136 rfl (wpc_sound (M := MC) (PL := PLpart) (CU := cutAt [200004]) TTok mixed _ _ _ ?_)
 conv => whnf
 repeat ((first | refine ifB_t ?_ | refine ifB_f ?_); conv => whnf)
 refine ⟨by kernel_rfl, ?_⟩
 conv => whnf
 repeat ((first | (refine ifB_neg (decide_eq_false (by first | omega | rfl | (dsimp only; omega))) ?_) | (refine fit_i64 ⟨by first | omega | rfl | (dsimp only; omega), by first | omega | rfl | (dsimp only; omega)⟩ ?_) | refine ⟨_, rfl, ?_⟩); conv => whnf)
 refine Does.seqCut (α := Unit) (fun _ => mkSt [(0, .ptr 0 0), (1, .int .i64 (n : Int)), (5, .sl 1 0 ((b.drop at').take n).length 1 false)]
  [(0, [.ro b.length (bys b), .int .i64 (at' : Int), .hid 0, .bool bad]), (1, bys ((b.drop at').take n))] 2 46) (fun _ => True) ?_ (fun _ _ => ?_)
 ·refine wpc_sound (M := MC) (PL := PLpart) (CU := noCut) TTok mixed _ _ _ ?_
  conv => whnf
  refine ⟨by kernel_rfl, ?_⟩
  conv => whnf
  refine ⟨?_, ?_, ?_⟩
  ·conv => whnf
   repeat ((refine ⟨_, rfl, ?_⟩); conv => whnf)
   refine ⟨?_, ?_⟩
   ·conv => whnf
    repeat ((first | (refine fit_i64 ⟨by first | omega | rfl | (dsimp only; omega), by first | omega | rfl | (dsimp only; omega)⟩ ?_) | refine ⟨pureL_cutB _ _ _ _, ?_⟩ | refine ⟨rfl, ?_⟩ | refine ⟨_, rfl, ?_⟩ | (refine ⟨⟨?_, ?_⟩, ?_⟩; (focus (simp; done)); (focus (first | (simp only [okB]; omega) | (simp [okB]; omega))))); conv => whnf)
    refine ⟨_, _, ACall.arg1 (bclone_ok ((b.drop at').take n) (by simp; omega)) (by simp [lenB]; omega) (by simp [cutB, bys_drop, bys_take]; rw [show ((at' : Int) + n).toNat - at' = n by omega]), by first | rfl | simp [noRoIf, noRoL, noRoV, noRoL_bys], ?_⟩
    conv => whnf
    refine ⟨(), trivial, weaker_of [(1, 1)] rfl rfl ?_ ?_⟩
    ·exact ⟨⟨rfl, rfl⟩, ⟨rfl, rfl⟩, ⟨rfl, rfl, rfl, rfl, id⟩, trivial⟩
    ·exact ⟨⟨⟨rfl, rfl, pureL_bys _⟩, ⟨rfl, rfl⟩, rfl, rfl, trivial⟩, lesP_bys rfl, trivial⟩
   ·conv => whnf
    repeat ((first | (refine fit_i64 ⟨by first | omega | rfl | (dsimp only; omega), by first | omega | rfl | (dsimp only; omega)⟩ ?_) | refine ⟨pureL_cutB _ _ _ _, ?_⟩ | refine ⟨rfl, ?_⟩ | refine ⟨_, rfl, ?_⟩ | (refine ⟨⟨?_, ?_⟩, ?_⟩; (focus (simp; done)); (focus (first | (simp only [okB]; omega) | (simp [okB]; omega))))); conv => whnf)
    refine ⟨_, _, ACall.arg1 (bclone_ok ((b.drop at').take n) (by simp; omega)) (by simp [lenB]; omega) (by simp [cutB, bys_drop, bys_take]; rw [show ((at' : Int) + n).toNat - at' = n by omega]), by first | rfl | simp [noRoIf, noRoL, noRoV, noRoL_bys], ?_⟩
    conv => whnf
    refine ⟨(), trivial, weaker_of [(1, 1)] rfl rfl ?_ ?_⟩
    ·exact ⟨⟨rfl, rfl⟩, ⟨rfl, rfl⟩, ⟨rfl, rfl, rfl, rfl, id⟩, trivial⟩
    ·exact ⟨⟨⟨rfl, rfl, pureL_bys _⟩, ⟨rfl, rfl⟩, rfl, rfl, trivial⟩, lesP_bys rfl, trivial⟩
  ·conv => whnf
   repeat ((refine ⟨_, rfl, ?_⟩); conv => whnf)
   refine ⟨?_, ?_⟩
   ·conv => whnf
    repeat ((first | (refine fit_i64 ⟨by first | omega | rfl | (dsimp only; omega), by first | omega | rfl | (dsimp only; omega)⟩ ?_) | refine ⟨pureL_cutB _ _ _ _, ?_⟩ | refine ⟨rfl, ?_⟩ | refine ⟨_, rfl, ?_⟩ | (refine ⟨⟨?_, ?_⟩, ?_⟩; (focus (simp; done)); (focus (first | (simp only [okB]; omega) | (simp [okB]; omega))))); conv => whnf)
    refine ⟨_, _, ACall.arg1 (bclone_ok ((b.drop at').take n) (by simp; omega)) (by simp [lenB]; omega) (by simp [cutB, bys_drop, bys_take]; rw [show ((at' : Int) + n).toNat - at' = n by omega]), by first | rfl | simp [noRoIf, noRoL, noRoV, noRoL_bys], ?_⟩
    conv => whnf
    refine ⟨(), trivial, weaker_of [(1, 1)] rfl rfl ?_ ?_⟩
    ·exact ⟨⟨rfl, rfl⟩, ⟨rfl, rfl⟩, ⟨rfl, rfl, rfl, rfl, id⟩, trivial⟩
    ·exact ⟨⟨⟨rfl, rfl, pureL_bys _⟩, ⟨rfl, rfl⟩, rfl, rfl, trivial⟩, lesP_bys rfl, trivial⟩
   ·conv => whnf
    repeat ((first | (refine fit_i64 ⟨by first | omega | rfl | (dsimp only; omega), by first | omega | rfl | (dsimp only; omega)⟩ ?_) | refine ⟨pureL_cutB _ _ _ _, ?_⟩ | refine ⟨rfl, ?_⟩ | refine ⟨_, rfl, ?_⟩ | (refine ⟨⟨?_, ?_⟩, ?_⟩; (focus (simp; done)); (focus (first | (simp only [okB]; omega) | (simp [okB]; omega))))); conv => whnf)
    refine ⟨_, _, ACall.arg1 (bclone_ok ((b.drop at').take n) (by simp; omega)) (by simp [lenB]; omega) (by simp [cutB, bys_drop, bys_take]; rw [show ((at' : Int) + n).toNat - at' = n by omega]), by first | rfl | simp [noRoIf, noRoL, noRoV, noRoL_bys], ?_⟩
    conv => whnf
    refine ⟨(), trivial, weaker_of [(1, 1)] rfl rfl ?_ ?_⟩
    ·exact ⟨⟨rfl, rfl⟩, ⟨rfl, rfl⟩, ⟨rfl, rfl, rfl, rfl, id⟩, trivial⟩
    ·exact ⟨⟨⟨rfl, rfl, pureL_bys _⟩, ⟨rfl, rfl⟩, rfl, rfl, trivial⟩, lesP_bys rfl, trivial⟩
  ·conv => whnf
   repeat ((first | (refine fit_i64 ⟨by first | omega | rfl | (dsimp only; omega), by first | omega | rfl | (dsimp only; omega)⟩ ?_) | refine ⟨_, rfl, ?_⟩); conv => whnf)
   refine ⟨?_, ?_⟩
   ·conv => whnf
    repeat ((first | refine ⟨pureL_cutB _ _ _ _, ?_⟩ | refine ⟨rfl, ?_⟩ | refine ⟨_, rfl, ?_⟩ | (refine ⟨⟨?_, ?_⟩, ?_⟩; (focus (simp; done)); (focus (first | (simp only [okB]; omega) | (simp [okB]; omega))))); conv => whnf)
    refine ⟨_, _, ACall.arg1 (bclone_ok ((b.drop at').take n) (by simp; omega)) (by simp [lenB]; omega) (by simp [cutB, bys_drop, bys_take]; rw [show ((at' : Int) + n).toNat - at' = n by omega]), by first | rfl | simp [noRoIf, noRoL, noRoV, noRoL_bys], ?_⟩
    conv => whnf
    refine ⟨(), trivial, weaker_of [(1, 1)] rfl rfl ?_ ?_⟩
    ·exact ⟨⟨rfl, rfl⟩, ⟨rfl, rfl⟩, ⟨rfl, rfl, rfl, rfl, id⟩, trivial⟩
    ·exact ⟨⟨⟨rfl, rfl, pureL_bys _⟩, ⟨rfl, rfl⟩, rfl, rfl, trivial⟩, lesP_bys rfl, trivial⟩
   ·conv => whnf
    repeat ((first | refine ⟨pureL_cutB _ _ _ _, ?_⟩ | refine ⟨rfl, ?_⟩ | refine ⟨_, rfl, ?_⟩ | (refine ⟨⟨?_, ?_⟩, ?_⟩; (focus (simp; done)); (focus (first | (simp only [okB]; omega) | (simp [okB]; omega))))); conv => whnf)
    refine ⟨_, _, ACall.arg1 (bclone_ok ((b.drop at').take n) (by simp; omega)) (by simp [lenB]; omega) (by simp [cutB, bys_drop, bys_take]; rw [show ((at' : Int) + n).toNat - at' = n by omega]), by first | rfl | simp [noRoIf, noRoL, noRoV, noRoL_bys], ?_⟩
    conv => whnf
    refine ⟨(), trivial, weaker_of [(1, 1)] rfl rfl ?_ ?_⟩
    ·exact ⟨⟨rfl, rfl⟩, ⟨rfl, rfl⟩, ⟨rfl, rfl, rfl, rfl, id⟩, trivial⟩
    ·exact ⟨⟨⟨rfl, rfl, pureL_bys _⟩, ⟨rfl, rfl⟩, rfl, rfl, trivial⟩, lesP_bys rfl, trivial⟩
 ·refine wpc_sound (M := MC) (PL := PLpart) (CU := cutAt [99999]) TTok mixed _ _ _ ?_
  conv => whnf
  repeat ((first | (refine fit_i64 ⟨by first | omega | rfl | (dsimp only; omega), by first | omega | rfl | (dsimp only; omega)⟩ ?_) | refine ⟨_, rfl, ?_⟩ | (refine ⟨⟨rfl, rfl, ?_⟩, ?_⟩; (focus (first | exact Nat.le_of_ble_eq_true rfl | (simp; done))))); conv => whnf)
  refine Does.freeze 1 rfl (Does.ret ?_)
  conv => whnf
  repeat ((first | refine ⟨rfl, ?_⟩ | refine ⟨⟨rfl, rfl⟩, ?_⟩ | (refine ⟨⟨rfl, rfl, ?_⟩, ?_⟩; (focus (first | assumption | exact pureL_bys _ | exact pureL_toks _)))); conv => whnf)
  refine ⟨⟨by simp; omega, by rw [List.drop_zero, List.take_of_length_le (by simp)], pureL_bys _⟩, ?_⟩
  conv => whnf
  rfl
end
section

attribute [local irreducible] ifB fitP Does Weaker
theorem lesP_toks {o : Nat → Option Nat} {xs : List AV} : ∀ {l : List Tok}, xs = toksC l → lesP o (toksC l) xs
 | [], h => by subst h; trivial
 | t :: l, h => by
  subst h
  exact ⟨⟨rfl, rfl⟩, ⟨rfl, rfl⟩, ⟨rfl, rfl, pureL_bys _⟩, lesP_toks rfl⟩
theorem lesP_toks_nil {o : Nat → Option Nat} {k n : Int} : ∀ {l : List Tok}, lesP o (toksC (l ++ [⟨k, n, []⟩])) (toksC l ++ [.int .i64 k, .int .i64 n, .nil])
 | [] => ⟨⟨rfl, rfl⟩, ⟨rfl, rfl⟩, ⟨rfl, rfl⟩, trivial⟩
 | t :: l => ⟨⟨rfl, rfl⟩, ⟨rfl, rfl⟩, ⟨rfl, rfl, pureL_bys _⟩, lesP_toks_nil⟩
structure Pa where
 at' : Nat
 l : List Tok
 bad : Bool
def pC (b : List Int) (p : Pa) : List AV := [.ro b.length (bys b), .int .i64 (p.at' : Int), .own p.l.length 3 (toksC p.l), .bool p.bad]
def pMany (g : Pa → Pa) : Nat → Pa → Pa
 | 0, p => p
 | n + 1, p => if p.bad then p else pMany g n (g p)
def pPart (b : List Int) (k n : Int) (next : Nat) (l : List Tok) : Pa :=
 if (b.length : Int) < next + n then ⟨next, l ++ [⟨k, 0, []⟩], true⟩ else ⟨next + n.toNat, l ++ [⟨k, 0, (b.drop next).take n.toNat⟩], false⟩
def pGo (b : List Int) (g : Pa → Pa) (m n : Int) (next : Nat) (l : List Tok) : Pa :=
 if m = 0 then ⟨next, l ++ [⟨1, n, []⟩], false⟩
 else if m = 1 then ⟨next, l ++ [⟨2, n, []⟩], false⟩
 else if m = 2 then pPart b 3 n next l
 else if m = 3 then pPart b 4 n next l
 else if m = 4 then pMany g n.toNat ⟨next, l ++ [⟨5, n, []⟩], false⟩
 else if m = 5 then pMany g (2 * min n 65).toNat ⟨next, l ++ [⟨6, n, []⟩], false⟩
 else ⟨next, l, true⟩
def pBad (b : List Int) (p : Pa) : Prop := p.bad = true ∨ (getR b p.at').2.2.2 ≠ 0 ∨ 600 ≤ p.l.length
instance (b : List Int) (p : Pa) : Decidable (pBad b p) := by unfold pBad; infer_instance
def pItem (b : List Int) : Nat → Pa → Pa
 | 0, p => { p with bad := true }
 | f + 1, p => if pBad b p then { p with bad := true } else pGo b (pItem b f) (getR b p.at').1 (getR b p.at').2.1 (getR b p.at').2.2.1.toNat p.l
def PItemOk (b : List Int) (f : Nat) : Prop := ∀ p : Pa, p.at' ≤ b.length → p.l.length ≤ 600 →
 ACall Tryz.prog 116 [.ref (pC b p), .int .i64 (8 - (f : Int))] (.tuple []) [.ref (pC b (pItem b f p))]
def PInv (b : List Int) (p : Pa) : Prop := p.at' ≤ b.length ∧ p.l.length ≤ 600
theorem pMany_inv (b : List Int) (g : Pa → Pa) (hg : ∀ p, PInv b p → PInv b (g p)) : ∀ (n : Nat) (p : Pa), PInv b p → PInv b (pMany g n p)
 | 0, p, h => h
 | n + 1, p, h => by
  unfold pMany
  split
  ·exact h
  ·exact pMany_inv b g hg n _ (hg p h)
theorem pPart_inv (b : List Int) (k n : Int) (hn : 0 ≤ n) (next : Nat) (hx : next ≤ b.length) (l : List Tok) (hl : l.length < 600) : PInv b (pPart b k n next l) := by
 unfold pPart
 split
 ·exact ⟨hx, by simp; omega⟩
 ·exact ⟨by simp only; omega, by simp; omega⟩
theorem pGo_inv (b : List Int) (g : Pa → Pa) (hg : ∀ p, PInv b p → PInv b (g p)) (m n : Int) (hn : 0 ≤ n) (next : Nat) (hx : next ≤ b.length) (l : List Tok) (hl : l.length < 600) : PInv b (pGo b g m n next l) := by
 unfold pGo
 split
 ·exact ⟨hx, by simp; omega⟩
 split
 ·exact ⟨hx, by simp; omega⟩
 split
 ·exact pPart_inv b _ n hn next hx l hl
 split
 ·exact pPart_inv b _ n hn next hx l hl
 split
 ·exact pMany_inv b g hg _ _ ⟨hx, by simp; omega⟩
 split
 ·exact pMany_inv b g hg _ _ ⟨hx, by simp; omega⟩
 ·exact ⟨hx, by simp only; omega⟩
theorem getR_right (b : List Int) (hb : Byt b) (at' : Nat) (h : (getR b at').2.2.2 = 0) : ∃ (M n : Int) (X : Nat), getR b at' = (M, n, (X : Int), 0) ∧ (0 ≤ M ∧ M < 8) ∧ (0 ≤ n ∧ n ≤ 9223372036854775807) ∧ X ≤ b.length ∧ at' < X := by
 rcases getR_says b hb at' with ⟨e, _⟩ | ⟨e, _⟩ | ⟨k, m, hk, n, hkk, hkm, hn0, hn1, e, _⟩
 ·rw [e] at h; simp at h
 ·rw [e] at h; simp at h
 ·have hbk := hb b[k] (by simp)
  refine ⟨b[k] / 32, n, k + 1 + m, by rw [e]; simp, by omega, ⟨hn0, hn1⟩, hkm, by omega⟩
theorem pItem_inv (b : List Int) (hb : Byt b) : ∀ (f : Nat) (p : Pa), PInv b p → PInv b (pItem b f p)
 | 0, p, h => h
 | f + 1, p, h => by
  unfold pItem
  split
  ·exact h
  ·rename_i hh
   simp only [pBad, not_or] at hh
   obtain ⟨M, n, X, e, _, hn, hX, _⟩ := getR_right b hb p.at' (by omega)
   rw [e]
   exact pGo_inv b _ (fun p hp => pItem_inv b hb f p hp) _ _ hn.1 _ (by simpa using hX) _ (by omega)
def PLpi : Nat → Bool × Plan := plans [(0, (false, (takesTo [0, 1, 2, 4, 5, 6] (.all [(3, (.all [(7, (.all [(8, (takes [9, 10, 11, 12, 13, 14, 15, 16, 17]))]))])), (7, (.all [(3, (.all [(8, (takes [9, 10, 11, 12, 13, 14, 15, 16, 17]))]))]))])))),
 (12, (false, (takesTo [0, 1, 2, 3, 5, 6] (.all [(4, (.all [(7, (takesTo [8] (.all [(9, (.all [(10, (takesTo [11, 12] (.all [(13, .done)])))]))])))])), (7, (takesTo [8] (.all [(4, (.all [(9, (.all [(10, (takesTo [11, 12] (.all [(13, .done)])))]))])), (9, (.all [(4, (.all [(10, (takesTo [11, 12] (.all [(13, .done)])))]))]))])))])))),
 (14, (false, (takesTo [0, 1, 2, 3, 5, 6] (.all [(4, (.all [(7, (takesTo [8] (.all [(9, (.all [(10, (takesTo [11, 12] (.all [(13, .done)])))]))])))])), (7, (takesTo [8] (.all [(4, (.all [(9, (.all [(10, (takesTo [11, 12] (.all [(13, .done)])))]))])), (9, (.all [(4, (.all [(10, (takesTo [11, 12] (.all [(13, .done)])))]))]))])))]))))]
theorem pItem_bad (b : List Int) (hb : Byt b) (hbl : b.length ≤ 32768) (p : Pa) (hat : p.at' ≤ b.length) (hl : p.l.length ≤ 600) (d : Int) (h : pBad b p ∨ 7 < d) :
  ACall Tryz.prog 116 [.ref (pC b p), .int .i64 d] (.tuple []) [.ref (pC b { p with bad := true })] := by
 obtain ⟨at', l, bad⟩ := p
 simp only [pBad] at hat hl h
 have hL := pureL_toks l
 have hg := get_ok b hb (by omega) (at' : Int)
 obtain ⟨r, hr⟩ : ∃ r, r = getR b at' := ⟨_, rfl⟩
 rw [← hr] at hg h
 refine ACall.of_does TTok Tryz.func116 rfl Tryz.call116 rfl (wpc_sound (M := MC) (PL := PLpi) (CU := cutAt [200000]) TTok mixed _ _ _ ?_)
 conv => whnf
 refine Does.seqCut (α := Unit) (fun _ => mkSt [(0, .ptr 1 0), (1, .int .i64 d), (4, .int .i64 r.1), (5, .int .i64 r.2.1), (6, .int .i64 r.2.2.1), (7, .int .i64 r.2.2.2)]
  [(0, toksC l), (1, [.ro b.length (bys b), .int .i64 (at' : Int), .sl 0 0 l.length 3 false, .bool bad])] 2 157) (fun _ => True) ?_ (fun _ _ => ?_)
 ·refine wpc_sound (M := MC) (PL := PLpi) (CU := noCut) TTok mixed _ _ _ ?_
  conv => whnf
  refine ⟨by kernel_rfl, ?_⟩
  conv => whnf
  refine ⟨?_, ?_⟩
  ·conv => whnf
   repeat ((first | refine ⟨pureL_bys _, ?_⟩ | refine ⟨rfl, ?_⟩ | refine ⟨_, rfl, ?_⟩); conv => whnf)
   refine ⟨_, _, hg, by first | rfl | simp [noRoIf, noRoL, noRoV, noRoL_bys], ?_⟩
   conv => whnf
   refine ⟨(), trivial, weaker_of [] rfl rfl ?_ ?_⟩
   ·exact ⟨⟨rfl, rfl⟩, ⟨rfl, rfl⟩, ⟨rfl, rfl⟩, ⟨rfl, rfl⟩, ⟨rfl, rfl⟩, ⟨rfl, rfl⟩, trivial⟩
   ·exact ⟨lesP_toks rfl, ⟨⟨rfl, rfl, pureL_bys _⟩, ⟨rfl, rfl⟩, ⟨rfl, rfl, rfl, rfl, id⟩, rfl, trivial⟩, trivial⟩
  ·conv => whnf
   repeat ((first | refine ⟨pureL_bys _, ?_⟩ | refine ⟨rfl, ?_⟩ | refine ⟨_, rfl, ?_⟩); conv => whnf)
   refine ⟨_, _, hg, by first | rfl | simp [noRoIf, noRoL, noRoV, noRoL_bys], ?_⟩
   conv => whnf
   refine ⟨(), trivial, weaker_of [] rfl rfl ?_ ?_⟩
   ·exact ⟨⟨rfl, rfl⟩, ⟨rfl, rfl⟩, ⟨rfl, rfl⟩, ⟨rfl, rfl⟩, ⟨rfl, rfl⟩, ⟨rfl, rfl⟩, trivial⟩
   ·exact ⟨lesP_toks rfl, ⟨⟨rfl, rfl, pureL_bys _⟩, ⟨rfl, rfl⟩, ⟨rfl, rfl, rfl, rfl, id⟩, rfl, trivial⟩, trivial⟩
 ·refine wpc_sound (M := MC) (PL := PLpi) (CU := noCut) TTok mixed _ _ _ ?_
  conv => whnf
  repeat ((refine ⟨_, rfl, ?_⟩); conv => whnf)
  cases bad
  ·conv => whnf
   repeat ((refine ifB_f ?_); conv => whnf)
   refine ifB_dec (fun k1 => ?_) (fun k1 => ?_)
   ·conv => whnf
    repeat ((first | refine ifB_t ?_ | refine ⟨rfl, ?_⟩ | refine ⟨⟨rfl, rfl⟩, ?_⟩ | (refine ⟨⟨rfl, rfl, rfl, ?_, pureL_toks _⟩, ?_⟩; (focus (rw [toksC_length]; omega))) | (refine ⟨⟨rfl, rfl, ?_⟩, ?_⟩; (focus (first | assumption | exact pureL_bys _ | exact pureL_toks _))) | (refine ⟨⟨rfl, rfl, ?_⟩, ?_⟩; (focus (first | exact Nat.le_of_ble_eq_true rfl | (simp; done))))); conv => whnf)
    rfl
   have k1 : r.2.2.2 = 0 := Classical.not_not.1 k1
   conv => whnf
   repeat ((first | refine ifB_f ?_ | refine ⟨_, rfl, ?_⟩); conv => whnf)
   refine ifB_dec (fun k2 => ?_) (fun k2 => ?_)
   ·conv => whnf
    repeat ((first | refine ifB_t ?_ | refine ⟨rfl, ?_⟩ | refine ⟨⟨rfl, rfl⟩, ?_⟩ | (refine ⟨⟨rfl, rfl, rfl, ?_, pureL_toks _⟩, ?_⟩; (focus (rw [toksC_length]; omega))) | (refine ⟨⟨rfl, rfl, ?_⟩, ?_⟩; (focus (first | assumption | exact pureL_bys _ | exact pureL_toks _))) | (refine ⟨⟨rfl, rfl, ?_⟩, ?_⟩; (focus (first | exact Nat.le_of_ble_eq_true rfl | (simp; done))))); conv => whnf)
    rfl
   conv => whnf
   repeat ((refine ifB_f ?_); conv => whnf)
   refine ifB_pos (decide_eq_true ?_) ?_
   ·rcases h with (h | h | h) | h
    ·simp at h
    ·omega
    ·omega
    ·exact h
   ·conv => whnf
    repeat ((first | refine ⟨rfl, ?_⟩ | refine ⟨⟨rfl, rfl⟩, ?_⟩ | (refine ⟨⟨rfl, rfl, rfl, ?_, pureL_toks _⟩, ?_⟩; (focus (rw [toksC_length]; omega))) | (refine ⟨⟨rfl, rfl, ?_⟩, ?_⟩; (focus (first | assumption | exact pureL_bys _ | exact pureL_toks _))) | (refine ⟨⟨rfl, rfl, ?_⟩, ?_⟩; (focus (first | exact Nat.le_of_ble_eq_true rfl | (simp; done))))); conv => whnf)
    rfl
  ·conv => whnf
   repeat ((first | refine ifB_t ?_ | refine ⟨rfl, ?_⟩ | refine ⟨⟨rfl, rfl⟩, ?_⟩ | (refine ⟨⟨rfl, rfl, rfl, ?_, pureL_toks _⟩, ?_⟩; (focus (rw [toksC_length]; omega))) | (refine ⟨⟨rfl, rfl, ?_⟩, ?_⟩; (focus (first | assumption | exact pureL_bys _ | exact pureL_toks _))) | (refine ⟨⟨rfl, rfl, ?_⟩, ?_⟩; (focus (first | exact Nat.le_of_ble_eq_true rfl | (simp; done))))); conv => whnf)
   rfl
set_option maxHeartbeats 8000000 in
theorem pItem_go (b : List Int) (hb : Byt b) (hbl : b.length ≤ 32768) (f : Nat) (hf : f ≤ 6) (ih : PItemOk b f) (at' : Nat) (l : List Tok) (hat : at' ≤ b.length) (hl : l.length < 600) (he : (getR b at').2.2.2 = 0) :
  ACall Tryz.prog 116 [.ref (pC b ⟨at', l, false⟩), .int .i64 (7 - (f : Int))] (.tuple []) [.ref (pC b (pGo b (pItem b f) (getR b at').1 (getR b at').2.1 (getR b at').2.2.1.toNat l))] := by
 have hL := pureL_toks l
 have hg := get_ok b hb (by omega) (at' : Int)
 obtain ⟨M, n, X, e, hM, hn, hX, _⟩ := getR_right b hb at' he
 obtain ⟨n, rfl⟩ : ∃ m : Nat, n = m := ⟨n.toNat, by omega⟩
 obtain ⟨r, hr⟩ : ∃ r, r = getR b at' := ⟨_, rfl⟩
 rw [← hr] at hg e ⊢
 clear he hr
 subst e
 simp only [Int.toNat_natCast]
 have hi' : ∀ p : Pa, PInv b p → ACall Tryz.prog 116 [.ref (pC b p), .int .i64 (7 - (f : Int) + 1)] (.tuple []) [.ref (pC b (pItem b f p))] := by
  intro p hp
  have := ih p hp.1 hp.2
  rwa [show 8 - (f : Int) = 7 - f + 1 by omega] at this
 refine ACall.of_does TTok Tryz.func116 rfl Tryz.call116 rfl (wpc_sound (M := MC) (PL := PLpi) (CU := cutAt [200000, 7]) TTok mixed _ _ _ ?_)
 conv => whnf
 refine Does.seqCut (α := Unit) (fun _ => mkSt [(0, .ptr 1 0), (1, .int .i64 (7 - (f : Int))), (4, .int .i64 M), (5,   .int .i64 (n : Int)), (6, .int .i64 (X : Int)), (7, .int .i64 0)]
  [(0, toksC l), (1, [.ro b.length (bys b), .int .i64 (at' : Int), .sl 0 0 l.length 3 false, .bool false])] 2 157) (fun _ => True) ?_ (fun _ _ => ?_)
 ·refine wpc_sound (M := MC) (PL := PLpi) (CU := noCut) TTok mixed _ _ _ ?_
  conv => whnf
  refine ⟨by kernel_rfl, ?_⟩
  conv => whnf
  refine ⟨?_, ?_⟩
  ·conv => whnf
   repeat ((first | refine ⟨pureL_bys _, ?_⟩ | refine ⟨rfl, ?_⟩ | refine ⟨_, rfl, ?_⟩); conv => whnf)
   refine ⟨_, _, hg, by first | rfl | simp [noRoIf, noRoL, noRoV, noRoL_bys], ?_⟩
   conv => whnf
   refine ⟨(), trivial, weaker_of [] rfl rfl ?_ ?_⟩
   ·exact ⟨⟨rfl, rfl⟩, ⟨rfl, rfl⟩, ⟨rfl, rfl⟩, ⟨rfl, rfl⟩, ⟨rfl, rfl⟩, ⟨rfl, rfl⟩, trivial⟩
   ·exact ⟨lesP_toks rfl, ⟨⟨rfl, rfl, pureL_bys _⟩, ⟨rfl, rfl⟩, ⟨rfl, rfl, rfl, rfl, id⟩, rfl, trivial⟩, trivial⟩
  ·conv => whnf
   repeat ((first | refine ⟨pureL_bys _, ?_⟩ | refine ⟨rfl, ?_⟩ | refine ⟨_, rfl, ?_⟩); conv => whnf)
   refine ⟨_, _, hg, by first | rfl | simp [noRoIf, noRoL, noRoV, noRoL_bys], ?_⟩
   conv => whnf
   refine ⟨(), trivial, weaker_of [] rfl rfl ?_ ?_⟩
   ·exact ⟨⟨rfl, rfl⟩, ⟨rfl, rfl⟩, ⟨rfl, rfl⟩, ⟨rfl, rfl⟩, ⟨rfl, rfl⟩, ⟨rfl, rfl⟩, trivial⟩
   ·exact ⟨lesP_toks rfl, ⟨⟨rfl, rfl, pureL_bys _⟩, ⟨rfl, rfl⟩, ⟨rfl, rfl, rfl, rfl, id⟩, rfl, trivial⟩, trivial⟩
 ·refine wpc_sound (M := MC) (PL := PLpi) (CU := cutAt [7]) TTok mixed _ _ _ ?_
  conv => whnf
  repeat ((first | refine ifB_f ?_ | (refine ifB_neg (decide_eq_false (by first | omega | rfl | (dsimp only; omega))) ?_) | refine ⟨_, rfl, ?_⟩ | (refine ⟨⟨rfl, rfl, ?_⟩, ?_⟩; (focus (first | exact Nat.le_of_ble_eq_true rfl | (simp; done))))); conv => whnf)
  refine Does.seqCut (α := Pa × Nat) (fun q => mkSt [(0, .ptr 1 0), (1, .int .i64 (7 - (f : Int))), (8, .int .i64 (q.2 : Int))]
   [(1, [.ro b.length (bys b), .int .i64 (q.1.at' : Int), .sl 2 0 q.1.l.length 3 false, .bool q.1.bad]), (2, toksC q.1.l)] 3 157) (fun q => PInv b q.1 ∧ q.2 ≤ 9223372036854775807 ∧ pMany (pItem b f) q.2 q.1 = pGo b (pItem b f) M (n : Int) X l) ?_ ?_
  ·refine wpc_sound (M := MC) (PL := PLpi) (CU := noCut) TTok mixed _ _ _ ?_
   conv => whnf
   refine ifB_dec (fun k0 => ?_) (fun k0 => ?_)
   ·conv => whnf
    repeat ((first | (refine Or.inl ⟨⟨rfl, ?_⟩, ?_⟩; (focus (first | rfl | (simp; done) | (rw [toksC_length]; omega)))) | refine ⟨rfl, ?_⟩ | refine ⟨_, rfl, ?_⟩ | refine ⟨⟨rfl, rfl⟩, ?_⟩); conv => whnf)
    refine ⟨⟨rfl, rfl, by rw [toksC_length]; omega, by simp [limB]; omega⟩, ?_⟩
    conv => whnf
    repeat ((first | refine ifB_t ?_ | refine ifB_f ?_); conv => whnf)
    conv => whnf
    repeat ((refine ⟨⟨rfl, rfl, ?_⟩, ?_⟩; (focus (first | exact Nat.le_of_ble_eq_true rfl | (simp; done)))); conv => whnf)
    refine ⟨(⟨X, l ++ [⟨1, (n : Int), []⟩], false⟩, 0), ⟨⟨⟨hX, by simp; omega⟩, by first | omega | (simp only; omega), ?_⟩, weaker_of [(2, 3)] rfl rfl ?_ ?_⟩⟩
    ·simp [pGo, pMany, k0]
    ·exact ⟨⟨rfl, rfl⟩, ⟨rfl, rfl⟩, leP_int rfl, trivial⟩
    ·exact ⟨⟨⟨rfl, rfl, pureL_bys _⟩, leP_int (by simp), ⟨rfl, rfl, by simp, rfl, nofun⟩, rfl, trivial⟩, lesP_toks_nil, trivial⟩
   conv => whnf
   repeat ((first | refine ifB_t ?_ | refine ifB_f ?_); conv => whnf)
   refine ifB_dec (fun k1 => ?_) (fun k1 => ?_)
   ·conv => whnf
    repeat ((first | (refine Or.inl ⟨⟨rfl, ?_⟩, ?_⟩; (focus (first | rfl | (simp; done) | (rw [toksC_length]; omega)))) | refine ⟨rfl, ?_⟩ | refine ⟨_, rfl, ?_⟩ | refine ⟨⟨rfl, rfl⟩, ?_⟩); conv => whnf)
    refine ⟨⟨rfl, rfl, by rw [toksC_length]; omega, by simp [limB]; omega⟩, ?_⟩
    conv => whnf
    repeat ((first | refine ifB_t ?_ | refine ifB_f ?_); conv => whnf)
    conv => whnf
    repeat ((refine ⟨⟨rfl, rfl, ?_⟩, ?_⟩; (focus (first | exact Nat.le_of_ble_eq_true rfl | (simp; done)))); conv => whnf)
    refine ⟨(⟨X, l ++ [⟨2, (n : Int), []⟩], false⟩, 0), ⟨⟨⟨hX, by simp; omega⟩, by first | omega | (simp only; omega), ?_⟩, weaker_of [(2, 3)] rfl rfl ?_ ?_⟩⟩
    ·simp [pGo, pMany, k0, k1]
    ·exact ⟨⟨rfl, rfl⟩, ⟨rfl, rfl⟩, leP_int rfl, trivial⟩
    ·exact ⟨⟨⟨rfl, rfl, pureL_bys _⟩, leP_int (by simp), ⟨rfl, rfl, by simp, rfl, nofun⟩, rfl, trivial⟩, lesP_toks_nil, trivial⟩
   conv => whnf
   repeat ((first | refine ifB_t ?_ | refine ifB_f ?_); conv => whnf)
   refine ifB_dec (fun k2 => ?_) (fun k2 => ?_)
   ·conv => whnf
    refine ⟨by kernel_rfl, ?_⟩
    by_cases hlt : b.length < X + n
    ·conv => whnf
     refine ⟨?_, ?_⟩
     ·conv => whnf
      repeat ((first | refine ⟨pureL_bys _, ?_⟩ | refine ⟨rfl, ?_⟩ | refine ⟨_, rfl, ?_⟩ | refine ⟨⟨rfl, rfl⟩, ?_⟩); conv => whnf)
      refine ⟨_, [.ro b.length (bys b), .int .i64 (X : Int), .top, .bool true], part_no b X n false hX (by omega) (by omega), ⟨by show (noHidL [AV.ro b.length (bys b), AV.int .i64 (X : Int), AV.top, AV.bool false] && noHidL [AV.int .i64 (n : Int)] && noHidL [AV.ro b.length (bys b), AV.int .i64 (X : Int), AV.top, AV.bool true] && noHidV (AV.ro 0 [])) = true; simp [noHidL, noHidV, noHidL_bys], rfl, rfl⟩, ?_⟩
      conv => whnf
      repeat ((first | (refine Or.inl ⟨⟨rfl, ?_⟩, ?_⟩; (focus (first | rfl | (simp; done) | (rw [toksC_length]; omega)))) | refine ⟨rfl, ?_⟩ | refine ⟨⟨rfl, rfl⟩, ?_⟩); conv => whnf)
      refine ⟨⟨rfl, rfl, by rw [toksC_length]; omega, by simp [limB]; omega⟩, ?_⟩
      conv => whnf
      repeat ((first | refine ifB_t ?_ | refine ifB_f ?_); conv => whnf)
      conv => whnf
      repeat ((refine ⟨⟨rfl, rfl, ?_⟩, ?_⟩; (focus (first | exact Nat.le_of_ble_eq_true rfl | (simp; done)))); conv => whnf)
      refine ⟨(⟨X, l ++ [⟨3, 0, []⟩], true⟩, 0), ⟨⟨⟨hX, by simp; omega⟩, by first | omega | (simp only; omega), ?_⟩, weaker_of [(2, 3)] rfl rfl ?_ ?_⟩⟩
      ·simp [pGo, pPart, pMany, k0, k1, k2]; omega
      ·exact ⟨⟨rfl, rfl⟩, ⟨rfl, rfl⟩, leP_int rfl, trivial⟩
      ·exact ⟨⟨⟨rfl, rfl, pureL_bys _⟩, leP_int (by simp), ⟨rfl, rfl, by simp, rfl, nofun⟩, rfl, trivial⟩, lesP_toks (by simp [toksC_append, toksC, bys]), trivial⟩
     ·conv => whnf
      repeat ((first | refine ⟨pureL_bys _, ?_⟩ | refine ⟨rfl, ?_⟩ | refine ⟨⟨rfl, rfl⟩, ?_⟩); conv => whnf)
      refine ⟨_, [.ro b.length (bys b), .int .i64 (X : Int), .top, .bool true], part_no b X n false hX (by omega) (by omega), ⟨by show (noHidL [AV.ro b.length (bys b), AV.int .i64 (X : Int), AV.top, AV.bool false] && noHidL [AV.int .i64 (n : Int)] && noHidL [AV.ro b.length (bys b), AV.int .i64 (X : Int), AV.top, AV.bool true] && noHidV (AV.ro 0 [])) = true; simp [noHidL, noHidV, noHidL_bys], rfl, rfl⟩, ?_⟩
      conv => whnf
      refine ⟨?_, ?_⟩
      ·conv => whnf
       repeat ((first | (refine Or.inl ⟨⟨rfl, ?_⟩, ?_⟩; (focus (first | rfl | (simp; done) | (rw [toksC_length]; omega)))) | refine ⟨rfl, ?_⟩ | refine ⟨_, rfl, ?_⟩ | refine ⟨⟨rfl, rfl⟩, ?_⟩); conv => whnf)
       refine ⟨⟨rfl, rfl, by rw [toksC_length]; omega, by simp [limB]; omega⟩, ?_⟩
       conv => whnf
       repeat ((first | refine ifB_t ?_ | refine ifB_f ?_); conv => whnf)
       conv => whnf
       repeat ((refine ⟨⟨rfl, rfl, ?_⟩, ?_⟩; (focus (first | exact Nat.le_of_ble_eq_true rfl | (simp; done)))); conv => whnf)
       refine ⟨(⟨X, l ++ [⟨3, 0, []⟩], true⟩, 0), ⟨⟨⟨hX, by simp; omega⟩, by first | omega | (simp only; omega), ?_⟩, weaker_of [(2, 3)] rfl rfl ?_ ?_⟩⟩
       ·simp [pGo, pPart, pMany, k0, k1, k2]; omega
       ·exact ⟨⟨rfl, rfl⟩, ⟨rfl, rfl⟩, leP_int rfl, trivial⟩
       ·exact ⟨⟨⟨rfl, rfl, pureL_bys _⟩, leP_int (by simp), ⟨rfl, rfl, by simp, rfl, nofun⟩, rfl, trivial⟩, lesP_toks (by simp [toksC_append, toksC, bys]), trivial⟩
      ·conv => whnf
       repeat ((first | (refine Or.inl ⟨⟨rfl, ?_⟩, ?_⟩; (focus (first | rfl | (simp; done) | (rw [toksC_length]; omega)))) | refine ⟨rfl, ?_⟩ | refine ⟨_, rfl, ?_⟩ | refine ⟨⟨rfl, rfl⟩, ?_⟩); conv => whnf)
       refine ⟨⟨rfl, rfl, by rw [toksC_length]; omega, by simp [limB]; omega⟩, ?_⟩
       conv => whnf
       repeat ((first | refine ifB_t ?_ | refine ifB_f ?_); conv => whnf)
       conv => whnf
       repeat ((refine ⟨⟨rfl, rfl, ?_⟩, ?_⟩; (focus (first | exact Nat.le_of_ble_eq_true rfl | (simp; done)))); conv => whnf)
       refine ⟨(⟨X, l ++ [⟨3, 0, []⟩], true⟩, 0), ⟨⟨⟨hX, by simp; omega⟩, by first | omega | (simp only; omega), ?_⟩, weaker_of [(2, 3)] rfl rfl ?_ ?_⟩⟩
       ·simp [pGo, pPart, pMany, k0, k1, k2]; omega
       ·exact ⟨⟨rfl, rfl⟩, ⟨rfl, rfl⟩, leP_int rfl, trivial⟩
       ·exact ⟨⟨⟨rfl, rfl, pureL_bys _⟩, leP_int (by simp), ⟨rfl, rfl, by simp, rfl, nofun⟩, rfl, trivial⟩, lesP_toks (by simp [toksC_append, toksC, bys]), trivial⟩
    ·conv => whnf
     refine ⟨?_, ?_⟩
     ·conv => whnf
      repeat ((first | refine ⟨pureL_bys _, ?_⟩ | refine ⟨rfl, ?_⟩ | refine ⟨_, rfl, ?_⟩ | refine ⟨⟨rfl, rfl⟩, ?_⟩); conv => whnf)
      refine ⟨_, [.ro b.length (bys b), .int .i64 ((X : Int) + n), .top, .bool false], part_yes b X n false (by omega) (by omega), ⟨by show (noHidL [AV.ro b.length (bys b), AV.int .i64 (X : Int), AV.top, AV.bool false] && noHidL [AV.int .i64 (n : Int)] && noHidL [AV.ro b.length (bys b), AV.int .i64 ((X : Int) + n), AV.top, AV.bool false] && noHidV (AV.ro n (bys ((b.drop X).take n)))) = true; simp [noHidL, noHidV, noHidL_bys], rfl, rfl⟩, ?_⟩
      conv => whnf
      repeat ((first | (refine Or.inl ⟨⟨rfl, ?_⟩, ?_⟩; (focus (first | rfl | (simp; done) | (rw [toksC_length]; omega)))) | refine ⟨rfl, ?_⟩ | refine ⟨⟨rfl, rfl⟩, ?_⟩); conv => whnf)
      refine ⟨⟨rfl, rfl, by rw [toksC_length]; omega, by simp [limB]; omega⟩, ?_⟩
      conv => whnf
      repeat ((first | refine ifB_t ?_ | refine ifB_f ?_); conv => whnf)
      conv => whnf
      repeat ((refine ⟨⟨rfl, rfl, ?_⟩, ?_⟩; (focus (first | exact Nat.le_of_ble_eq_true rfl | (simp; done)))); conv => whnf)
      refine ⟨(⟨X + n, l ++ [⟨3, 0, (b.drop X).take n⟩], false⟩, 0), ⟨⟨⟨by simp only; omega, by simp; omega⟩, by first | omega | (simp only; omega), ?_⟩, weaker_of [(2, 3)] rfl rfl ?_ ?_⟩⟩
      ·simp [pGo, pPart, pMany, k0, k1, k2]; omega
      ·exact ⟨⟨rfl, rfl⟩, ⟨rfl, rfl⟩, leP_int rfl, trivial⟩
      ·exact ⟨⟨⟨rfl, rfl, pureL_bys _⟩, leP_int (by simp), ⟨rfl, rfl, by simp, rfl, nofun⟩, rfl, trivial⟩, lesP_toks (by simp [toksC_append, toksC, bys]; omega), trivial⟩
     ·conv => whnf
      repeat ((first | refine ⟨pureL_bys _, ?_⟩ | refine ⟨rfl, ?_⟩ | refine ⟨⟨rfl, rfl⟩, ?_⟩); conv => whnf)
      refine ⟨_, [.ro b.length (bys b), .int .i64 ((X : Int) + n), .top, .bool false], part_yes b X n false (by omega) (by omega), ⟨by show (noHidL [AV.ro b.length (bys b), AV.int .i64 (X : Int), AV.top, AV.bool false] && noHidL [AV.int .i64 (n : Int)] && noHidL [AV.ro b.length (bys b), AV.int .i64 ((X : Int) + n), AV.top, AV.bool false] && noHidV (AV.ro n (bys ((b.drop X).take n)))) = true; simp [noHidL, noHidV, noHidL_bys], rfl, rfl⟩, ?_⟩
      conv => whnf
      refine ⟨?_, ?_⟩
      ·conv => whnf
       repeat ((first | (refine Or.inl ⟨⟨rfl, ?_⟩, ?_⟩; (focus (first | rfl | (simp; done) | (rw [toksC_length]; omega)))) | refine ⟨rfl, ?_⟩ | refine ⟨_, rfl, ?_⟩ | refine ⟨⟨rfl, rfl⟩, ?_⟩); conv => whnf)
       refine ⟨⟨rfl, rfl, by rw [toksC_length]; omega, by simp [limB]; omega⟩, ?_⟩
       conv => whnf
       repeat ((first | refine ifB_t ?_ | refine ifB_f ?_); conv => whnf)
       conv => whnf
       repeat ((refine ⟨⟨rfl, rfl, ?_⟩, ?_⟩; (focus (first | exact Nat.le_of_ble_eq_true rfl | (simp; done)))); conv => whnf)
       refine ⟨(⟨X + n, l ++ [⟨3, 0, (b.drop X).take n⟩], false⟩, 0), ⟨⟨⟨by simp only; omega, by simp; omega⟩, by first | omega | (simp only; omega), ?_⟩, weaker_of [(2, 3)] rfl rfl ?_ ?_⟩⟩
       ·simp [pGo, pPart, pMany, k0, k1, k2]; omega
       ·exact ⟨⟨rfl, rfl⟩, ⟨rfl, rfl⟩, leP_int rfl, trivial⟩
       ·exact ⟨⟨⟨rfl, rfl, pureL_bys _⟩, leP_int (by simp), ⟨rfl, rfl, by simp, rfl, nofun⟩, rfl, trivial⟩, lesP_toks (by simp [toksC_append, toksC, bys]; omega), trivial⟩
      ·conv => whnf
       repeat ((first | (refine Or.inl ⟨⟨rfl, ?_⟩, ?_⟩; (focus (first | rfl | (simp; done) | (rw [toksC_length]; omega)))) | refine ⟨rfl, ?_⟩ | refine ⟨_, rfl, ?_⟩ | refine ⟨⟨rfl, rfl⟩, ?_⟩); conv => whnf)
       refine ⟨⟨rfl, rfl, by rw [toksC_length]; omega, by simp [limB]; omega⟩, ?_⟩
       conv => whnf
       repeat ((first | refine ifB_t ?_ | refine ifB_f ?_); conv => whnf)
       conv => whnf
       repeat ((refine ⟨⟨rfl, rfl, ?_⟩, ?_⟩; (focus (first | exact Nat.le_of_ble_eq_true rfl | (simp; done)))); conv => whnf)
       refine ⟨(⟨X + n, l ++ [⟨3, 0, (b.drop X).take n⟩], false⟩, 0), ⟨⟨⟨by simp only; omega, by simp; omega⟩, by first | omega | (simp only; omega), ?_⟩, weaker_of [(2, 3)] rfl rfl ?_ ?_⟩⟩
       ·simp [pGo, pPart, pMany, k0, k1, k2]; omega
       ·exact ⟨⟨rfl, rfl⟩, ⟨rfl, rfl⟩, leP_int rfl, trivial⟩
       ·exact ⟨⟨⟨rfl, rfl, pureL_bys _⟩, leP_int (by simp), ⟨rfl, rfl, by simp, rfl, nofun⟩, rfl, trivial⟩, lesP_toks (by simp [toksC_append, toksC, bys]; omega), trivial⟩
   conv => whnf
   repeat ((first | refine ifB_t ?_ | refine ifB_f ?_); conv => whnf)
   refine ifB_dec (fun k3 => ?_) (fun k3 => ?_)
   ·conv => whnf
    refine ⟨by kernel_rfl, ?_⟩
    by_cases hlt : b.length < X + n
    ·conv => whnf
     refine ⟨?_, ?_⟩
     ·conv => whnf
      repeat ((first | refine ⟨pureL_bys _, ?_⟩ | refine ⟨rfl, ?_⟩ | refine ⟨_, rfl, ?_⟩ | refine ⟨⟨rfl, rfl⟩, ?_⟩); conv => whnf)
      refine ⟨_, [.ro b.length (bys b), .int .i64 (X : Int), .top, .bool true], part_no b X n false hX (by omega) (by omega), ⟨by show (noHidL [AV.ro b.length (bys b), AV.int .i64 (X : Int), AV.top, AV.bool false] && noHidL [AV.int .i64 (n : Int)] && noHidL [AV.ro b.length (bys b), AV.int .i64 (X : Int), AV.top, AV.bool true] && noHidV (AV.ro 0 [])) = true; simp [noHidL, noHidV, noHidL_bys], rfl, rfl⟩, ?_⟩
      conv => whnf
      repeat ((first | (refine Or.inl ⟨⟨rfl, ?_⟩, ?_⟩; (focus (first | rfl | (simp; done) | (rw [toksC_length]; omega)))) | refine ⟨rfl, ?_⟩ | refine ⟨⟨rfl, rfl⟩, ?_⟩); conv => whnf)
      refine ⟨⟨rfl, rfl, by rw [toksC_length]; omega, by simp [limB]; omega⟩, ?_⟩
      conv => whnf
      repeat ((first | refine ifB_t ?_ | refine ifB_f ?_); conv => whnf)
      conv => whnf
      repeat ((refine ⟨⟨rfl, rfl, ?_⟩, ?_⟩; (focus (first | exact Nat.le_of_ble_eq_true rfl | (simp; done)))); conv => whnf)
      refine ⟨(⟨X, l ++ [⟨4, 0, []⟩], true⟩, 0), ⟨⟨⟨hX, by simp; omega⟩, by first | omega | (simp only; omega), ?_⟩, weaker_of [(2, 3)] rfl rfl ?_ ?_⟩⟩
      ·simp [pGo, pPart, pMany, k0, k1, k2, k3]; omega
      ·exact ⟨⟨rfl, rfl⟩, ⟨rfl, rfl⟩, leP_int rfl, trivial⟩
      ·exact ⟨⟨⟨rfl, rfl, pureL_bys _⟩, leP_int (by simp), ⟨rfl, rfl, by simp, rfl, nofun⟩, rfl, trivial⟩, lesP_toks (by simp [toksC_append, toksC, bys]), trivial⟩
     ·conv => whnf
      repeat ((first | refine ⟨pureL_bys _, ?_⟩ | refine ⟨rfl, ?_⟩ | refine ⟨⟨rfl, rfl⟩, ?_⟩); conv => whnf)
      refine ⟨_, [.ro b.length (bys b), .int .i64 (X : Int), .top, .bool true], part_no b X n false hX (by omega) (by omega), ⟨by show (noHidL [AV.ro b.length (bys b), AV.int .i64 (X : Int), AV.top, AV.bool false] && noHidL [AV.int .i64 (n : Int)] && noHidL [AV.ro b.length (bys b), AV.int .i64 (X : Int), AV.top, AV.bool true] && noHidV (AV.ro 0 [])) = true; simp [noHidL, noHidV, noHidL_bys], rfl, rfl⟩, ?_⟩
      conv => whnf
      refine ⟨?_, ?_⟩
      ·conv => whnf
       repeat ((first | (refine Or.inl ⟨⟨rfl, ?_⟩, ?_⟩; (focus (first | rfl | (simp; done) | (rw [toksC_length]; omega)))) | refine ⟨rfl, ?_⟩ | refine ⟨_, rfl, ?_⟩ | refine ⟨⟨rfl, rfl⟩, ?_⟩); conv => whnf)
       refine ⟨⟨rfl, rfl, by rw [toksC_length]; omega, by simp [limB]; omega⟩, ?_⟩
       conv => whnf
       repeat ((first | refine ifB_t ?_ | refine ifB_f ?_); conv => whnf)
       conv => whnf
       repeat ((refine ⟨⟨rfl, rfl, ?_⟩, ?_⟩; (focus (first | exact Nat.le_of_ble_eq_true rfl | (simp; done)))); conv => whnf)
       refine ⟨(⟨X, l ++ [⟨4, 0, []⟩], true⟩, 0), ⟨⟨⟨hX, by simp; omega⟩, by first | omega | (simp only; omega), ?_⟩, weaker_of [(2, 3)] rfl rfl ?_ ?_⟩⟩
       ·simp [pGo, pPart, pMany, k0, k1, k2, k3]; omega
       ·exact ⟨⟨rfl, rfl⟩, ⟨rfl, rfl⟩, leP_int rfl, trivial⟩
       ·exact ⟨⟨⟨rfl, rfl, pureL_bys _⟩, leP_int (by simp), ⟨rfl, rfl, by simp, rfl, nofun⟩, rfl, trivial⟩, lesP_toks (by simp [toksC_append, toksC, bys]), trivial⟩
      ·conv => whnf
       repeat ((first | (refine Or.inl ⟨⟨rfl, ?_⟩, ?_⟩; (focus (first | rfl | (simp; done) | (rw [toksC_length]; omega)))) | refine ⟨rfl, ?_⟩ | refine ⟨_, rfl, ?_⟩ | refine ⟨⟨rfl, rfl⟩, ?_⟩); conv => whnf)
       refine ⟨⟨rfl, rfl, by rw [toksC_length]; omega, by simp [limB]; omega⟩, ?_⟩
       conv => whnf
       repeat ((first | refine ifB_t ?_ | refine ifB_f ?_); conv => whnf)
       conv => whnf
       repeat ((refine ⟨⟨rfl, rfl, ?_⟩, ?_⟩; (focus (first | exact Nat.le_of_ble_eq_true rfl | (simp; done)))); conv => whnf)
       refine ⟨(⟨X, l ++ [⟨4, 0, []⟩], true⟩, 0), ⟨⟨⟨hX, by simp; omega⟩, by first | omega | (simp only; omega), ?_⟩, weaker_of [(2, 3)] rfl rfl ?_ ?_⟩⟩
       ·simp [pGo, pPart, pMany, k0, k1, k2, k3]; omega
       ·exact ⟨⟨rfl, rfl⟩, ⟨rfl, rfl⟩, leP_int rfl, trivial⟩
       ·exact ⟨⟨⟨rfl, rfl, pureL_bys _⟩, leP_int (by simp), ⟨rfl, rfl, by simp, rfl, nofun⟩, rfl, trivial⟩, lesP_toks (by simp [toksC_append, toksC, bys]), trivial⟩
    ·conv => whnf
     refine ⟨?_, ?_⟩
     ·conv => whnf
      repeat ((first | refine ⟨pureL_bys _, ?_⟩ | refine ⟨rfl, ?_⟩ | refine ⟨_, rfl, ?_⟩ | refine ⟨⟨rfl, rfl⟩, ?_⟩); conv => whnf)
      refine ⟨_, [.ro b.length (bys b), .int .i64 ((X : Int) + n), .top, .bool false], part_yes b X n false (by omega) (by omega), ⟨by show (noHidL [AV.ro b.length (bys b), AV.int .i64 (X : Int), AV.top, AV.bool false] && noHidL [AV.int .i64 (n : Int)] && noHidL [AV.ro b.length (bys b), AV.int .i64 ((X : Int) + n), AV.top, AV.bool false] && noHidV (AV.ro n (bys ((b.drop X).take n)))) = true; simp [noHidL, noHidV, noHidL_bys], rfl, rfl⟩, ?_⟩
      conv => whnf
      repeat ((first | (refine Or.inl ⟨⟨rfl, ?_⟩, ?_⟩; (focus (first | rfl | (simp; done) | (rw [toksC_length]; omega)))) | refine ⟨rfl, ?_⟩ | refine ⟨⟨rfl, rfl⟩, ?_⟩); conv => whnf)
      refine ⟨⟨rfl, rfl, by rw [toksC_length]; omega, by simp [limB]; omega⟩, ?_⟩
      conv => whnf
      repeat ((first | refine ifB_t ?_ | refine ifB_f ?_); conv => whnf)
      conv => whnf
      repeat ((refine ⟨⟨rfl, rfl, ?_⟩, ?_⟩; (focus (first | exact Nat.le_of_ble_eq_true rfl | (simp; done)))); conv => whnf)
      refine ⟨(⟨X + n, l ++ [⟨4, 0, (b.drop X).take n⟩], false⟩, 0), ⟨⟨⟨by simp only; omega, by simp; omega⟩, by first | omega | (simp only; omega), ?_⟩, weaker_of [(2, 3)] rfl rfl ?_ ?_⟩⟩
      ·simp [pGo, pPart, pMany, k0, k1, k2, k3]; omega
      ·exact ⟨⟨rfl, rfl⟩, ⟨rfl, rfl⟩, leP_int rfl, trivial⟩
      ·exact ⟨⟨⟨rfl, rfl, pureL_bys _⟩, leP_int (by simp), ⟨rfl, rfl, by simp, rfl, nofun⟩, rfl, trivial⟩, lesP_toks (by simp [toksC_append, toksC, bys]; omega), trivial⟩
     ·conv => whnf
      repeat ((first | refine ⟨pureL_bys _, ?_⟩ | refine ⟨rfl, ?_⟩ | refine ⟨⟨rfl, rfl⟩, ?_⟩); conv => whnf)
      refine ⟨_, [.ro b.length (bys b), .int .i64 ((X : Int) + n), .top, .bool false], part_yes b X n false (by omega) (by omega), ⟨by show (noHidL [AV.ro b.length (bys b), AV.int .i64 (X : Int), AV.top, AV.bool false] && noHidL [AV.int .i64 (n : Int)] && noHidL [AV.ro b.length (bys b), AV.int .i64 ((X : Int) + n), AV.top, AV.bool false] && noHidV (AV.ro n (bys ((b.drop X).take n)))) = true; simp [noHidL, noHidV, noHidL_bys], rfl, rfl⟩, ?_⟩
      conv => whnf
      refine ⟨?_, ?_⟩
      ·conv => whnf
       repeat ((first | (refine Or.inl ⟨⟨rfl, ?_⟩, ?_⟩; (focus (first | rfl | (simp; done) | (rw [toksC_length]; omega)))) | refine ⟨rfl, ?_⟩ | refine ⟨_, rfl, ?_⟩ | refine ⟨⟨rfl, rfl⟩, ?_⟩); conv => whnf)
       refine ⟨⟨rfl, rfl, by rw [toksC_length]; omega, by simp [limB]; omega⟩, ?_⟩
       conv => whnf
       repeat ((first | refine ifB_t ?_ | refine ifB_f ?_); conv => whnf)
       conv => whnf
       repeat ((refine ⟨⟨rfl, rfl, ?_⟩, ?_⟩; (focus (first | exact Nat.le_of_ble_eq_true rfl | (simp; done)))); conv => whnf)
       refine ⟨(⟨X + n, l ++ [⟨4, 0, (b.drop X).take n⟩], false⟩, 0), ⟨⟨⟨by simp only; omega, by simp; omega⟩, by first | omega | (simp only; omega), ?_⟩, weaker_of [(2, 3)] rfl rfl ?_ ?_⟩⟩
       ·simp [pGo, pPart, pMany, k0, k1, k2, k3]; omega
       ·exact ⟨⟨rfl, rfl⟩, ⟨rfl, rfl⟩, leP_int rfl, trivial⟩
       ·exact ⟨⟨⟨rfl, rfl, pureL_bys _⟩, leP_int (by simp), ⟨rfl, rfl, by simp, rfl, nofun⟩, rfl, trivial⟩, lesP_toks (by simp [toksC_append, toksC, bys]; omega), trivial⟩
      ·conv => whnf
       repeat ((first | (refine Or.inl ⟨⟨rfl, ?_⟩, ?_⟩; (focus (first | rfl | (simp; done) | (rw [toksC_length]; omega)))) | refine ⟨rfl, ?_⟩ | refine ⟨_, rfl, ?_⟩ | refine ⟨⟨rfl, rfl⟩, ?_⟩); conv => whnf)
       refine ⟨⟨rfl, rfl, by rw [toksC_length]; omega, by simp [limB]; omega⟩, ?_⟩
       conv => whnf
       repeat ((first | refine ifB_t ?_ | refine ifB_f ?_); conv => whnf)
       conv => whnf
       repeat ((refine ⟨⟨rfl, rfl, ?_⟩, ?_⟩; (focus (first | exact Nat.le_of_ble_eq_true rfl | (simp; done)))); conv => whnf)
       refine ⟨(⟨X + n, l ++ [⟨4, 0, (b.drop X).take n⟩], false⟩, 0), ⟨⟨⟨by simp only; omega, by simp; omega⟩, by first | omega | (simp only; omega), ?_⟩, weaker_of [(2, 3)] rfl rfl ?_ ?_⟩⟩
       ·simp [pGo, pPart, pMany, k0, k1, k2, k3]; omega
       ·exact ⟨⟨rfl, rfl⟩, ⟨rfl, rfl⟩, leP_int rfl, trivial⟩
       ·exact ⟨⟨⟨rfl, rfl, pureL_bys _⟩, leP_int (by simp), ⟨rfl, rfl, by simp, rfl, nofun⟩, rfl, trivial⟩, lesP_toks (by simp [toksC_append, toksC, bys]; omega), trivial⟩
   conv => whnf
   repeat ((first | refine ifB_t ?_ | refine ifB_f ?_); conv => whnf)
   refine ifB_dec (fun k4 => ?_) (fun k4 => ?_)
   ·conv => whnf
    repeat ((first | (refine Or.inl ⟨⟨rfl, ?_⟩, ?_⟩; (focus (first | rfl | (simp; done) | (rw [toksC_length]; omega)))) | refine ⟨rfl, ?_⟩ | refine ⟨_, rfl, ?_⟩ | refine ⟨⟨rfl, rfl⟩, ?_⟩); conv => whnf)
    refine ⟨⟨rfl, rfl, by rw [toksC_length]; omega, by simp [limB]; omega⟩, ?_⟩
    conv => whnf
    repeat ((first | refine ifB_t ?_ | refine ifB_f ?_); conv => whnf)
    conv => whnf
    repeat ((refine ⟨⟨rfl, rfl, ?_⟩, ?_⟩; (focus (first | exact Nat.le_of_ble_eq_true rfl | (simp; done)))); conv => whnf)
    refine ⟨(⟨X, l ++ [⟨5, (n : Int), []⟩], false⟩, n), ⟨⟨⟨hX, by simp; omega⟩, by first | omega | (simp only; omega), ?_⟩, weaker_of [(2, 3)] rfl rfl ?_ ?_⟩⟩
    ·simp [pGo, k0, k1, k2, k3, k4]
    ·exact ⟨⟨rfl, rfl⟩, ⟨rfl, rfl⟩, leP_int rfl, trivial⟩
    ·exact ⟨⟨⟨rfl, rfl, pureL_bys _⟩, leP_int (by simp), ⟨rfl, rfl, by simp, rfl, nofun⟩, rfl, trivial⟩, lesP_toks_nil, trivial⟩
   conv => whnf
   repeat ((first | refine ifB_t ?_ | refine ifB_f ?_); conv => whnf)
   refine ifB_dec (fun k5 => ?_) (fun k5 => ?_)
   ·conv => whnf
    repeat ((first | (refine Or.inl ⟨⟨rfl, ?_⟩, ?_⟩; (focus (first | rfl | (simp; done) | (rw [toksC_length]; omega)))) | refine ⟨rfl, ?_⟩ | refine ⟨_, rfl, ?_⟩ | refine ⟨⟨rfl, rfl⟩, ?_⟩); conv => whnf)
    refine ⟨⟨rfl, rfl, by rw [toksC_length]; omega, by simp [limB]; omega⟩, ?_⟩
    conv => whnf
    repeat ((first | refine ifB_t ?_ | refine ifB_f ?_); conv => whnf)
    conv => whnf
    repeat ((first | (refine fit_i64 ⟨by first | omega | rfl | (dsimp only; omega), by first | omega | rfl | (dsimp only; omega)⟩ ?_) | (refine ⟨⟨rfl, rfl, ?_⟩, ?_⟩; (focus (first | exact Nat.le_of_ble_eq_true rfl | (simp; done))))); conv => whnf)
    refine ⟨(⟨X, l ++ [⟨6, (n : Int), []⟩], false⟩, (2 * min (n : Int) 65).toNat), ⟨⟨⟨hX, by simp; omega⟩, by first | omega | (simp only; omega), ?_⟩, weaker_of [(2, 3)] rfl rfl ?_ ?_⟩⟩
    ·simp [pGo, k0, k1, k2, k3, k4, k5]
    ·exact ⟨⟨rfl, rfl⟩, ⟨rfl, rfl⟩, leP_int (by simp; omega), trivial⟩
    ·exact ⟨⟨⟨rfl, rfl, pureL_bys _⟩, leP_int (by simp), ⟨rfl, rfl, by simp, rfl, nofun⟩, rfl, trivial⟩, lesP_toks_nil, trivial⟩
   conv => whnf
   repeat ((first | refine ifB_t ?_ | refine ifB_f ?_); conv => whnf)
   conv => whnf
   repeat ((refine ⟨⟨rfl, rfl, ?_⟩, ?_⟩; (focus (first | exact Nat.le_of_ble_eq_true rfl | (simp; done)))); conv => whnf)
   refine ⟨(⟨X, l, true⟩, 0), ⟨⟨⟨hX, by simp; omega⟩, by first | omega | (simp only; omega), ?_⟩, weaker_of [(2, 0)] rfl rfl ?_ ?_⟩⟩
   ·simp [pGo, pMany, k0, k1, k2, k3, k4, k5]
   ·exact ⟨⟨rfl, rfl⟩, ⟨rfl, rfl⟩, leP_int rfl, trivial⟩
   ·exact ⟨⟨⟨rfl, rfl, pureL_bys _⟩, leP_int (by simp), ⟨rfl, rfl, by simp, rfl, nofun⟩, rfl, trivial⟩, lesP_toks rfl, trivial⟩
  ·rintro ⟨p, N⟩ ⟨hp, hN, hfin⟩
   simp only at hp hN hfin
   refine wpc_sound (M := MC) (PL := PLpi) (CU := noCut) TTok mixed _ _ _ ?_
   conv => whnf
   refine Does.loop (fun q : Nat × Pa => mkSt [(0, .ptr 1 0), (1, .int .i64 (7 - (f : Int))), (8, .int .i64 (N : Int)), (9, .int .i64 (q.1 : Int))]
    [(1, [.ro b.length (bys b), .int .i64 (q.2.at' : Int), .sl 2 0 q.2.l.length 3 false, .bool q.2.bad]), (2, toksC q.2.l)] 3 157)
    (fun q => q.1 ≤ N ∧ PInv b q.2 ∧ pMany (pItem b f) (N - q.1) q.2 = pGo b (pItem b f) M (n : Int) X l) (fun q => N - q.1) ?_ (0, p) ⟨Nat.zero_le _, hp, hfin⟩ ?_
   ·rintro ⟨c, p⟩ ⟨p1, p2, p3⟩
    simp only at p1 p2 p3
    obtain ⟨a, o, bd⟩ := p
    refine wpc_sound (M := MC) (PL := PLpi) (CU := noCut) TTok mixed _ _ _ ?_
    conv => whnf
    refine ifB_dec (fun k1 => ?_) (fun k1 => ?_)
    ·simp only at k1
     cases bd
     ·conv => whnf
      repeat ((first | refine ifB_t ?_ | (refine fit_i64 ⟨by first | omega | rfl | (dsimp only; omega), by first | omega | rfl | (dsimp only; omega)⟩ ?_) | refine ⟨pureL_bys _, ?_⟩ | refine ⟨rfl, ?_⟩ | refine ⟨_, rfl, ?_⟩ | (refine ⟨⟨rfl, rfl, ?_, pureL_toks _⟩, ?_⟩; (focus (rw [toksC_length]; omega)))); conv => whnf)
      refine ⟨_, _, hi' ⟨a, o, false⟩ p2, by first | rfl | simp [noRoIf, noRoL, noRoV, noRoL_bys], ?_⟩
      conv => whnf
      repeat ((refine fit_i64 ⟨by first | omega | rfl | (dsimp only; omega), by first | omega | rfl | (dsimp only; omega)⟩ ?_); conv => whnf)
      refine ⟨(c + 1, pItem b f ⟨a, o, false⟩), ⟨by simp only; omega, pItem_inv b hb f _ p2, ?_⟩, by simp only; omega, weaker_of [(2, 3)] rfl rfl ?_ ?_⟩
      ·rw [← p3]
       obtain ⟨m, hm⟩ : ∃ m, N - c = m + 1 := ⟨N - c - 1, by omega⟩
       simp only
       rw [hm, show N - (c + 1) = m by omega]
       simp [pMany]
      ·exact ⟨⟨rfl, rfl⟩, ⟨rfl, rfl⟩, ⟨rfl, rfl⟩, ⟨rfl, rfl⟩, trivial⟩
      ·exact ⟨⟨⟨rfl, rfl, pureL_bys _⟩, ⟨rfl, rfl⟩, ⟨rfl, rfl, rfl, rfl, id⟩, rfl, trivial⟩, lesP_toks rfl, trivial⟩
     ·have hfin : pGo b (pItem b f) M (n : Int) X l = ⟨a, o, true⟩ := by
       rw [← p3]
       obtain ⟨m, hm⟩ : ∃ m, N - c = m + 1 := ⟨N - c - 1, by omega⟩
       rw [hm]
       simp [pMany]
      rw [hfin]
      conv => whnf
      repeat ((first | refine ifB_t ?_ | refine ifB_f ?_ | refine ⟨rfl, ?_⟩ | refine ⟨_, rfl, ?_⟩ | refine ⟨⟨rfl, rfl⟩, ?_⟩ | (refine ⟨⟨rfl, rfl, rfl, ?_, pureL_toks _⟩, ?_⟩; (focus (rw [toksC_length]; omega))) | (refine ⟨⟨rfl, rfl, ?_⟩, ?_⟩; (focus (first | assumption | exact pureL_bys _ | exact pureL_toks _)))); conv => whnf)
      rfl
    ·simp only at k1
     have hfin : pGo b (pItem b f) M (n : Int) X l = ⟨a, o, bd⟩ := by
      rw [← p3, show N - c = 0 by omega]
      rfl
     rw [hfin]
     conv => whnf
     repeat ((first | refine ifB_f ?_ | refine ⟨rfl, ?_⟩ | refine ⟨⟨rfl, rfl⟩, ?_⟩ | (refine ⟨⟨rfl, rfl, rfl, ?_, pureL_toks _⟩, ?_⟩; (focus (rw [toksC_length]; omega))) | (refine ⟨⟨rfl, rfl, ?_⟩, ?_⟩; (focus (first | assumption | exact pureL_bys _ | exact pureL_toks _)))); conv => whnf)
     rfl
   ·refine weaker_of [(2, 2)] rfl rfl ?_ ?_
    ·exact ⟨⟨rfl, rfl⟩, ⟨rfl, rfl⟩, ⟨rfl, rfl⟩, ⟨rfl, rfl⟩, trivial⟩
    ·exact ⟨⟨⟨rfl, rfl, pureL_bys _⟩, ⟨rfl, rfl⟩, ⟨rfl, rfl, rfl, rfl, id⟩, rfl, trivial⟩, lesP_toks rfl, trivial⟩
end
section

attribute [local irreducible] ifB fitP Does Weaker
theorem pItem_ok (b : List Int) (hb : Byt b) (hbl : b.length ≤ 32768) : ∀ f : Nat, f ≤ 7 → PItemOk b f
 | 0, _ => by
  intro p hat hl
  exact pItem_bad b hb hbl p hat hl _ (.inr (by simp))
 | f + 1, hf => by
  intro p hat hl
  unfold pItem
  by_cases h : pBad b p
  ·rw [if_pos h]
   exact pItem_bad b hb hbl p hat hl _ (.inl h)
  ·rw [if_neg h]
   have e : 8 - ((f + 1 : Nat) : Int) = 7 - f := by omega
   rw [e]
   obtain ⟨at', l, bad⟩ := p
   simp only [pBad, not_or, Bool.not_eq_true] at h
   obtain ⟨h1, h2, h3⟩ := h
   subst h1
   exact pItem_go b hb hbl f (by omega) (pItem_ok b hb hbl f (by omega)) at' l hat (by simpa using h3) (by simpa using h2)
theorem encR_byt (l : List Tok) (hl : ToksOk l) : Byt (encR validR l).1 := by
 unfold encR
 split
 ·simp [Byt]
 split
 ·simp [Byt]
 ·exact wItem_byt _ _ hl _ _ (by simp [Byt])
def POk (b : List Int) (p : Pa) : Prop := ToksOk p.l ∧ ∀ t ∈ p.l, t.b.length ≤ b.length
theorem pok_snoc {b : List Int} {l : List Tok} {x : Nat} {bd : Bool} {t : Tok} (h : ToksOk l ∧ ∀ t ∈ l, t.b.length ≤ b.length) (ht : TokOk t) (hb : t.b.length ≤ b.length) : POk b ⟨x, l ++ [t], bd⟩ := by
 constructor
 ·intro s hs
  rcases List.mem_append.1 hs with hs | hs
  ·exact h.1 s hs
  ·simp at hs; subst hs; exact ht
 ·intro s hs
  rcases List.mem_append.1 hs with hs | hs
  ·exact h.2 s hs
  ·simp at hs; subst hs; exact hb
theorem pMany_ok (b : List Int) (g : Pa → Pa) (hg : ∀ p, POk b p → POk b (g p)) : ∀ (n : Nat) (p : Pa), POk b p → POk b (pMany g n p)
 | 0, p, h => h
 | n + 1, p, h => by
  unfold pMany
  split
  ·exact h
  ·exact pMany_ok b g hg n _ (hg p h)
theorem byt_sub {b : List Int} (hb : Byt b) (x n : Nat) : Byt ((b.drop x).take n) := fun y hy => hb y (List.mem_of_mem_drop (List.mem_of_mem_take hy))
theorem pPart_ok (b : List Int) (hb : Byt b) (k n : Int) (hk : 0 ≤ k ∧ k < 10) (next : Nat) (l : List Tok) (h : ToksOk l ∧ ∀ t ∈ l, t.b.length ≤ b.length) : POk b (pPart b k n next l) := by
 unfold pPart
 split
 ·exact pok_snoc h ⟨by simp only; omega, by simp only; omega, by simp [Byt]⟩ (by simp)
 ·exact pok_snoc h ⟨by simp only; omega, by simp only; omega, byt_sub hb _ _⟩ (by simp; omega)
theorem pGo_ok (b : List Int) (hb : Byt b) (g : Pa → Pa) (hg : ∀ p, POk b p → POk b (g p)) (m n : Int) (hn : 0 ≤ n ∧ n ≤ 9223372036854775807) (next : Nat) (l : List Tok) (h : ToksOk l ∧ ∀ t ∈ l, t.b.length ≤ b.length) : POk b (pGo b g m n next l) := by
 have key : ∀ k : Int, 0 ≤ k → k < 10 → POk b ⟨next, l ++ [⟨k, n, []⟩], false⟩ := fun k h1 h2 => pok_snoc h ⟨by simp only; omega, by simp only; omega, by simp [Byt]⟩ (by simp)
 unfold pGo
 split
 ·exact key 1 (by omega) (by omega)
 split
 ·exact key 2 (by omega) (by omega)
 split
 ·exact pPart_ok b hb _ n (by omega) next l h
 split
 ·exact pPart_ok b hb _ n (by omega) next l h
 split
 ·exact pMany_ok b g hg _ _ (key 5 (by omega) (by omega))
 split
 ·exact pMany_ok b g hg _ _ (key 6 (by omega) (by omega))
 ·exact h
theorem pItem_toks (b : List Int) (hb : Byt b) : ∀ (f : Nat) (p : Pa), POk b p → POk b (pItem b f p)
 | 0, p, h => h
 | f + 1, p, h => by
  unfold pItem
  split
  ·exact h
  ·rename_i hh
   simp only [pBad, not_or] at hh
   obtain ⟨M, n, X, e, _, hn, hX, _⟩ := getR_right b hb p.at' (by omega)
   rw [e]
   exact pGo_ok b hb _ (fun p hp => pItem_toks b hb f p hp) _ _ hn _ _ h
def decR (u : List Int → Bool) (b : List Int) : List Tok × Int :=
 if 32768 < b.length then ([], 3)
 else if (pItem b 7 ⟨0, [], false⟩).bad || decide ((pItem b 7 ⟨0, [], false⟩).at' ≠ b.length) then ([], 3)
 else if (encR u (pItem b 7 ⟨0, [], false⟩).l).2 ≠ 0 ∨ (encR u (pItem b 7 ⟨0, [], false⟩).l).1 ≠ b then ([], 3)
 else ((pItem b 7 ⟨0, [], false⟩).l, 0)
theorem bequal_ok (x y : List Int) (hx : Byt x) (hy : Byt y) : ACall Tryz.prog 117 [.ro x.length (bys x), .ro y.length (bys y)] (.bool (decide (x = y))) [] := by
 refine ACall.of_does TTok Tryz.func117 rfl Tryz.call117 rfl (wpc_sound (M := MC) (PL := PL0) (CU := noCut) TTok mixed _ _ _ ?_)
 conv => whnf
 refine ⟨by simp, ?_⟩
 conv => whnf
 repeat ((first | refine ifB_t ?_ | refine ifB_f ?_); conv => whnf)
 refine ⟨x, ⟨rfl, hx⟩, ?_⟩
 conv => whnf
 repeat ((first | refine ifB_t ?_ | refine ifB_f ?_); conv => whnf)
 conv => whnf
 refine ⟨by simp, ?_⟩
 conv => whnf
 repeat ((first | refine ifB_t ?_ | refine ifB_f ?_); conv => whnf)
 refine ⟨y, ⟨rfl, hy⟩, ?_⟩
 conv => whnf
 repeat ((refine ⟨rfl, ?_⟩); conv => whnf)
 rfl
theorem decode_ok (b : List Int) (hb : Byt b) (hbl : b.length ≤ 1099511627776) : ACall Tryz.prog 92 [.ro b.length (bys b)]
  (.tuple [.own (decR validR b).1.length 3 (toksC (decR validR b).1), .int .i64 (decR validR b).2]) [] := by
 refine ACall.of_does TTok Tryz.func92 rfl Tryz.call92 rfl (wpc_sound (M := MC) (PL := PL0) (CU := noCut) TTok mixed _ _ _ ?_)
 unfold decR
 conv => whnf
 refine ifB_dec (fun k1 => ?_) (fun k1 => ?_)
 ·rw [if_pos (by omega)]
  conv => whnf
  repeat ((refine ⟨⟨rfl, rfl⟩, ?_⟩); conv => whnf)
  rfl
 rw [if_neg (by omega)]
 have hi := pItem_ok b hb (by omega) 7 (by omega) ⟨0, [], false⟩ (by simp) (by simp)
 have hinv := pItem_inv b hb 7 ⟨0, [], false⟩ ⟨by simp, by simp⟩
 have htk := pItem_toks b hb 7 ⟨0, [], false⟩ ⟨by simp [ToksOk], by simp⟩
 obtain ⟨p, hp⟩ : ∃ p, p = pItem b 7 ⟨0, [], false⟩ := ⟨_, rfl⟩
 rw [← hp] at hi hinv htk ⊢
 rw [show (8 : Int) - ((7 : Nat) : Int) = 1 from rfl] at hi
 obtain ⟨pa, pl, pb⟩ := p
 have hen := encode_ok pl htk.1 (fun t ht => by have := htk.2 t ht; omega)
 have heb := encR_byt pl htk.1
 have heq := bequal_ok (encR validR pl).1 b heb hb
 conv => whnf
 repeat ((first | refine ⟨pureL_bys _, ?_⟩ | refine ⟨rfl, ?_⟩); conv => whnf)
 refine ⟨_, _, hi, by first | rfl | simp [noRoIf, noRoL, noRoV, noRoL_bys], ?_⟩
 conv => whnf
 repeat ((refine ⟨_, rfl, ?_⟩); conv => whnf)
 cases pb
 ·conv => whnf
  repeat ((first | refine ifB_f ?_ | refine ⟨_, rfl, ?_⟩); conv => whnf)
  refine ifB_dec (fun k2 => ?_) (fun k2 => ?_)
  ·simp only at k2
   rw [if_pos (by simp; omega)]
   conv => whnf
   repeat ((refine ⟨⟨rfl, rfl⟩, ?_⟩); conv => whnf)
   rfl
  simp only at k2
  rw [if_neg (by simp; omega)]
  conv => whnf
  repeat ((first | (refine Or.inl ⟨⟨rfl, ?_⟩, ?_⟩; (focus (first | rfl | (simp; done) | (rw [toksC_length]; omega)))) | refine ⟨rfl, ?_⟩ | refine ⟨_, rfl, ?_⟩ | (refine And.intro ?_ ?_; (focus (first | (simp only [pureL, pureV, pureL_bys, Bool.and_true, Bool.and_self]; done) | (simp only [pureL, pureV, pureL_bys, pureL_toks, Bool.and_true, Bool.and_self]; done))))); conv => whnf)
  refine ⟨_, _, hen, by first | rfl | simp [noRoIf, noRoL, noRoV, noRoL_bys], ?_⟩
  conv => whnf
  refine ifB_dec (fun k3 => ?_) (fun k3 => ?_)
  ·simp only
   rw [if_pos (Or.inl k3)]
   conv => whnf
   repeat ((first | refine ifB_t ?_ | refine ⟨⟨rfl, rfl⟩, ?_⟩); conv => whnf)
   rfl
  conv => whnf
  repeat ((first | refine ifB_f ?_ | refine ⟨pureL_bys _, ?_⟩ | (refine Or.inl ⟨⟨rfl, ?_⟩, ?_⟩; (focus (first | rfl | (simp; done) | (rw [toksC_length]; omega)))) | refine ⟨rfl, ?_⟩); conv => whnf)
  refine ⟨_, _, heq, by first | rfl | simp [noRoIf, noRoL, noRoV, noRoL_bys], ?_⟩
  conv => whnf
  repeat ((refine ifB_f ?_); conv => whnf)
  by_cases k4 : (encR validR pl).1 = b
  ·simp only
   rw [if_neg (by simp [k4]; simpa using k3)]
   rw [decide_eq_true k4]
   conv => whnf
   repeat ((first | refine ifB_f ?_ | refine ⟨_, rfl, ?_⟩ | refine ⟨⟨rfl, rfl⟩, ?_⟩ | (refine ⟨⟨rfl, rfl, rfl, ?_, pureL_toks _⟩, ?_⟩; (focus (rw [toksC_length]; omega)))); conv => whnf)
   rfl
  ·simp only
   rw [if_pos (Or.inr k4)]
   rw [decide_eq_false k4]
   conv => whnf
   repeat ((first | refine ifB_t ?_ | refine ⟨⟨rfl, rfl⟩, ?_⟩); conv => whnf)
   rfl
 ·rw [if_pos (by simp)]
  conv => whnf
  repeat ((first | refine ifB_t ?_ | refine ⟨⟨rfl, rfl⟩, ?_⟩); conv => whnf)
  rfl
end
section

attribute [local irreducible] ifB fitP Does Weaker
end
section

attribute [local irreducible] ifB fitP Does Weaker
end
section

theorem putL_short (M : Int) {n : Int} (h : 0 ≤ n) : (putL M n).length ≤ 9 := by
 rw [putL_length]; have := (sizeR_le n h).1; omega
end
section

def phi (l : List Tok) (w : W) : Pa := ⟨w.out.length, l.take w.at', w.bad⟩
theorem wHead_ok {M n : Int} {w : W} (h : (wHead M n w).bad = false) (hM : 0 ≤ M ∧ M < 8) : 0 ≤ n ∧ wHead M n w = ⟨w.at', w.out ++ putL M n, false⟩ ∧ w.bad = false := by
 unfold wHead putS at h ⊢
 simp only [Bool.or_eq_false_iff, decide_eq_false_iff_not] at h
 obtain ⟨h1, h2⟩ := h
 split at h2
 ·exact absurd (by decide) h2
 ·rename_i h3
  refine ⟨by omega, ?_, h1⟩
  rw [if_neg h3]
  simp [h1]
theorem pItem_at {s : List Int} {w : W} {M n : Int} {L : List Tok} (f : Nat) (hM : 0 ≤ M) (hn : 0 ≤ n) (hn2 : n < 9223372036854775808) (hp : w.out ++ putL M n <+: s) (hL : L.length < 600) :
  pItem s (f + 1) ⟨w.out.length, L, false⟩ = pGo s (pItem s f) M n (w.out ++ putL M n).length L := by
 obtain ⟨q, rfl⟩ := hp
 have hg := getR_put w.out q M n hM hn hn2
 have hb : ¬ pBad (w.out ++ putL M n ++ q) ⟨w.out.length, L, false⟩ := by
  rintro (h | h | h)
  ·cases h
  ·exact h (congrArg (fun r => r.2.2.2) hg)
  ·simp at h; omega
 show (if pBad _ _ then _ else pGo (w.out ++ putL M n ++ q) (pItem _ f) (getR (w.out ++ putL M n ++ q) w.out.length).1 (getR (w.out ++ putL M n ++ q) w.out.length).2.1 (getR (w.out ++ putL M n ++ q) w.out.length).2.2.1.toNat L) = _
 rw [if_neg hb, hg]
 simp only [Int.toNat_natCast]
theorem take_tok {l : List Tok} {i : Nat} (h : i < l.length) : l.take (i + 1) = l.take i ++ [l[i]] := by
 rw [List.take_succ_eq_append_getElem h]
def Goes (l : List Tok) (s : List Int) (g : W → W) (h : Pa → Pa) : Prop := ∀ w, (g w).bad = false → (g w).out <+: s → h (phi l w) = phi l (g w)
theorem pMany_arr {l : List Tok} {s : List Int} {g : W → W} {h : Pa → Pa} (hg : Mono g) (H : Goes l s g h) : ∀ (n : Nat) (w : W), (wArr g n w).bad = false → (wArr g n w).out <+: s → pMany h n (phi l w) = phi l (wArr g n w)
 | 0, w, h1, h2 => rfl
 | n + 1, w, h1, h2 => by
  have hb := (wArr_mono g hg (n + 1) w h1).1
  have e : wArr g (n + 1) w = wArr g n (g w) := by rw [wArr, if_neg (by simp [hb])]
  rw [e] at h1 h2 ⊢
  obtain ⟨k1, k2⟩ := wArr_mono g hg n _ h1
  have e2 : pMany h (n + 1) (phi l w) = pMany h n (h (phi l w)) := by rw [pMany, if_neg (by simp [phi, hb])]
  rw [e2, H w k1 (k2.trans h2)]
  exact pMany_arr hg H n _ h1 h2
theorem pMany_map {l : List Tok} {s : List Int} {g : W → W} {h : Pa → Pa} (hg : Mono g) (H : Goes l s g h) : ∀ (n i a b : Nat) (w : W), (wMap g n i a b w).bad = false → (wMap g n i a b w).out <+: s → pMany h (2 * n) (phi l w) = phi l (wMap g n i a b w)
 | 0, _, _, _, w, h1, h2 => rfl
 | n + 1, i, a, b, w, h1, h2 => by
  have hb := (wMap_mono g hg (n + 1) i a b w h1).1
  have e : ∃ x y, wMap g (n + 1) i a b w = wMap g n (i + 1) x y (g (g w)) := by
   rw [wMap] at h1 ⊢
   rw [if_neg (by simp [hb])] at h1 ⊢
   split at h1
   ·simp at h1
   ·rename_i hc
    rw [if_neg hc]
    exact ⟨_, _, rfl⟩
  obtain ⟨x, y, e⟩ := e
  rw [e] at h1 h2 ⊢
  obtain ⟨k1, k2⟩ := wMap_mono g hg n _ _ _ _ h1
  obtain ⟨k3, k4⟩ := hg _ k1
  have e2 : pMany h (2 * (n + 1)) (phi l w) = pMany h (2 * n) (h (h (phi l w))) := by
   rw [show 2 * (n + 1) = 2 * n + 1 + 1 by omega, pMany, if_neg (by simp [phi, hb]), H w k3 (k4.trans (k2.trans h2)), pMany, if_neg (by simp [phi, k3])]
  rw [e2, H w k3 (k4.trans (k2.trans h2)), H (g w) k1 (k2.trans h2)]
  exact pMany_map hg H n _ _ _ _ h1 h2
theorem wBytes_ok {u : List Int → Bool} {t : Tok} {w : W} (h : (wBytes u t w).bad = false) : t.n = 0 ∧ (t.b.length : Int) ≤ 32768 ∧ (t.k = 4 → u t.b = true) ∧
  wBytes u t w = ⟨w.at', w.out ++ putL (if t.k = 4 then 3 else 2) t.b.length ++ t.b, false⟩ := by
 unfold wBytes at h ⊢
 split at h
 ·simp at h
 ·rename_i hh
  rw [if_neg hh]
  simp only [Bool.or_eq_true, not_or, decide_eq_true_eq, Bool.and_eq_true, not_and, Bool.not_eq_true'] at hh
  obtain ⟨⟨⟨h1, h2⟩, h3⟩, h4⟩ := hh
  obtain ⟨k1, k2, k3⟩ := wHead_ok h (by split <;> omega)
  rw [k2]
  refine ⟨by omega, by omega, fun e => ?_, by simp⟩
  have := h2 e
  simpa using this
theorem pItem_of_wItem (u : List Int → Bool) (l : List Tok) (hl : ToksOk l) (hn : l.length ≤ 600) (s : List Int) (f : Nat) : Goes l s (wItem u l f) (pItem s (f + 1)) := by
  intro w h hs
  have hw := (wItem_mono u l f w h).1
  obtain ⟨at', out, bad⟩ := w
  simp only at hw
  subst hw
  unfold wItem at h hs ⊢
  split at h
  ·simp at h
  rename_i hh
  rw [dif_neg hh] at hs ⊢
  simp only at hh h hs ⊢
  have hat : at' < l.length := by omega
  have hL : (l.take at').length < 600 := by rw [List.length_take]; omega
  obtain ⟨t, ht⟩ : ∃ t, t = l[at'] := ⟨_, rfl⟩
  have htk := hl _ (List.getElem_mem hat)
  have htt := take_tok hat
  rw [← ht] at h hs htk htt ⊢
  have num : ∀ (M : Int) (hM : 0 ≤ M ∧ M < 8), (wNumber M t ⟨at' + 1, out, false⟩).bad = false → (wNumber M t ⟨at' + 1, out, false⟩).out <+: s → t.b = [] ∧
    wNumber M t ⟨at' + 1, out, false⟩ = ⟨at' + 1, out ++ putL M t.n, false⟩ ∧ pItem s (f + 1) (phi l ⟨at', out, false⟩) = pGo s (pItem s f) M t.n (out ++ putL M t.n).length (l.take at') := by
   intro M hM h1 h2
   unfold wNumber at h1 h2 ⊢
   obtain ⟨k1, k2, k3⟩ := wHead_ok h1 hM
   rw [k2] at h2 ⊢
   simp only [Bool.false_or, decide_eq_false_iff_not] at k3
   refine ⟨List.length_eq_zero_iff.1 (by omega), rfl, ?_⟩
   exact pItem_at (w := ⟨at', out, false⟩) f hM.1 k1 htk.2.1.2 h2 hL
  have tok : ∀ k : Int, t.k = k → t.b = [] → t = ⟨k, t.n, []⟩ := by
   intro k h1 h2
   obtain ⟨a, b, c⟩ := t
   simp only at h1 h2
   rw [h1, h2]
  split at h
  ·rename_i k
   rw [if_pos k] at hs ⊢
   obtain ⟨e1, e2, e3⟩ := num 0 (by omega) h hs
   rw [e2, e3]
   unfold pGo
   rw [if_pos rfl]
   simp only [phi, htt]
   rw [tok 1 k e1]
  rename_i k1; rw [if_neg k1] at hs ⊢
  split at h
  ·rename_i k
   rw [if_pos k] at hs ⊢
   obtain ⟨e1, e2, e3⟩ := num 1 (by omega) h hs
   rw [e2, e3]
   unfold pGo
   rw [if_neg (by omega), if_pos rfl]
   simp only [phi, htt]
   rw [tok 2 k e1]
  rename_i k2; rw [if_neg k2] at hs ⊢
  split at h
  ·rename_i k
   rw [if_pos k] at hs ⊢
   obtain ⟨e1, e2, e3, e4⟩ := wBytes_ok h
   rw [e4] at hs ⊢
   simp only at hs
   have hp := pItem_at (w := ⟨at', out, false⟩) f (M := if t.k = 4 then 3 else 2) (n := t.b.length) (L := l.take at') (by split <;> omega) (by omega) (by omega) ((List.prefix_append _ _).trans hs) hL
   have hp' : pItem s (f + 1) (phi l ⟨at', out, false⟩) = _ := hp
   rw [hp']
   obtain ⟨q, hq⟩ := hs
   have part : ∀ M : Int, t.k = M → pPart s M t.b.length (out ++ putL (if t.k = 4 then 3 else 2) t.b.length).length (l.take at') = phi l ⟨at' + 1, out ++ putL (if t.k = 4 then 3 else 2) t.b.length ++ t.b, false⟩ := by
    intro M hM
    unfold pPart
    rw [if_neg (by rw [← hq]; simp only [List.length_append]; omega)]
    simp only [phi, htt]
    have : (s.drop (out ++ putL (if t.k = 4 then 3 else 2) t.b.length).length).take (t.b.length : Int).toNat = t.b := by
     rw [← hq, List.append_assoc _ t.b q, List.drop_left, Int.toNat_natCast, List.take_left]
    rw [this]
    have et : (⟨M, 0, t.b⟩ : Tok) = t := by
     obtain ⟨a, b, c⟩ := t
     simp only at e1 hM ⊢
     rw [e1, hM]
    rw [et]
    congr 1
    simp
    omega
   rcases k with k | k
   ·have e : (if t.k = 4 then (3 : Int) else 2) = 2 := by rw [if_neg (by omega)]
    rw [← part 3 k]
    simp only [e]
    unfold pGo
    rw [if_neg (by omega), if_neg (by omega), if_pos rfl]
   ·have e : (if t.k = 4 then (3 : Int) else 2) = 3 := by rw [if_pos k]
    rw [← part 4 k]
    simp only [e]
    unfold pGo
    rw [if_neg (by omega), if_neg (by omega), if_neg (by omega), if_pos rfl]
  rename_i k3; rw [if_neg k3] at hs ⊢
  split at h
  ·rename_i k
   rw [if_pos k] at hs ⊢
   cases f with
   | zero => simp at h
   | succ f =>
    simp only at h hs ⊢
    split at h
    ·simp at h
    rename_i k4
    rw [if_neg k4] at hs ⊢
    have ih := pItem_of_wItem u l hl hn s f
    have hm : t.b = [] ∧ 0 ≤ t.n ∧ t.n ≤ 64 := by
     simp only [wManyBad, Bool.or_eq_true, not_or, decide_eq_true_eq] at k4
     exact ⟨List.length_eq_zero_iff.1 (by omega), by omega, by omega⟩
    split at h
    ·rename_i k5
     rw [if_pos k5] at hs ⊢
     obtain ⟨j1, j2⟩ := wArr_mono _ (wItem_mono u l f) _ _ h
     obtain ⟨i1, i2, i3⟩ := wHead_ok j1 (by omega)
     have hp := pItem_at (w := ⟨at', out, false⟩) (f + 1) (M := 4) (n := t.n) (L := l.take at') (by omega) i1 htk.2.1.2 (by have := j2.trans hs; rw [i2] at this; exact this) hL
     have hp' : pItem s (f + 1 + 1) (phi l ⟨at', out, false⟩) = _ := hp
     rw [hp', ← pMany_arr (wItem_mono u l f) ih _ _ h hs, i2]
     unfold pGo
     rw [if_neg (by omega), if_neg (by omega), if_neg (by omega), if_neg (by omega), if_pos rfl]
     simp only [phi, htt]
     rw [tok 5 k5 hm.1]
    ·rename_i k5
     rw [if_neg k5] at hs ⊢
     have k6 : t.k = 6 := by omega
     obtain ⟨j1, j2⟩ := wMap_mono _ (wItem_mono u l f) _ _ _ _ _ h
     obtain ⟨i1, i2, i3⟩ := wHead_ok j1 (by omega)
     have hp := pItem_at (w := ⟨at', out, false⟩) (f + 1) (M := 5) (n := t.n) (L := l.take at') (by omega) i1 htk.2.1.2 (by have := j2.trans hs; rw [i2] at this; exact this) hL
     have hp' : pItem s (f + 1 + 1) (phi l ⟨at', out, false⟩) = _ := hp
     rw [hp', ← pMany_map (wItem_mono u l f) ih _ _ _ _ _ h hs, i2]
     unfold pGo
     rw [if_neg (by omega), if_neg (by omega), if_neg (by omega), if_neg (by omega), if_neg (by omega), if_pos rfl]
     simp only [phi, htt]
     rw [tok 6 k6 hm.1, show (2 * min t.n 65).toNat = 2 * t.n.toNat by omega]
  ·simp at h
theorem encR_yes {u : List Int → Bool} {l : List Tok} {a : List Int} (h : encR u l = (a, 0)) : l.length ≤ 600 ∧ wItem u l 6 ⟨0, [], false⟩ = ⟨l.length, a, false⟩ ∧ a.length ≤ 32768 := by
 unfold encR at h
 split at h
 ·cases h
 split at h
 ·cases h
 rename_i h1 h2
 simp only [Bool.or_eq_true, decide_eq_true_eq, not_or, Bool.not_eq_true] at h2
 obtain ⟨⟨h3, h4⟩, h5⟩ := h2
 have e := congrArg Prod.fst h
 simp only at e
 refine ⟨by omega, ?_, by rw [← e]; omega⟩
 have h4 := Classical.not_not.1 h4
 generalize wItem u l 6 ⟨0, [], false⟩ = w at *
 obtain ⟨x, y, z⟩ := w
 simp only at h3 h4 e
 rw [h3, h4, e]
theorem encR_or (u : List Int → Bool) (l : List Tok) : encR u l = ([], 1) ∨ ∃ a, encR u l = (a, 0) := by
 unfold encR
 split
 ·exact .inl rfl
 split
 ·exact .inl rfl
 ·exact .inr ⟨_, rfl⟩
theorem pItem_enc {u : List Int → Bool} {l : List Tok} {a : List Int} (hl : ToksOk l) (h : encR u l = (a, 0)) (q : List Int) : pItem (a ++ q) 7 ⟨0, [], false⟩ = ⟨a.length, l, false⟩ := by
 obtain ⟨h1, h2, h3⟩ := encR_yes h
 have := pItem_of_wItem u l hl h1 (a ++ q) 6 ⟨0, [], false⟩ (by rw [h2]) (by rw [h2]; exact List.prefix_append _ _)
 rw [h2] at this
 simpa [phi] using this
theorem decR_enc {u : List Int → Bool} {l : List Tok} {a : List Int} (hl : ToksOk l) (h : encR u l = (a, 0)) : decR u a = (l, 0) := by
 have hi := pItem_enc hl h []
 rw [List.append_nil] at hi
 have := encR_yes h
 unfold decR
 rw [if_neg (by omega), hi]
 simp [h]
theorem decR_or (u : List Int → Bool) (b : List Int) : decR u b = ([], 3) ∨ ∃ l, decR u b = (l, 0) ∧ encR u l = (b, 0) ∧ pItem b 7 ⟨0, [], false⟩ = ⟨b.length, l, false⟩ := by
 unfold decR
 split
 ·exact .inl rfl
 split
 ·exact .inl rfl
 split
 ·exact .inl rfl
 ·rename_i h1 h2 h3
  refine .inr ⟨_, rfl, ?_, ?_⟩
  ·have h4 := Classical.not_not.1 (fun e => h3 (.inl e))
   have h5 := Classical.not_not.1 (fun e => h3 (.inr e))
   exact Prod.ext h5 h4
  ·simp only [Bool.or_eq_true, decide_eq_true_eq, not_or, Bool.not_eq_true] at h2
   obtain ⟨h4, h5⟩ := h2
   have h5 := Classical.not_not.1 h5
   generalize pItem b 7 ⟨0, [], false⟩ = p at *
   obtain ⟨x, y, z⟩ := p
   simp only at h4 h5
   rw [h4, h5]
end
end Go.Proofs.YtgcmddhdnfmdnaaGreatDoor.Abs
