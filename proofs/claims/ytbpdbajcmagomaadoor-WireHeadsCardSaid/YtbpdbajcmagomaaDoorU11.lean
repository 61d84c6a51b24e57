/- Texts EL to EV, merged. -/
import Derived.Test.YtbpdbajcmagomaaDoorU10
set_option linter.unusedVariables false
set_option linter.unusedSimpArgs false
namespace Go.Proofs.YtbpdbajcmagomaaDoor.Abs
open Go
section
--KR
attribute [local irreducible] ifB fitP Does Weaker
def bitR (b : Bool) : Int := if b then 1 else 0
def hdT (h : Hd) : List Tok := [⟨5, 4, []⟩, ⟨3, 0, h.au⟩, ⟨1, h.len, []⟩, ⟨3, 0, h.id⟩, ⟨1, bitR h.shut, []⟩]
def hdsT : List Hd → List Tok
 | [] => []
 | h :: r => hdT h ++ hdsT r
theorem hdsT_app : ∀ a b : List Hd, hdsT (a ++ b) = hdsT a ++ hdsT b
 | [], b => rfl
 | h :: a, b => by simp only [List.cons_append, hdsT, hdsT_app a b, List.append_assoc]
theorem hdsT_len : ∀ l : List Hd, (hdsT l).length = 5 * l.length
 | [] => rfl
 | h :: r => by simp only [hdsT, List.length_append, hdsT_len r, List.length_cons, hdT, List.length_nil]; omega
def frT (m : Msg) : List Tok := [⟨5, 4, []⟩, ⟨1, 3, []⟩, ⟨1, m.frm, []⟩, ⟨1, m.to, []⟩, ⟨5, m.hs.length, []⟩]
def anT (m : Msg) : List Tok := [⟨5, 5, []⟩, ⟨1, 4, []⟩, ⟨1, m.frm, []⟩, ⟨1, m.to, []⟩, ⟨5, m.ps.length, []⟩]
def prT (l : List Prf) : List Tok := l.map fun p => ⟨3, 0, (prfB p).1⟩
def enT (l : List Ent) : List Tok := l.map fun e => ⟨3, 0, (entB e).1⟩
def msgT (m : Msg) : List Tok := if m.kind = 1 then frT m ++ hdsT m.hs else anT m ++ prT m.ps ++ [⟨5, m.es.length, []⟩] ++ enT m.es
def msgB (m : Msg) : List Int × Int := if msgR m then encR validR (msgT m) else ([], 1)
theorem take_snoc {α : Type} {l : List α} {i : Nat} (h : i < l.length) : l.take (i + 1) = l.take i ++ [l[i]] := by
 rw [List.take_succ_eq_append_getElem h]
def TokB (t : Tok) : Prop := TokOk t ∧ t.b.length ≤ 1099511627776
theorem tokB_num {k n : Int} (hk : 0 ≤ k ∧ k ≤ 100) (hn : -9223372036854775808 ≤ n ∧ n < 9223372036854775808) : TokB ⟨k, n, []⟩ := ⟨⟨by dsimp only; omega, hn, fun x hx => absurd hx (List.not_mem_nil)⟩, by simp⟩
theorem tokB_str {b : List Int} (hb : Byt b) (hl : b.length ≤ 1000000000) : TokB ⟨3, 0, b⟩ := ⟨⟨by dsimp only; omega, by dsimp only; omega, hb⟩, by dsimp only; omega⟩
theorem hdT_tokB {h : Hd} (hh : HdS h) : ∀ t ∈ hdT h, TokB t := by
 intro t ht
 simp only [hdT, List.mem_cons, List.not_mem_nil, or_false] at ht
 rcases ht with rfl | rfl | rfl | rfl | rfl
 ·exact tokB_num (by omega) (by omega)
 ·exact tokB_str hh.au.1 (by have := hh.au.2; omega)
 ·exact tokB_num (by omega) hh.len
 ·exact tokB_str hh.id.1 (by have := hh.id.2; omega)
 ·exact tokB_num (by omega) (by unfold bitR; split <;> omega)
theorem hdsT_tokB : ∀ {l : List Hd}, (∀ h ∈ l, HdS h) → ∀ t ∈ hdsT l, TokB t
 | [], _, t, ht => absurd ht (List.not_mem_nil)
 | h :: r, H, t, ht => by
  rcases List.mem_append.1 (show t ∈ hdT h ++ hdsT r from ht) with ht | ht
  ·exact hdT_tokB (H h List.mem_cons_self) t ht
  ·exact hdsT_tokB (fun x hx => H x (List.mem_cons_of_mem _ hx)) t ht
theorem fr_tokB {m : Msg} (hm : MsgS m) : ∀ t ∈ frT m ++ hdsT m.hs, TokB t := by
 intro t ht
 rcases List.mem_append.1 ht with ht | ht
 ·simp only [frT, List.mem_cons, List.not_mem_nil, or_false] at ht
  have := hm.hl
  rcases ht with rfl | rfl | rfl | rfl | rfl
  ·exact tokB_num (by omega) (by omega)
  ·exact tokB_num (by omega) (by omega)
  ·exact tokB_num (by omega) hm.frm
  ·exact tokB_num (by omega) hm.to
  ·exact tokB_num (by omega) (by omega)
 ·exact hdsT_tokB hm.hs t ht
theorem prf_toks {p : Prf} (hp : PrfS p) : ToksOk [⟨5, 3, []⟩, ⟨1, 2, []⟩, ⟨3, 0, (entB p.a).1⟩, ⟨3, 0, (entB p.b).1⟩] := by
 have b1 := entB_byt hp.a
 have b2 := entB_byt hp.b
 intro t ht
 simp only [List.mem_cons, List.not_mem_nil, or_false] at ht
 rcases ht with rfl | rfl | rfl | rfl
 ·exact (tokB_num (by omega) (by omega)).1
 ·exact (tokB_num (by omega) (by omega)).1
 ·exact (tokB_str b1.1 (by omega)).1
 ·exact (tokB_str b2.1 (by omega)).1
theorem prfB_byt {p : Prf} (hp : PrfS p) : Byt (prfB p).1 ∧ (prfB p).1.length ≤ 32768 := by
 unfold prfB
 split
 ·refine ⟨encR_byt _ (prf_toks hp), ?_⟩
  rcases encR_or validR [⟨5, 3, []⟩, ⟨1, 2, []⟩, ⟨3, 0, (entB p.a).1⟩, ⟨3, 0, (entB p.b).1⟩] with h | ⟨a, h⟩
  ·rw [h]; simp
  ·have := encR_len h
   rw [h]; exact this
 ·exact ⟨fun x hx => absurd hx (List.not_mem_nil), by simp⟩
theorem an_tokB {m : Msg} (hm : MsgS m) : ∀ t ∈ anT m ++ prT m.ps ++ [⟨5, m.es.length, []⟩] ++ enT m.es, TokB t := by
 intro t ht
 have h1 := hm.pl
 have h2 := hm.el
 rcases List.mem_append.1 ht with ht | ht
 ·rcases List.mem_append.1 ht with ht | ht
  ·rcases List.mem_append.1 ht with ht | ht
   ·simp only [anT, List.mem_cons, List.not_mem_nil, or_false] at ht
    rcases ht with rfl | rfl | rfl | rfl | rfl
    ·exact tokB_num (by omega) (by omega)
    ·exact tokB_num (by omega) (by omega)
    ·exact tokB_num (by omega) hm.frm
    ·exact tokB_num (by omega) hm.to
    ·exact tokB_num (by omega) (by omega)
   ·simp only [prT, List.mem_map] at ht
    obtain ⟨p, hp, rfl⟩ := ht
    have := prfB_byt (hm.ps p hp)
    exact tokB_str this.1 (by omega)
  ·simp only [List.mem_singleton] at ht
   subst ht
   exact tokB_num (by omega) (by omega)
 ·simp only [enT, List.mem_map] at ht
  obtain ⟨p, hp, rfl⟩ := ht
  have := entB_byt (hm.es p hp)
  exact tokB_str this.1 (by omega)
def PLmsg : Nat → Bool × Plan := plans [(5, (false, (takesTo [2, 3, 5, 6, 8, 9, 10] (.all [(0, (.all [(1, (.all [(4, (.all [(7, (.all [(11, (.all [(12, (takes [13]))]))]))]))]))]))])))), (9, (false, (takesTo [0, 2, 3, 5, 6, 8, 9, 11, 12] (.all [(1, (.all [(4, (.all [(7, (.all [(10, (.all [(13, (.all [(14, (.all [(15, (.all [(16, (takes [17]))]))]))]))]))]))]))]))])))), (12, (false, (takesTo [2, 3, 5, 6, 8, 9, 10] (.all [(0, (.all [(1, (.all [(4, (.all [(7, (.all [(11, (.all [(12, (takes [13]))]))]))]))]))]))]))))]
set_option maxRecDepth 20000 in
set_option maxHeartbeats 2000000 in
theorem msg_bytes_ok (m : Msg) (hm : MsgS m) : ACall Tryd.prog 23 [.agg (msgC m)] (.tuple [.own (msgB m).1.length 1 (bys (msgB m).1), .int .i64 (msgB m).2]) [] := by
 have hc := check_msg_ok m hm
 unfold msgB
 refine ACall.of_does TTok Tryd.func23 rfl Tryd.call23 rfl (wpc_sound (M := MW) (PL := PLmsg) (CU := cutAt [100004]) TTok mixed _ _ _ ?_)
 cases c1 : msgR m <;> rw [c1] at hc
 ·conv => whnf
  repeat ((first | refine ⟨rfl, ?_⟩ | refine ⟨_, rfl, ?_⟩ | refine ⟨(show pureL _ = true from by first | exact prfC_pure _ | exact hdC_pure _ | exact msgC_pure _ | exact letC_pure _), ?_⟩); conv => whnf)
  refine ⟨_, _, hc, by first | rfl | simp [noRoIf, noRoL, noRoV, noRoL_bys], ?_⟩
  conv => whnf
  repeat ((first | refine ifB_t ?_ | refine ⟨⟨rfl, rfl⟩, ?_⟩); conv => whnf)
  rfl
 conv => whnf
 repeat ((first | refine ⟨rfl, ?_⟩ | refine ⟨_, rfl, ?_⟩ | refine ⟨(show pureL _ = true from by first | exact prfC_pure _ | exact hdC_pure _ | exact msgC_pure _ | exact letC_pure _), ?_⟩); conv => whnf)
 refine ⟨_, _, hc, by first | rfl | simp [noRoIf, noRoL, noRoV, noRoL_bys], ?_⟩
 conv => whnf
 repeat ((refine ifB_f ?_); conv => whnf)
 refine Does.freeze 0 rfl (Does.tidy [(1, .rop (msgC m))] [] 1 127 rfl rfl rfl (by kernel_rfl) (by kernel_rfl) ?_)
 refine wpc_sound (M := MW) (PL := PLmsg) (CU := noCut) TTok mixed _ _ _ ?_
 unfold msgT
 by_cases k1 : m.kind = 1
 ·rw [if_pos k1]
  conv => whnf
  repeat ((first | (refine ifB_pos (decide_eq_true (by first | omega | rfl | (dsimp only; omega))) ?_) | refine ⟨_, rfl, ?_⟩); conv => whnf)
  refine ⟨by kernel_rfl, ?_⟩
  conv => whnf
  repeat ((first | refine ⟨rfl, ?_⟩ | refine ⟨_, rfl, ?_⟩); conv => whnf)
  refine ⟨_, _, list_ok 4, by first | rfl | simp [noRoIf, noRoL, noRoV, noRoL_bys], ?_⟩
  conv => whnf
  repeat ((refine ⟨rfl, ?_⟩); conv => whnf)
  refine ⟨_, _, num_ok 3, by first | rfl | simp [noRoIf, noRoL, noRoV, noRoL_bys], ?_⟩
  conv => whnf
  repeat ((refine ⟨rfl, ?_⟩); conv => whnf)
  refine ⟨_, _, num_ok m.frm, by first | rfl | simp [noRoIf, noRoL, noRoV, noRoL_bys], ?_⟩
  conv => whnf
  repeat ((refine ⟨rfl, ?_⟩); conv => whnf)
  refine ⟨_, _, num_ok m.to, by first | rfl | simp [noRoIf, noRoL, noRoV, noRoL_bys], ?_⟩
  conv => whnf
  repeat ((refine ⟨rfl, ?_⟩); conv => whnf)
  refine ⟨_, _, list_ok m.hs.length, by first | rfl | simp [noRoIf, noRoL, noRoV, noRoL_bys], ?_⟩
  conv => whnf
  repeat ((first | refine ⟨_, rfl, ?_⟩ | refine ⟨⟨rfl, rfl⟩, ?_⟩); conv => whnf)
  have hL := hm.hl
  refine Does.loop (fun c : Nat => mkSt [(1, .rop (msgC m)), (5, .sl 1 0 (5 + 5 * c) 3 false), (39, .ro m.hs.length (rowsC hdC m.hs)), (40, .int .i64 m.hs.length), (41, .int .i64 c)] [(1, toksC (frT m ++ hdsT (m.hs.take c)))] 2 127)
   (fun c => c ≤ m.hs.length) (fun c => m.hs.length - c) ?_ 0 (Nat.zero_le _) ?_
  ·intro c hcl
   rcases Nat.lt_or_ge c m.hs.length with c2 | c2
   ·have hh := hm.hs _ (List.getElem_mem c2)
    have hlen : (frT m ++ hdsT (m.hs.take c)).length = 5 + 5 * c := by rw [List.length_append, hdsT_len]; simp [frT] <;> omega
    refine wpc_sound (M := MW) (PL := PLmsg) (CU := cutAt [100009]) TTok mixed _ _ _ ?_
    conv => whnf
    repeat ((first | (refine ifB_pos (decide_eq_true (by first | omega | rfl | (dsimp only; omega))) ?_) | (refine ⟨⟨?_, ?_, ?_⟩, ?_⟩; (focus omega); (focus (first | omega | (simp; done) | (simp; omega))); (focus (first | (rw [prfs_len]; simp; omega) | (rw [ents_len]; simp; omega) | (rw [hds_len]; simp; omega) | (rw [lets_len]; simp; omega))))); conv => whnf)
    refine ⟨_, takeN_row hdC_length c2 (by simp; omega) rfl, ?_⟩
    conv => whnf
    repeat ((first | refine ⟨(⟨by kernel_rfl, by kernel_rfl, Nat.le_of_ble_eq_true (by kernel_rfl)⟩ : AV.ones _ = true ∧ _ ∧ _), ?_⟩ | refine ⟨rfl, ?_⟩); conv => whnf)
    have hnext : frT m ++ hdsT (m.hs.take (c + 1)) = (frT m ++ hdsT (m.hs.take c)) ++ hdT m.hs[c] := by
     rw [take_snoc c2, hdsT_app, List.append_assoc]; simp [hdsT]
    generalize frT m ++ hdsT (m.hs.take c) = T at hlen hnext ⊢
    generalize m.hs[c] = q at hh hnext ⊢
    refine Does.freeze 2 rfl (Does.tidy [(1, .rop (msgC m)), (5, .sl 1 0 (5 + 5 * c) 3 false), (7, .rop (hdC q)), (39, .ro m.hs.length (rowsC hdC m.hs)), (40, .int .i64 m.hs.length), (41, .int .i64 c)] [(1, frzL 2 (hdC q) (toksC T))] 3 127 rfl rfl rfl (by kernel_rfl) (by kernel_rfl) ?_)
    rw [frzL_toks]
    refine wpc_sound (M := MW) (PL := PLmsg) (CU := noCut) TTok mixed _ _ _ ?_
    conv => whnf
    refine ⟨by kernel_rfl, ?_⟩
    conv => whnf
    repeat ((first | (refine ⟨⟨by first | (simp only [List.drop_zero, List.length_drop, hds_len]; omega) | exact Nat.le_of_ble_eq_true (by kernel_rfl), okB_none _⟩, ?_⟩) | refine ⟨rfl, ?_⟩ | refine ⟨_, rfl, ?_⟩); conv => whnf)
    refine ⟨_, _, list_ok 4, by first | rfl | simp [noRoIf, noRoL, noRoV, noRoL_bys], ?_⟩
    conv => whnf
    repeat ((refine ⟨rfl, ?_⟩); conv => whnf)
    refine ⟨_, _, (cstr_ok q.au).arg1 hh.au.2.symm (cut32 hh.au.2 _), by first | rfl | simp [noRoIf, noRoL, noRoV, noRoL_bys], ?_⟩
    conv => whnf
    repeat ((refine ⟨rfl, ?_⟩); conv => whnf)
    refine ⟨_, _, num_ok q.len, by first | rfl | simp [noRoIf, noRoL, noRoV, noRoL_bys], ?_⟩
    conv => whnf
    repeat ((refine ⟨rfl, ?_⟩); conv => whnf)
    refine ⟨_, _, (cstr_ok q.id).arg1 hh.id.2.symm (cut32 hh.id.2 _), by first | rfl | simp [noRoIf, noRoL, noRoV, noRoL_bys], ?_⟩
    conv => whnf
    repeat ((refine ⟨rfl, ?_⟩); conv => whnf)
    refine ⟨_, _, bit_ok q.shut, by first | rfl | simp [noRoIf, noRoL, noRoV, noRoL_bys], ?_⟩
    conv => whnf
    repeat ((refine ⟨rfl, ?_⟩); conv => whnf)
    refine ⟨_, _, num_ok (if q.shut = true then 1 else 0), by first | rfl | simp [noRoIf, noRoL, noRoV, noRoL_bys], ?_⟩
    conv => whnf
    repeat ((first | (refine fit_i64 ⟨by first | omega | rfl | (dsimp only; omega), by first | omega | rfl | (dsimp only; omega)⟩ ?_) | (refine Or.inl ⟨⟨rfl, ?_⟩, ?_⟩; (focus (first | rfl | (simp; done) | (rw [toksC_length]; omega)))) | refine ⟨rfl, ?_⟩ | refine ⟨⟨rfl, rfl⟩, ?_⟩ | (refine ⟨⟨rfl, rfl, ?_, ?_⟩, ?_⟩; (focus (first | (simp [toksC_length]; done) | (simp [toksC_length]; omega))); (focus (first | (simp [limB, lenB, offB]; done) | (simp [limB, lenB, offB]; omega))))); conv => whnf)
    refine ⟨c + 1, by omega, by omega, weaker_of [(1, 4)] rfl rfl ⟨⟨rfl, msgC_pure m⟩, ⟨rfl, rfl, rfl, rfl, id⟩, ⟨rfl, rfl, hds_pure _⟩, ⟨rfl, rfl⟩, ⟨rfl, rfl⟩, trivial⟩ ⟨?_, trivial⟩⟩
    rw [hnext]
    exact lesP_toks (by rw [toksC_append]; rfl)
   ·obtain rfl : c = m.hs.length := by omega
    rw [List.take_length]
    have hlen : (frT m ++ hdsT m.hs).length = 5 + 5 * m.hs.length := by rw [List.length_append, hdsT_len]; simp [frT] <;> omega
    have hb := encode_ok (frT m ++ hdsT m.hs) (fun t ht => (fr_tokB hm t ht).1) (fun t ht => (fr_tokB hm t ht).2)
    refine wpc_sound (M := MW) (PL := PLmsg) (CU := noCut) TTok mixed _ _ _ ?_
    conv => whnf
    repeat ((first | (refine ifB_neg (decide_eq_false (by first | omega | rfl | (dsimp only; omega))) ?_) | (refine Or.inl ⟨⟨rfl, ?_⟩, ?_⟩; (focus (first | rfl | (simp; done) | (rw [toksC_length]; omega)))) | refine ⟨rfl, ?_⟩ | (refine And.intro ?_ ?_; (focus (first | (simp only [pureL, pureV, pureL_bys, Bool.and_true, Bool.and_self]; done) | (simp only [pureL, pureV, pureL_bys, pureL_toks, Bool.and_true, Bool.and_self]; done))))); conv => whnf)
    refine ⟨_, _, hb.arg1 (by omega) rfl, by first | rfl | simp [noRoIf, noRoL, noRoV, noRoL_bys], ?_⟩
    conv => whnf
    repeat ((first | refine ⟨⟨rfl, rfl⟩, ?_⟩ | (refine ⟨⟨rfl, rfl, rfl, ?_, pureL_bys _⟩, ?_⟩; (focus (simp; done)))); conv => whnf)
    rfl
  ·exact weaker_of [(1, 1)] rfl rfl ⟨⟨rfl, msgC_pure m⟩, ⟨rfl, rfl, rfl, rfl, fun h => by cases h⟩, ⟨rfl, rfl, hds_pure _⟩, ⟨rfl, rfl⟩, ⟨rfl, rfl⟩, trivial⟩ ⟨lesP_toks rfl, trivial⟩
 ·rw [if_neg k1]
  conv => whnf
  repeat ((first | (refine ifB_neg (decide_eq_false (by first | omega | rfl | (dsimp only; omega))) ?_) | refine ⟨_, rfl, ?_⟩); conv => whnf)
  refine ⟨by kernel_rfl, ?_⟩
  conv => whnf
  repeat ((first | refine ⟨rfl, ?_⟩ | refine ⟨_, rfl, ?_⟩); conv => whnf)
  refine ⟨_, _, list_ok 5, by first | rfl | simp [noRoIf, noRoL, noRoV, noRoL_bys], ?_⟩
  conv => whnf
  repeat ((refine ⟨rfl, ?_⟩); conv => whnf)
  refine ⟨_, _, num_ok 4, by first | rfl | simp [noRoIf, noRoL, noRoV, noRoL_bys], ?_⟩
  conv => whnf
  repeat ((refine ⟨rfl, ?_⟩); conv => whnf)
  refine ⟨_, _, num_ok m.frm, by first | rfl | simp [noRoIf, noRoL, noRoV, noRoL_bys], ?_⟩
  conv => whnf
  repeat ((refine ⟨rfl, ?_⟩); conv => whnf)
  refine ⟨_, _, num_ok m.to, by first | rfl | simp [noRoIf, noRoL, noRoV, noRoL_bys], ?_⟩
  conv => whnf
  repeat ((refine ⟨rfl, ?_⟩); conv => whnf)
  refine ⟨_, _, list_ok m.ps.length, by first | rfl | simp [noRoIf, noRoL, noRoV, noRoL_bys], ?_⟩
  conv => whnf
  repeat ((first | refine ⟨_, rfl, ?_⟩ | refine ⟨⟨rfl, rfl⟩, ?_⟩); conv => whnf)
  have hL := hm.pl
  have hE := hm.el
  refine Does.loop (fun c : Nat => mkSt [(1, .rop (msgC m)), (8, .sl 1 0 (5 + c) 3 false), (81, .ro m.ps.length (rowsC prfC m.ps)), (82, .int .i64 m.ps.length), (83, .int .i64 c)] [(1, toksC (anT m ++ prT (m.ps.take c)))] 2 127)
   (fun c => c ≤ m.ps.length) (fun c => m.ps.length - c) ?_ 0 (Nat.zero_le _) ?_
  ·intro c hcl
   rcases Nat.lt_or_ge c m.ps.length with c2 | c2
   ·have hh := hm.ps _ (List.getElem_mem c2)
    have hlen : (anT m ++ prT (m.ps.take c)).length = 5 + c := by rw [List.length_append]; simp [anT, prT] <;> omega
    have hnext : anT m ++ prT (m.ps.take (c + 1)) = (anT m ++ prT (m.ps.take c)) ++ [⟨3, 0, (prfB m.ps[c]).1⟩] := by
     unfold prT; rw [take_snoc c2, List.map_append, ← List.append_assoc]; rfl
    have hb := pbytes_ok m.ps[c] hh
    refine wpc_sound (M := MW) (PL := PLmsg) (CU := cutAt [100016, 100017]) TTok mixed _ _ _ ?_
    conv => whnf
    repeat ((first | (refine ifB_pos (decide_eq_true (by first | omega | rfl | (dsimp only; omega))) ?_) | (refine ⟨⟨?_, ?_, ?_⟩, ?_⟩; (focus omega); (focus (first | omega | (simp; done) | (simp; omega))); (focus (first | (rw [prfs_len]; simp; omega) | (rw [ents_len]; simp; omega) | (rw [hds_len]; simp; omega) | (rw [lets_len]; simp; omega))))); conv => whnf)
    refine ⟨_, takeN_row prfC_length c2 (by simp; omega) rfl, ?_⟩
    conv => whnf
    repeat ((first | refine ⟨(⟨by kernel_rfl, by kernel_rfl, Nat.le_of_ble_eq_true (by kernel_rfl)⟩ : AV.ones _ = true ∧ _ ∧ _), ?_⟩ | refine ⟨rfl, ?_⟩); conv => whnf)
    generalize anT m ++ prT (m.ps.take c) = T at hlen hnext ⊢
    generalize m.ps[c] = q at hh hb hnext ⊢
    refine Does.tidy [(1, .rop (msgC m)), (8, .sl 1 0 (5 + c) 3 false), (10, .ptr 2 0), (81, .ro m.ps.length (rowsC prfC m.ps)), (82, .int .i64 m.ps.length), (83, .int .i64 c)] [(1, toksC T), (2, prfC q)] 3 127 rfl rfl rfl (by kernel_rfl) (by kernel_rfl) ?_
    refine wpc_sound (M := MW) (PL := PLmsg) (CU := noCut) TTok mixed _ _ _ ?_
    conv => whnf
    refine ⟨prfC q, by kernel_rfl, ?_⟩
    conv => whnf
    repeat ((first | refine ⟨rfl, ?_⟩ | refine ⟨(show pureL _ = true from by first | exact prfC_pure _ | exact hdC_pure _ | exact msgC_pure _ | exact letC_pure _), ?_⟩); conv => whnf)
    generalize prfB q = o at hb hnext ⊢
    obtain ⟨o, e⟩ := o
    refine ⟨_, _, hb, by first | rfl | simp [noRoIf, noRoL, noRoV, noRoL_bys], ?_⟩
    conv => whnf
    refine Does.freeze 3 rfl (Does.tidy [(1, .rop (msgC m)), (8, .sl 1 0 (5 + c) 3 false), (11, roW o), (81, .ro m.ps.length (rowsC prfC m.ps)), (82, .int .i64 m.ps.length), (83, .int .i64 c)] [(1, frzL 3 (bys o) (toksC T)), (2, frzL 3 (bys o) (prfC q))] 4 127 rfl rfl rfl (by kernel_rfl) (by kernel_rfl) ?_)
    rw [roW_eq, frzL_toks, prfC_frz]
    refine wpc_sound (M := MW) (PL := PLmsg) (CU := noCut) TTok mixed _ _ _ ?_
    conv => whnf
    repeat ((first | refine ⟨pureL_bys _, ?_⟩ | refine ⟨rfl, ?_⟩); conv => whnf)
    refine ⟨_, _, cstr_ok o, by first | rfl | simp [noRoIf, noRoL, noRoV, noRoL_bys], ?_⟩
    conv => whnf
    repeat ((first | (refine fit_i64 ⟨by first | omega | rfl | (dsimp only; omega), by first | omega | rfl | (dsimp only; omega)⟩ ?_) | (refine Or.inl ⟨⟨rfl, ?_⟩, ?_⟩; (focus (first | rfl | (simp; done) | (rw [toksC_length]; omega)))) | refine ⟨rfl, ?_⟩ | refine ⟨⟨rfl, rfl⟩, ?_⟩ | (refine ⟨⟨rfl, rfl, ?_, ?_⟩, ?_⟩; (focus (first | (simp [toksC_length]; done) | (simp [toksC_length]; omega))); (focus (first | (simp [limB, lenB, offB]; done) | (simp [limB, lenB, offB]; omega))))); conv => whnf)
    refine ⟨c + 1, by omega, by omega, weaker_of [(1, 5)] rfl rfl ⟨⟨rfl, msgC_pure m⟩, ⟨rfl, rfl, by first | rfl | omega, rfl, id⟩, ⟨rfl, rfl, prfs_pure _⟩, ⟨rfl, rfl⟩, ⟨rfl, rfl⟩, trivial⟩ ⟨?_, trivial⟩⟩
    rw [hnext]
    exact lesP_toks (by rw [toksC_append]; rfl)
   ·obtain rfl : c = m.ps.length := by omega
    rw [List.take_length]
    have hlen : (anT m ++ prT m.ps).length = 5 + m.ps.length := by rw [List.length_append]; simp [anT, prT] <;> omega
    refine wpc_sound (M := MW) (PL := PLmsg) (CU := noCut) TTok mixed _ _ _ ?_
    conv => whnf
    repeat ((first | (refine ifB_neg (decide_eq_false (by first | omega | rfl | (dsimp only; omega))) ?_) | refine ⟨rfl, ?_⟩ | refine ⟨_, rfl, ?_⟩); conv => whnf)
    have hTB := an_tokB hm
    generalize anT m ++ prT m.ps = T0 at hlen hTB ⊢
    refine ⟨_, _, list_ok m.es.length, by first | rfl | simp [noRoIf, noRoL, noRoV, noRoL_bys], ?_⟩
    conv => whnf
    repeat ((first | (refine Or.inl ⟨⟨rfl, ?_⟩, ?_⟩; (focus (first | rfl | (simp; done) | (rw [toksC_length]; omega)))) | refine ⟨rfl, ?_⟩ | refine ⟨_, rfl, ?_⟩ | refine ⟨⟨rfl, rfl⟩, ?_⟩ | (refine ⟨⟨rfl, rfl, ?_, ?_⟩, ?_⟩; (focus (first | (simp [toksC_length]; done) | (simp [toksC_length]; omega))); (focus (first | (simp [limB, lenB, offB]; done) | (simp [limB, lenB, offB]; omega))))); conv => whnf)
    refine Does.loop (fun c : Nat => mkSt [(1, .rop (msgC m)), (8, .sl 1 0 (6 + m.ps.length + c) 3 false), (106, .ro m.es.length (rowsC entC m.es)), (107, .int .i64 m.es.length), (108, .int .i64 c)] [(1, toksC (T0 ++ ([⟨5, m.es.length, []⟩] : List Tok) ++ enT (m.es.take c)))] 2 127)
     (fun c => c ≤ m.es.length) (fun c => m.es.length - c) ?_ 0 (Nat.zero_le _) ?_
    ·intro c hcl
     rcases Nat.lt_or_ge c m.es.length with c2 | c2
     ·have hh := hm.es _ (List.getElem_mem c2)
      have hlen : (T0 ++ ([⟨5, m.es.length, []⟩] : List Tok) ++ enT (m.es.take c)).length = 6 + m.ps.length + c := by rw [List.length_append, List.length_append, hlen]; simp [enT] <;> omega
      have hnext : T0 ++ ([⟨5, m.es.length, []⟩] : List Tok) ++ enT (m.es.take (c + 1)) = (T0 ++ ([⟨5, m.es.length, []⟩] : List Tok) ++ enT (m.es.take c)) ++ [⟨3, 0, (entB m.es[c]).1⟩] := by
       unfold enT; rw [take_snoc c2, List.map_append, ← List.append_assoc]; rfl
      have hb := ebytes_ok m.es[c] hh
      refine wpc_sound (M := MW) (PL := PLmsg) (CU := cutAt [100023, 100024]) TTok mixed _ _ _ ?_
      conv => whnf
      repeat ((first | (refine ifB_pos (decide_eq_true (by first | omega | rfl | (dsimp only; omega))) ?_) | (refine ⟨⟨?_, ?_, ?_⟩, ?_⟩; (focus omega); (focus (first | omega | (simp; done) | (simp; omega))); (focus (first | (rw [prfs_len]; simp; omega) | (rw [ents_len]; simp; omega) | (rw [hds_len]; simp; omega) | (rw [lets_len]; simp; omega))))); conv => whnf)
      refine ⟨_, takeN_row entC_length c2 (by simp; omega) rfl, ?_⟩
      conv => whnf
      repeat ((first | refine ⟨(⟨by kernel_rfl, by kernel_rfl, Nat.le_of_ble_eq_true (by kernel_rfl)⟩ : AV.ones _ = true ∧ _ ∧ _), ?_⟩ | refine ⟨rfl, ?_⟩); conv => whnf)
      generalize T0 ++ ([⟨5, m.es.length, []⟩] : List Tok) ++ enT (m.es.take c) = T at hlen hnext ⊢
      generalize m.es[c] = q at hh hb hnext ⊢
      refine Does.tidy [(1, .rop (msgC m)), (8, .sl 1 0 (6 + m.ps.length + c) 3 false), (14, .ptr 2 0), (106, .ro m.es.length (rowsC entC m.es)), (107, .int .i64 m.es.length), (108, .int .i64 c)] [(1, toksC T), (2, entC q)] 3 127 rfl rfl rfl (by kernel_rfl) (by kernel_rfl) ?_
      refine wpc_sound (M := MW) (PL := PLmsg) (CU := noCut) TTok mixed _ _ _ ?_
      conv => whnf
      refine ⟨entC q, by kernel_rfl, ?_⟩
      conv => whnf
      repeat ((first | refine ⟨entC_pure _, ?_⟩ | refine ⟨rfl, ?_⟩); conv => whnf)
      generalize entB q = o at hb hnext ⊢
      obtain ⟨o, e⟩ := o
      refine ⟨_, _, hb, by first | rfl | simp [noRoIf, noRoL, noRoV, noRoL_bys], ?_⟩
      conv => whnf
      refine Does.freeze 3 rfl (Does.tidy [(1, .rop (msgC m)), (8, .sl 1 0 (6 + m.ps.length + c) 3 false), (15, roW o), (106, .ro m.es.length (rowsC entC m.es)), (107, .int .i64 m.es.length), (108, .int .i64 c)] [(1, frzL 3 (bys o) (toksC T)), (2, frzL 3 (bys o) (entC q))] 4 127 rfl rfl rfl (by kernel_rfl) (by kernel_rfl) ?_)
      rw [roW_eq, frzL_toks, entC_frz]
      refine wpc_sound (M := MW) (PL := PLmsg) (CU := noCut) TTok mixed _ _ _ ?_
      conv => whnf
      repeat ((first | refine ⟨pureL_bys _, ?_⟩ | refine ⟨rfl, ?_⟩); conv => whnf)
      refine ⟨_, _, cstr_ok o, by first | rfl | simp [noRoIf, noRoL, noRoV, noRoL_bys], ?_⟩
      conv => whnf
      repeat ((first | (refine fit_i64 ⟨by first | omega | rfl | (dsimp only; omega), by first | omega | rfl | (dsimp only; omega)⟩ ?_) | (refine Or.inl ⟨⟨rfl, ?_⟩, ?_⟩; (focus (first | rfl | (simp; done) | (rw [toksC_length]; omega)))) | refine ⟨rfl, ?_⟩ | refine ⟨⟨rfl, rfl⟩, ?_⟩ | (refine ⟨⟨rfl, rfl, ?_, ?_⟩, ?_⟩; (focus (first | (simp [toksC_length]; done) | (simp [toksC_length]; omega))); (focus (first | (simp [limB, lenB, offB]; done) | (simp [limB, lenB, offB]; omega))))); conv => whnf)
      refine ⟨c + 1, by omega, by omega, weaker_of [(1, 5)] rfl rfl ⟨⟨rfl, msgC_pure m⟩, ⟨rfl, rfl, by first | rfl | omega, rfl, id⟩, ⟨rfl, rfl, ents_pure _⟩, ⟨rfl, rfl⟩, ⟨rfl, rfl⟩, trivial⟩ ⟨?_, trivial⟩⟩
      rw [hnext]
      exact lesP_toks (by rw [toksC_append]; rfl)
     ·obtain rfl : c = m.es.length := by omega
      rw [List.take_length]
      have hlen : (T0 ++ ([⟨5, m.es.length, []⟩] : List Tok) ++ enT m.es).length = 6 + m.ps.length + m.es.length := by rw [List.length_append, List.length_append, hlen]; simp [enT] <;> omega
      have hb := encode_ok (T0 ++ ([⟨5, m.es.length, []⟩] : List Tok) ++ enT m.es) (fun t ht => (hTB t ht).1) (fun t ht => (hTB t ht).2)
      refine wpc_sound (M := MW) (PL := PLmsg) (CU := noCut) TTok mixed _ _ _ ?_
      conv => whnf
      repeat ((first | (refine ifB_neg (decide_eq_false (by first | omega | rfl | (dsimp only; omega))) ?_) | (refine Or.inl ⟨⟨rfl, ?_⟩, ?_⟩; (focus (first | rfl | (simp; done) | (rw [toksC_length]; omega)))) | refine ⟨rfl, ?_⟩ | (refine And.intro ?_ ?_; (focus (first | (simp only [pureL, pureV, pureL_bys, Bool.and_true, Bool.and_self]; done) | (simp only [pureL, pureV, pureL_bys, pureL_toks, Bool.and_true, Bool.and_self]; done))))); conv => whnf)
      refine ⟨_, _, hb.arg1 (by omega) rfl, by first | rfl | simp [noRoIf, noRoL, noRoV, noRoL_bys], ?_⟩
      conv => whnf
      repeat ((first | refine ⟨⟨rfl, rfl⟩, ?_⟩ | (refine ⟨⟨rfl, rfl, rfl, ?_, pureL_bys _⟩, ?_⟩; (focus (simp; done)))); conv => whnf)
      rfl
    ·exact weaker_of [(1, 3)] rfl rfl ⟨⟨rfl, msgC_pure m⟩, ⟨rfl, rfl, by simp <;> omega, rfl, fun h => by cases h⟩, ⟨rfl, rfl, ents_pure _⟩, ⟨rfl, rfl⟩, ⟨rfl, rfl⟩, trivial⟩ ⟨lesP_toks (by rw [show enT (List.take 0 m.es) = [] from rfl, List.append_nil, toksC_append]; rfl), trivial⟩
  ·exact weaker_of [(1, 1)] rfl rfl ⟨⟨rfl, msgC_pure m⟩, ⟨rfl, rfl, rfl, rfl, fun h => by cases h⟩, ⟨rfl, rfl, prfs_pure _⟩, ⟨rfl, rfl⟩, ⟨rfl, rfl⟩, trivial⟩ ⟨lesP_toks (by simp [prT]; rfl), trivial⟩
end
section
--KR
attribute [local irreducible] ifB fitP Does Weaker
theorem rNext_len (k : Int) (r : Rw) : (rNext k r).2.l.length ≤ r.l.length := by
 obtain ⟨l, bad⟩ := r
 unfold rNext
 split
 ·exact Nat.le_refl _
 ·cases l with
  | nil => exact Nat.le_refl _
  | cons t q => dsimp only; split <;> simp
theorem rNext_use (k : Int) (r : Rw) (h : (rNext k r).1.n ≠ 0) : (rNext k r).2.l.length + 1 = r.l.length := by
 obtain ⟨l, bad⟩ := r
 unfold rNext at h ⊢
 split at h
 ·exact absurd rfl h
 ·rename_i hb
  rw [if_neg hb]
  cases l with
  | nil => exact absurd rfl h
  | cons t q =>
   dsimp only at h ⊢
   split at h
   ·rename_i hk; rw [if_pos hk]; simp
   ·exact absurd rfl h
theorem rArr_len' (m : Nat) (r : Rw) : (rArr m r).2.l.length ≤ r.l.length := by
 unfold rArr
 split
 ·exact rNext_len 3 r
 ·exact rNext_len 3 r
def rdHd (r : Rw) : Hd × Rw :=
 match rArr 32 r with
 | (au, r2) => match rNext 1 r2 with
  | (n, r3) => match rArr 32 r3 with
   | (id, r4) => match rNext 1 r4 with
    | (s, r5) => (⟨au, n.n, id, decide (s.n = 1)⟩, ⟨r5.l, r5.bad || decide (1 < s.n)⟩)
def frLoop : Nat → Rw → List Hd → List Hd × Rw
 | 0, r, hs => (hs, r)
 | k + 1, r, hs => if r.bad = true then (hs, r) else if (rNext 5 r).1.n ≠ 4 then (hs, ⟨(rNext 5 r).2.l, true⟩) else frLoop k (rdHd (rNext 5 r).2).2 (hs ++ [(rdHd (rNext 5 r).2).1])
theorem frLoop_z (r : Rw) (hs : List Hd) : frLoop 0 r hs = (hs, r) := rfl
theorem frLoop_s (k : Nat) (r : Rw) (hs : List Hd) : frLoop (k + 1) r hs = if r.bad = true then (hs, r) else if (rNext 5 r).1.n ≠ 4 then (hs, ⟨(rNext 5 r).2.l, true⟩) else frLoop k (rdHd (rNext 5 r).2).2 (hs ++ [(rdHd (rNext 5 r).2).1]) := rfl
theorem rdHd_ok {r : Rw} (h : RwOk r) : HdS (rdHd r).1 ∧ RwOk (rdHd r).2 ∧ (rdHd r).2.l.length ≤ r.l.length := by
 unfold rdHd
 have k2 := rArr_rok h 32
 have l2 := rArr_len' 32 r
 generalize rArr 32 r = q at k2 l2 ⊢
 obtain ⟨au, r2⟩ := q
 dsimp only at k2 l2 ⊢
 have k3 := rNext_rok k2.1 1
 have l3 := rNext_len 1 r2
 generalize rNext 1 r2 = q at k3 l3 ⊢
 obtain ⟨n, r3⟩ := q
 dsimp only at k3 l3 ⊢
 have k4 := rArr_rok k3.1 32
 have l4 := rArr_len' 32 r3
 generalize rArr 32 r3 = q at k4 l4 ⊢
 obtain ⟨id, r4⟩ := q
 dsimp only at k4 l4 ⊢
 have k5 := rNext_rok k4.1 1
 have l5 := rNext_len 1 r4
 generalize rNext 1 r4 = q at k5 l5 ⊢
 obtain ⟨s, r5⟩ := q
 dsimp only at k5 l5 ⊢
 exact ⟨⟨k2.2, k3.2.1.2.1, k4.2⟩, k5.1, by omega⟩
def rdFr (r : Rw) : Msg × Rw :=
 match rNext 1 r with
 | (f, r1) => match rNext 1 r1 with
  | (t, r2) => match rNext 5 r2 with
   | (n, r3) => (⟨1, f.n, t.n, (frLoop n.n.toNat r3 []).1, [], []⟩, (frLoop n.n.toNat r3 []).2)
def msgV (k f t : Int) (h p e : AV) : List AV := [.int .i64 k, .int .i64 f, .int .i64 t, h, p, e]
set_option maxHeartbeats 2000000 in
theorem frontier_ok (r : Rw) (hr : RwOk r) (hl : r.l.length ≤ 1000000) : ACall Tryd.prog 52 [.ref (rowC r)] (.agg (msgC (rdFr r).1)) [.ref (rowC (rdFr r).2)] := by
 unfold rdFr
 have h1 := rnum_ok r
 have k1 := rNext_rok hr 1
 have l1 := rNext_len 1 r
 generalize rNext 1 r = q at h1 k1 l1 ⊢
 obtain ⟨f, r1⟩ := q
 dsimp only at h1 k1 l1 ⊢
 have h2 := rnum_ok r1
 have k2 := rNext_rok k1.1 1
 have l2 := rNext_len 1 r1
 generalize rNext 1 r1 = q at h2 k2 l2 ⊢
 obtain ⟨t, r2⟩ := q
 dsimp only at h2 k2 l2 ⊢
 have h3 := rlist_ok r2
 have k3 := rNext_rok k2.1 5
 have l3 := rNext_len 5 r2
 generalize rNext 5 r2 = q at h3 k3 l3 ⊢
 obtain ⟨n, r3⟩ := q
 dsimp only at h3 k3 l3 ⊢
 refine ACall.of_does TTok Tryd.func52 rfl Tryd.call52 rfl (wpc_sound (M := MW) (PL := PL0) (CU := cutAt [100012]) TTok mixed _ _ _ ?_)
 conv => whnf
 repeat ((first | refine ⟨rfl, ?_⟩ | (refine And.intro ?_ ?_; (focus (first | (simp only [pureL, pureV, pureL_bys, Bool.and_true, Bool.and_self]; done) | (simp only [pureL, pureV, pureL_bys, pureL_toks, Bool.and_true, Bool.and_self]; done))))); conv => whnf)
 refine ⟨_, _, h1, by first | rfl | simp [noRoIf, noRoL, noRoV, noRoL_bys], ?_⟩
 conv => whnf
 repeat ((first | refine ⟨rfl, ?_⟩ | (refine And.intro ?_ ?_; (focus (first | (simp only [pureL, pureV, pureL_bys, Bool.and_true, Bool.and_self]; done) | (simp only [pureL, pureV, pureL_bys, pureL_toks, Bool.and_true, Bool.and_self]; done))))); conv => whnf)
 refine ⟨_, _, h2, by first | rfl | simp [noRoIf, noRoL, noRoV, noRoL_bys], ?_⟩
 conv => whnf
 repeat ((first | refine ⟨(⟨by kernel_rfl, by kernel_rfl, Nat.le_of_ble_eq_true (by kernel_rfl)⟩ : AV.ones _ = true ∧ _ ∧ _), ?_⟩ | refine ⟨rfl, ?_⟩ | (refine And.intro ?_ ?_; (focus (first | (simp only [pureL, pureV, pureL_bys, Bool.and_true, Bool.and_self]; done) | (simp only [pureL, pureV, pureL_bys, pureL_toks, Bool.and_true, Bool.and_self]; done))))); conv => whnf)
 refine ⟨_, _, h3, by first | rfl | simp [noRoIf, noRoL, noRoV, noRoL_bys], ?_⟩
 conv => whnf
 refine Does.loop (fun g : Int × Rw × List Hd => mkSt [(0, .ptr 0 0), (2, .ptr 1 0), (3, .ptr 2 0), (4, .int .i64 g.1)] [(0, rowC g.2.1), (1, msgV 0 0 0 .nil .nil .nil), (2, msgV 1 f.n t.n (.sl 3 0 g.2.2.length 66 false) .nil .nil), (3, rowsC hdC g.2.2)] 4 61)
  (fun g => RwOk g.2.1 ∧ g.2.2.length + g.2.1.l.length ≤ 1000000 ∧ (∀ h ∈ g.2.2, HdS h) ∧ (g.1 < 9223372036854775808 ∧ -9223372036854775808 ≤ g.1) ∧ frLoop g.1.toNat g.2.1 g.2.2 = frLoop n.n.toNat r3 []) (fun g => g.1.toNat) ?_ (n.n, r3, []) ⟨k3.1, by simp; omega, fun h hh => absurd hh (List.not_mem_nil), ⟨k3.2.1.2.1.2, k3.2.1.2.1.1⟩, rfl⟩ ?_
 ·rintro ⟨c, r, hs⟩ ⟨i1, i2, i3, i5, i4⟩
  dsimp only at i1 i2 i3 i4 i5 ⊢
  clear h1 h2 h3
  by_cases c1 : c ≤ 0
  ·rw [show c.toNat = 0 by omega] at i4
   rw [frLoop_z] at i4
   rw [← i4]
   refine wpc_sound (M := MW) (PL := PL0) (CU := noCut) TTok mixed _ _ _ ?_
   conv => whnf
   repeat ((first | refine ifB_f ?_ | (refine ifB_neg (decide_eq_false (by first | omega | rfl | (dsimp only; omega))) ?_)); conv => whnf)
   refine Does.freeze 3 rfl (Does.tidy [(2, .ptr 1 0), (3, .ptr 2 0)] [(0, rowC (r)), (1, msgV 0 0 0 .nil .nil .nil), (2, msgV 1 f.n t.n (.ro hs.length (List.take (hs.length * 66) (List.drop 0 (rowsC hdC hs)))) .nil .nil)] 4 61 rfl rfl rfl (by kernel_rfl) (by kernel_rfl) ?_)
   rw [rowsC_whole hdC_length]
   refine wpc_sound (M := MW) (PL := PL0) (CU := noCut) TTok mixed _ _ _ ?_
   conv => whnf
   repeat ((first | refine ⟨(⟨by kernel_rfl, by kernel_rfl, Nat.le_of_ble_eq_true (by kernel_rfl)⟩ : AV.ones _ = true ∧ _ ∧ _), ?_⟩ | refine ⟨rfl, ?_⟩ | refine ⟨_, rfl, ?_⟩ | refine ⟨⟨rfl, rfl⟩, ?_⟩ | (refine ⟨⟨rfl, rfl, ?_⟩, ?_⟩; (focus (first | assumption | exact pureL_bys _ | exact pureL_toks _)))); conv => whnf)
   refine ⟨⟨rfl, rfl, hds_pure _⟩, ?_⟩
   conv => whnf
   repeat ((refine ⟨⟨rfl, rfl⟩, ?_⟩); conv => whnf)
   rfl
  obtain ⟨k, hk⟩ : ∃ k, c.toNat = k + 1 := ⟨c.toNat - 1, by omega⟩
  rw [hk, frLoop_s] at i4
  cases c2 : r.bad
  ·rw [if_neg (by rw [c2]; simp)] at i4
   have h4 := rlist_ok r
   have k4 := rNext_rok i1 5
   have l4 := rNext_len 5 r
   have u4 := rNext_use 5 r
   generalize rNext 5 r = q at h4 k4 l4 u4 i4 ⊢
   obtain ⟨li, ra⟩ := q
   dsimp only at h4 k4 l4 u4 i4 ⊢
   by_cases c3 : li.n ≠ 4
   ·rw [if_pos c3] at i4
    rw [← i4]
    refine wpc_sound (M := MW) (PL := PL0) (CU := noCut) TTok mixed _ _ _ ?_
    conv => whnf
    repeat ((first | refine ifB_t ?_ | (refine ifB_pos (decide_eq_true (by first | omega | rfl | (dsimp only; omega))) ?_) | refine ⟨_, rfl, ?_⟩); conv => whnf)
    refine ifB_pos (by rw [c2]; rfl) ?_
    conv => whnf
    repeat ((first | refine ⟨rfl, ?_⟩ | (refine And.intro ?_ ?_; (focus (first | (simp only [pureL, pureV, pureL_bys, Bool.and_true, Bool.and_self]; done) | (simp only [pureL, pureV, pureL_bys, pureL_toks, Bool.and_true, Bool.and_self]; done))))); conv => whnf)
    refine ⟨_, _, h4, by first | rfl | simp [noRoIf, noRoL, noRoV, noRoL_bys], ?_⟩
    conv => whnf
    repeat ((first | (refine ifB_pos (decide_eq_true (by first | omega | rfl | (dsimp only; omega))) ?_) | refine ⟨(⟨by kernel_rfl, by kernel_rfl, Nat.le_of_ble_eq_true (by kernel_rfl)⟩ : AV.ones _ = true ∧ _ ∧ _), ?_⟩); conv => whnf)
    refine Does.freeze 3 rfl (Does.tidy [(2, .ptr 1 0), (3, .ptr 2 0)] [(0, rowC (⟨ra.l, true⟩)), (1, msgV 0 0 0 .nil .nil .nil), (2, msgV 1 f.n t.n (.ro hs.length (List.take (hs.length * 66) (List.drop 0 (rowsC hdC hs)))) .nil .nil)] 4 61 rfl rfl rfl (by kernel_rfl) (by kernel_rfl) ?_)
    rw [rowsC_whole hdC_length]
    refine wpc_sound (M := MW) (PL := PL0) (CU := noCut) TTok mixed _ _ _ ?_
    conv => whnf
    repeat ((first | refine ⟨(⟨by kernel_rfl, by kernel_rfl, Nat.le_of_ble_eq_true (by kernel_rfl)⟩ : AV.ones _ = true ∧ _ ∧ _), ?_⟩ | refine ⟨rfl, ?_⟩ | refine ⟨_, rfl, ?_⟩ | refine ⟨⟨rfl, rfl⟩, ?_⟩ | (refine ⟨⟨rfl, rfl, ?_⟩, ?_⟩; (focus (first | assumption | exact pureL_bys _ | exact pureL_toks _)))); conv => whnf)
    refine ⟨⟨rfl, rfl, hds_pure _⟩, ?_⟩
    conv => whnf
    repeat ((refine ⟨⟨rfl, rfl⟩, ?_⟩); conv => whnf)
    rfl
   rw [if_neg c3] at i4
   have hd := rdHd_ok k4.1
   refine wpc_sound (M := MW) (PL := PL0) (CU := cutAt [100007, 100008, 100011]) TTok mixed _ _ _ ?_
   conv => whnf
   repeat ((first | refine ifB_t ?_ | (refine ifB_pos (decide_eq_true (by first | omega | rfl | (dsimp only; omega))) ?_) | refine ⟨_, rfl, ?_⟩); conv => whnf)
   refine ifB_pos (by rw [c2]; rfl) ?_
   conv => whnf
   repeat ((first | refine ⟨rfl, ?_⟩ | (refine And.intro ?_ ?_; (focus (first | (simp only [pureL, pureV, pureL_bys, Bool.and_true, Bool.and_self]; done) | (simp only [pureL, pureV, pureL_bys, pureL_toks, Bool.and_true, Bool.and_self]; done))))); conv => whnf)
   refine ⟨_, _, h4, by first | rfl | simp [noRoIf, noRoL, noRoV, noRoL_bys], ?_⟩
   conv => whnf
   repeat ((refine ifB_neg (decide_eq_false (by first | omega | rfl | (dsimp only; omega))) ?_); conv => whnf)
   refine Does.tidy [(0, .ptr 0 0), (2, .ptr 1 0), (3, .ptr 2 0), (4, .int .i64 c)] [(0, rowC ra), (1, msgV 0 0 0 .nil .nil .nil), (2, msgV 1 f.n t.n (.sl 3 0 hs.length 66 false) .nil .nil), (3, rowsC hdC hs)] 4 61 rfl rfl rfl (by kernel_rfl) (by kernel_rfl) ?_
   unfold rdHd at hd i4
   have h5 := rid_ok' ra
   have k5 := rArr_rok k4.1 32
   generalize rArr 32 ra = q at h5 k5 hd i4
   obtain ⟨au, rb⟩ := q
   dsimp only at h5 k5 hd i4
   have h6 := rnum_ok rb
   generalize rNext 1 rb = q at h6 hd i4
   obtain ⟨le, rc⟩ := q
   dsimp only at h6 hd i4
   have h7 := rid_ok' rc
   generalize rArr 32 rc = q at h7 hd i4
   obtain ⟨id, rd⟩ := q
   dsimp only at h7 hd i4
   have h8 := rnum_ok rd
   generalize rNext 1 rd = q at h8 hd i4
   obtain ⟨sh, re⟩ := q
   dsimp only at h8 hd i4
   refine wpc_sound (M := MW) (PL := PL0) (CU := noCut) TTok mixed _ _ _ ?_
   conv => whnf
   repeat ((first | refine ⟨rfl, ?_⟩ | (refine And.intro ?_ ?_; (focus (first | (simp only [pureL, pureV, pureL_bys, Bool.and_true, Bool.and_self]; done) | (simp only [pureL, pureV, pureL_bys, pureL_toks, Bool.and_true, Bool.and_self]; done))))); conv => whnf)
   refine ⟨_, _, h5, by first | rfl | simp [noRoIf, noRoL, noRoV, noRoL_bys], ?_⟩
   conv => whnf
   repeat ((first | refine ⟨rfl, ?_⟩ | (refine And.intro ?_ ?_; (focus (first | (simp only [pureL, pureV, pureL_bys, Bool.and_true, Bool.and_self]; done) | (simp only [pureL, pureV, pureL_bys, pureL_toks, Bool.and_true, Bool.and_self]; done))))); conv => whnf)
   refine ⟨_, _, h6, by first | rfl | simp [noRoIf, noRoL, noRoV, noRoL_bys], ?_⟩
   conv => whnf
   repeat ((first | refine ⟨rfl, ?_⟩ | (refine And.intro ?_ ?_; (focus (first | (simp only [pureL, pureV, pureL_bys, Bool.and_true, Bool.and_self]; done) | (simp only [pureL, pureV, pureL_bys, pureL_toks, Bool.and_true, Bool.and_self]; done))))); conv => whnf)
   refine ⟨_, _, h7, by first | rfl | simp [noRoIf, noRoL, noRoV, noRoL_bys], ?_⟩
   conv => whnf
   repeat ((first | refine ⟨(⟨by kernel_rfl, by kernel_rfl, Nat.le_of_ble_eq_true (by kernel_rfl)⟩ : AV.ones _ = true ∧ _ ∧ _), ?_⟩ | refine ⟨rfl, ?_⟩ | refine ⟨⟨rfl, rfl⟩, ?_⟩); conv => whnf)
   refine Does.tidy [(0, .ptr 0 0), (2, .ptr 1 0), (3, .ptr 2 0), (4, .int .i64 c), (5, .ptr 4 0)] [(0, rowC rd), (1, msgV 0 0 0 .nil .nil .nil), (2, msgV 1 f.n t.n (.sl 3 0 hs.length 66 false) .nil .nil), (3, rowsC hdC hs), (4, hdC ⟨au, le.n, id, false⟩)] 5 61 rfl rfl rfl (by kernel_rfl) (by kernel_rfl) ?_
   clear h4 h5 h6 h7
   refine wpc_sound (M := MW) (PL := PL0) (CU := noCut) TTok mixed _ _ _ ?_
   conv => whnf
   repeat ((first | refine ⟨rfl, ?_⟩ | (refine And.intro ?_ ?_; (focus (first | (simp only [pureL, pureV, pureL_bys, Bool.and_true, Bool.and_self]; done) | (simp only [pureL, pureV, pureL_bys, pureL_toks, Bool.and_true, Bool.and_self]; done))))); conv => whnf)
   refine ⟨_, _, h8, by first | rfl | simp [noRoIf, noRoL, noRoV, noRoL_bys], ?_⟩
   conv => whnf
   repeat ((refine ⟨_, rfl, ?_⟩); conv => whnf)
   obtain ⟨rel, reb⟩ := re
   have lm : (hs ++ [(⟨au, le.n, id, decide (sh.n = 1)⟩ : Hd)]).length = hs.length + 1 := by simp
   cases reb
   ·conv => whnf
    repeat ((first | refine ifB_f ?_ | refine ⟨(⟨by kernel_rfl, by kernel_rfl, Nat.le_of_ble_eq_true (by kernel_rfl)⟩ : AV.ones _ = true ∧ _ ∧ _), ?_⟩); conv => whnf)
    refine Does.tidy [(0, .ptr 0 0), (2, .ptr 1 0), (3, .ptr 2 0), (4, .int .i64 c), (5, .ptr 4 0)] [(0, rowC ⟨rel, false || decide (1 < sh.n)⟩), (1, msgV 0 0 0 .nil .nil .nil), (2, msgV 1 f.n t.n (.sl 3 0 hs.length 66 false) .nil .nil), (3, rowsC hdC hs), (4, hdC ⟨au, le.n, id, decide (sh.n = 1)⟩)] 5 61 rfl rfl rfl (by kernel_rfl) (by kernel_rfl) ?_
    generalize (⟨au, le.n, id, decide (sh.n = 1)⟩ : Hd) = h at hd i4 lm ⊢
    refine wpc_sound (M := MW) (PL := PL0) (CU := noCut) TTok mixed _ _ _ ?_
    conv => whnf
    repeat ((first | (refine Or.inl ⟨⟨rfl, ?_⟩, ?_⟩; (focus (first | rfl | (simp; done) | (rw [toksC_length]; omega)))) | refine ⟨rfl, ?_⟩ | refine ⟨_, rfl, ?_⟩ | refine ⟨⟨rfl, rfl⟩, ?_⟩); conv => whnf)
    refine ⟨⟨rfl, rfl, by rw [hds_len]; omega, by simp [limB]; omega⟩, ?_⟩
    conv => whnf
    repeat ((first | (refine fit_i64 ⟨by first | omega | rfl | (dsimp only; omega), by first | omega | rfl | (dsimp only; omega)⟩ ?_) | refine ⟨(⟨by kernel_rfl, by kernel_rfl, Nat.le_of_ble_eq_true (by kernel_rfl)⟩ : AV.ones _ = true ∧ _ ∧ _), ?_⟩); conv => whnf)
    have u := u4 (by omega)
    refine ⟨(c - 1, ⟨rel, false || decide (1 < sh.n)⟩, hs ++ [h]), ⟨hd.2.1, ?_, ?_, by dsimp only; omega, ?_⟩, by dsimp only; omega, weaker_of [(1, 1), (2, 2), (3, 6)] rfl rfl ⟨⟨rfl, rfl⟩, ⟨rfl, rfl⟩, ⟨rfl, rfl⟩, ⟨rfl, rfl⟩, trivial⟩ ⟨⟨⟨rfl, rfl, pureL_toks _⟩, rfl, trivial⟩, ⟨⟨rfl, rfl⟩, ⟨rfl, rfl⟩, ⟨rfl, rfl⟩, trivial, trivial, trivial, trivial⟩, ⟨⟨rfl, rfl⟩, ⟨rfl, rfl⟩, ⟨rfl, rfl⟩, ⟨rfl, rfl, lm.symm, rfl, fun h => h⟩, trivial, trivial, trivial⟩, ?_, trivial⟩⟩
    ·have := hd.2.2
     dsimp only at this ⊢
     rw [lm]
     omega
    ·intro x hx
     rcases List.mem_append.1 hx with hx | hx
     ·exact i3 x hx
     ·rw [List.mem_singleton] at hx
      rw [hx]
      exact hd.1
    ·rw [← i4]
     dsimp only
     congr 1
     omega
    ·refine rowsC_les hdC_les ?_
     rw [rowsC_append]
     simp only [rowsC, List.append_nil]
     rfl
   ·conv => whnf
    repeat ((first | refine ifB_t ?_ | refine ⟨(⟨by kernel_rfl, by kernel_rfl, Nat.le_of_ble_eq_true (by kernel_rfl)⟩ : AV.ones _ = true ∧ _ ∧ _), ?_⟩); conv => whnf)
    refine Does.tidy [(0, .ptr 0 0), (2, .ptr 1 0), (3, .ptr 2 0), (4, .int .i64 c), (5, .ptr 4 0)] [(0, rowC ⟨rel, true || decide (1 < sh.n)⟩), (1, msgV 0 0 0 .nil .nil .nil), (2, msgV 1 f.n t.n (.sl 3 0 hs.length 66 false) .nil .nil), (3, rowsC hdC hs), (4, hdC ⟨au, le.n, id, decide (sh.n = 1)⟩)] 5 61 rfl rfl rfl (by kernel_rfl) (by kernel_rfl) ?_
    generalize (⟨au, le.n, id, decide (sh.n = 1)⟩ : Hd) = h at hd i4 lm ⊢
    refine wpc_sound (M := MW) (PL := PL0) (CU := noCut) TTok mixed _ _ _ ?_
    conv => whnf
    repeat ((first | (refine Or.inl ⟨⟨rfl, ?_⟩, ?_⟩; (focus (first | rfl | (simp; done) | (rw [toksC_length]; omega)))) | refine ⟨rfl, ?_⟩ | refine ⟨_, rfl, ?_⟩ | refine ⟨⟨rfl, rfl⟩, ?_⟩); conv => whnf)
    refine ⟨⟨rfl, rfl, by rw [hds_len]; omega, by simp [limB]; omega⟩, ?_⟩
    conv => whnf
    repeat ((first | (refine fit_i64 ⟨by first | omega | rfl | (dsimp only; omega), by first | omega | rfl | (dsimp only; omega)⟩ ?_) | refine ⟨(⟨by kernel_rfl, by kernel_rfl, Nat.le_of_ble_eq_true (by kernel_rfl)⟩ : AV.ones _ = true ∧ _ ∧ _), ?_⟩); conv => whnf)
    have u := u4 (by omega)
    refine ⟨(c - 1, ⟨rel, true || decide (1 < sh.n)⟩, hs ++ [h]), ⟨hd.2.1, ?_, ?_, by dsimp only; omega, ?_⟩, by dsimp only; omega, weaker_of [(1, 1), (2, 2), (3, 6)] rfl rfl ⟨⟨rfl, rfl⟩, ⟨rfl, rfl⟩, ⟨rfl, rfl⟩, ⟨rfl, rfl⟩, trivial⟩ ⟨⟨⟨rfl, rfl, pureL_toks _⟩, rfl, trivial⟩, ⟨⟨rfl, rfl⟩, ⟨rfl, rfl⟩, ⟨rfl, rfl⟩, trivial, trivial, trivial, trivial⟩, ⟨⟨rfl, rfl⟩, ⟨rfl, rfl⟩, ⟨rfl, rfl⟩, ⟨rfl, rfl, lm.symm, rfl, fun h => h⟩, trivial, trivial, trivial⟩, ?_, trivial⟩⟩
    ·have := hd.2.2
     dsimp only at this ⊢
     rw [lm]
     omega
    ·intro x hx
     rcases List.mem_append.1 hx with hx | hx
     ·exact i3 x hx
     ·rw [List.mem_singleton] at hx
      rw [hx]
      exact hd.1
    ·rw [← i4]
     dsimp only
     congr 1
     omega
    ·refine rowsC_les hdC_les ?_
     rw [rowsC_append]
     simp only [rowsC, List.append_nil]
     rfl
  ·rw [if_pos c2] at i4
   rw [← i4]
   refine wpc_sound (M := MW) (PL := PL0) (CU := noCut) TTok mixed _ _ _ ?_
   conv => whnf
   repeat ((first | refine ifB_t ?_ | (refine ifB_pos (decide_eq_true (by first | omega | rfl | (dsimp only; omega))) ?_) | refine ⟨_, rfl, ?_⟩); conv => whnf)
   refine ifB_neg (by rw [c2]; rfl) ?_
   conv => whnf
   refine Does.freeze 3 rfl (Does.tidy [(2, .ptr 1 0), (3, .ptr 2 0)] [(0, rowC (r)), (1, msgV 0 0 0 .nil .nil .nil), (2, msgV 1 f.n t.n (.ro hs.length (List.take (hs.length * 66) (List.drop 0 (rowsC hdC hs)))) .nil .nil)] 4 61 rfl rfl rfl (by kernel_rfl) (by kernel_rfl) ?_)
   rw [rowsC_whole hdC_length]
   refine wpc_sound (M := MW) (PL := PL0) (CU := noCut) TTok mixed _ _ _ ?_
   conv => whnf
   repeat ((first | refine ⟨(⟨by kernel_rfl, by kernel_rfl, Nat.le_of_ble_eq_true (by kernel_rfl)⟩ : AV.ones _ = true ∧ _ ∧ _), ?_⟩ | refine ⟨rfl, ?_⟩ | refine ⟨_, rfl, ?_⟩ | refine ⟨⟨rfl, rfl⟩, ?_⟩ | (refine ⟨⟨rfl, rfl, ?_⟩, ?_⟩; (focus (first | assumption | exact pureL_bys _ | exact pureL_toks _)))); conv => whnf)
   refine ⟨⟨rfl, rfl, hds_pure _⟩, ?_⟩
   conv => whnf
   repeat ((refine ⟨⟨rfl, rfl⟩, ?_⟩); conv => whnf)
   rfl
 ·exact weaker_of [(1, 1), (2, 2)] rfl rfl ⟨⟨rfl, rfl⟩, ⟨rfl, rfl⟩, ⟨rfl, rfl⟩, ⟨rfl, rfl⟩, trivial⟩ ⟨⟨⟨rfl, rfl, pureL_toks _⟩, rfl, trivial⟩, ⟨⟨rfl, rfl⟩, ⟨rfl, rfl⟩, ⟨rfl, rfl⟩, trivial, trivial, trivial, trivial⟩, ⟨⟨rfl, rfl⟩, ⟨rfl, rfl⟩, ⟨rfl, rfl⟩, rfl, trivial, trivial, trivial⟩, rfl, trivial⟩
end
section
--KR
attribute [local irreducible] ifB fitP Does Weaker
theorem rNext_good (k : Int) (r : Rw) (h : (rNext k r).2.bad = false) : (rNext k r).2.l.length + 1 = r.l.length := by
 obtain ⟨l, bad⟩ := r
 unfold rNext at h ⊢
 split at h
 ·cases h
 ·rename_i hb
  rw [if_neg hb]
  cases l with
  | nil => cases h
  | cons t q =>
   dsimp only at h ⊢
   split at h
   ·rename_i hk; rw [if_pos hk]; simp
   ·cases h
def anLoop {α : Type} (rd : List Int → α × Int) : Nat → Rw → List α → List α × Rw
 | 0, r, ps => (ps, r)
 | k + 1, r, ps => if r.bad = true then (ps, r) else anLoop rd k ⟨(rNext 3 r).2.l, (rNext 3 r).2.bad || decide ((rd (rNext 3 r).1.b).2 ≠ 0)⟩ (ps ++ [(rd (rNext 3 r).1.b).1])
theorem anLoop_z {α : Type} (rd : List Int → α × Int) (r : Rw) (ps : List α) : anLoop rd 0 r ps = (ps, r) := rfl
theorem anLoop_s {α : Type} (rd : List Int → α × Int) (k : Nat) (r : Rw) (ps : List α) : anLoop rd (k + 1) r ps = if r.bad = true then (ps, r) else anLoop rd k ⟨(rNext 3 r).2.l, (rNext 3 r).2.bad || decide ((rd (rNext 3 r).1.b).2 ≠ 0)⟩ (ps ++ [(rd (rNext 3 r).1.b).1]) := rfl
def AnInv {α : Type} (N : Nat) (ok : α → Prop) (r : Rw) (ps : List α) : Prop := RwOk r ∧ ps.length + r.l.length ≤ N + (if r.bad = true then 1 else 0) ∧ ∀ p ∈ ps, ok p
theorem anInv_next {α : Type} {N : Nat} {ok : α → Prop} {rd : List Int → α × Int} (hrd : ∀ b, Byt b → b.length ≤ 1000000000 → ok (rd b).1) {r : Rw} {ps : List α} (h : AnInv N ok r ps) (hb : r.bad = false) :
  AnInv N ok ⟨(rNext 3 r).2.l, (rNext 3 r).2.bad || decide ((rd (rNext 3 r).1.b).2 ≠ 0)⟩ (ps ++ [(rd (rNext 3 r).1.b).1]) := by
 obtain ⟨h1, h2, h3⟩ := h
 have k := rNext_rok h1 3
 rw [hb] at h2
 refine ⟨k.1, ?_, ?_⟩
 ·have l := rNext_len 3 r
  have g := rNext_good 3 r
  simp only [List.length_append, List.length_singleton]
  simp at h2
  cases hbb : (rNext 3 r).2.bad
  ·have := g hbb
   simp only [Bool.false_or]
   split <;> omega
  ·simp
   omega
 ·intro x hx
  rcases List.mem_append.1 hx with hx | hx
  ·exact h3 x hx
  ·rw [List.mem_singleton] at hx
   rw [hx]
   exact hrd _ k.2.1.2.2 k.2.2
theorem anInv_loop {α : Type} {N : Nat} {ok : α → Prop} {rd : List Int → α × Int} (hrd : ∀ b, Byt b → b.length ≤ 1000000000 → ok (rd b).1) : ∀ (k : Nat) (r : Rw) (ps : List α), AnInv N ok r ps → AnInv N ok (anLoop rd k r ps).2 (anLoop rd k r ps).1
 | 0, r, ps, h => h
 | k + 1, r, ps, h => by
  rw [anLoop_s]
  split
  ·exact h
  ·rename_i hb
   exact anInv_loop hrd k _ _ (anInv_next hrd h (by simpa using hb))
theorem rdP_prfS {r : Rw} (h : RwOk r) : PrfS (rdP r).1 ∧ ((rdP r).2 = 0 → prfR (rdP r).1 = true) := by
 have z : EntS ent0 := by
  have hz : Byt z32 := fun x hx => by simp only [z32, List.mem_replicate] at hx; omega
  have hz' : Byt z64 := fun x hx => by simp only [z64, List.mem_replicate] at hx; omega
  have hn : Byt [] := fun x hx => absurd hx (List.not_mem_nil)
  exact { au := ⟨hz, rfl⟩, seq := by decide, prev := ⟨hz, rfl⟩, stamp := by decide, kind := by decide, key := ⟨hn, by decide⟩, val := ⟨hn, by decide⟩, sig := ⟨hz', rfl⟩, key' := by decide, val' := by decide }
 have k2 := rNext_rok h 3
 unfold rdP
 generalize rNext 3 r = q at k2 ⊢
 obtain ⟨x, r2⟩ := q
 dsimp only at k2 ⊢
 have k3 := rNext_rok k2.1 3
 generalize rNext 3 r2 = q at k3 ⊢
 obtain ⟨y, r3⟩ := q
 dsimp only at k3 ⊢
 split
 ·split
  ·exact ⟨⟨z, z⟩, fun e => by cases e⟩
  ·split
   ·exact ⟨⟨z, z⟩, fun e => by cases e⟩
   ·split
    ·rename_i c
     exact ⟨⟨(rdEnt_entS k2.2.1.2.2 k2.2.2).1, (rdEnt_entS k3.2.1.2.2 k3.2.2).1⟩, fun _ => c⟩
    ·exact ⟨⟨z, z⟩, fun e => by cases e⟩
 ·exact ⟨⟨z, z⟩, fun e => by cases e⟩
theorem rdPrf_prfS {b : List Int} (hb : Byt b) (hl : b.length ≤ 1000000000) : PrfS (rdPrf b).1 ∧ ((rdPrf b).2 = 0 → prfR (rdPrf b).1 = true) := rdP_prfS (rWant_rok (rOpen_rok hb hl) 3 2)
def rdAn (r : Rw) : Msg × Rw :=
 match rNext 1 r with
 | (f, r1) => match rNext 1 r1 with
  | (t, r2) => match rNext 5 r2 with
   | (n, r3) => match anLoop rdPrf n.n.toNat r3 [] with
    | (ps, r4) => match rNext 5 r4 with
     | (k, r5) => (⟨2, f.n, t.n, [], ps, (anLoop rdEnt k.n.toNat r5 []).1⟩, (anLoop rdEnt k.n.toNat r5 []).2)
set_option maxRecDepth 20000 in
set_option maxHeartbeats 4000000 in
theorem answer_ok (r : Rw) (hr : RwOk r) (hl : r.l.length ≤ 1000000) : ACall Tryd.prog 53 [.ref (rowC r)] (.agg (msgC (rdAn r).1)) [.ref (rowC (rdAn r).2)] := by
 unfold rdAn
 have h1 := rnum_ok r
 have k1 := rNext_rok hr 1
 have l1 := rNext_len 1 r
 generalize rNext 1 r = q at h1 k1 l1 ⊢
 obtain ⟨f, r1⟩ := q
 dsimp only at h1 k1 l1 ⊢
 have h2 := rnum_ok r1
 have k2 := rNext_rok k1.1 1
 have l2 := rNext_len 1 r1
 generalize rNext 1 r1 = q at h2 k2 l2 ⊢
 obtain ⟨t, r2⟩ := q
 dsimp only at h2 k2 l2 ⊢
 have h3 := rlist_ok r2
 have k3 := rNext_rok k2.1 5
 have l3 := rNext_len 5 r2
 generalize rNext 5 r2 = q at h3 k3 l3 ⊢
 obtain ⟨n, r3⟩ := q
 dsimp only at h3 k3 l3 ⊢
 refine ACall.of_does TTok Tryd.func53 rfl Tryd.call53 rfl (wpc_sound (M := MW) (PL := PL0) (CU := cutAt [3, 100014]) TTok mixed _ _ _ ?_)
 conv => whnf
 repeat ((first | refine ⟨rfl, ?_⟩ | (refine And.intro ?_ ?_; (focus (first | (simp only [pureL, pureV, pureL_bys, Bool.and_true, Bool.and_self]; done) | (simp only [pureL, pureV, pureL_bys, pureL_toks, Bool.and_true, Bool.and_self]; done))))); conv => whnf)
 refine ⟨_, _, h1, by first | rfl | simp [noRoIf, noRoL, noRoV, noRoL_bys], ?_⟩
 conv => whnf
 repeat ((first | refine ⟨rfl, ?_⟩ | (refine And.intro ?_ ?_; (focus (first | (simp only [pureL, pureV, pureL_bys, Bool.and_true, Bool.and_self]; done) | (simp only [pureL, pureV, pureL_bys, pureL_toks, Bool.and_true, Bool.and_self]; done))))); conv => whnf)
 refine ⟨_, _, h2, by first | rfl | simp [noRoIf, noRoL, noRoV, noRoL_bys], ?_⟩
 conv => whnf
 repeat ((first | refine ⟨(⟨by kernel_rfl, by kernel_rfl, Nat.le_of_ble_eq_true (by kernel_rfl)⟩ : AV.ones _ = true ∧ _ ∧ _), ?_⟩ | refine ⟨rfl, ?_⟩); conv => whnf)
 clear h1 h2
 have l3' : r3.l.length ≤ 1000000 := by omega
 refine Does.seqCut (fun g : Rw × List Prf => mkSt [(0, .ptr 0 0), (2, .ptr 1 0), (3, .ptr 2 0)] [(0, rowC g.1), (1, msgV 0 0 0 .nil .nil .nil), (2, msgV 2 f.n t.n .nil (.sl 3 0 g.2.length 266 false) .nil), (3, rowsC prfC g.2)] 4 88) (fun g => ((g.2, g.1) : List Prf × Rw) = anLoop rdPrf n.n.toNat r3 []) ?_ ?_
 ·refine wpc_sound (M := MW) (PL := PL0) (CU := noCut) TTok mixed _ _ _ ?_
  conv => whnf
  repeat ((first | refine ⟨rfl, ?_⟩ | (refine And.intro ?_ ?_; (focus (first | (simp only [pureL, pureV, pureL_bys, Bool.and_true, Bool.and_self]; done) | (simp only [pureL, pureV, pureL_bys, pureL_toks, Bool.and_true, Bool.and_self]; done))))); conv => whnf)
  refine ⟨_, _, h3, by first | rfl | simp [noRoIf, noRoL, noRoV, noRoL_bys], ?_⟩
  conv => whnf
  refine Does.loop (fun g : Int × Rw × List Prf => mkSt [(0, .ptr 0 0), (2, .ptr 1 0), (3, .ptr 2 0), (4, .int .i64 g.1)] [(0, rowC g.2.1), (1, msgV 0 0 0 .nil .nil .nil), (2, msgV 2 f.n t.n .nil (.sl 3 0 g.2.2.length 266 false) .nil), (3, rowsC prfC g.2.2)] 4 88)
   (fun g => AnInv 1000000 PrfS g.2.1 g.2.2 ∧ (g.1 < 9223372036854775808 ∧ -9223372036854775808 ≤ g.1) ∧ anLoop rdPrf g.1.toNat g.2.1 g.2.2 = anLoop rdPrf n.n.toNat r3 []) (fun g => g.1.toNat) ?_ (n.n, r3, []) ⟨⟨k3.1, by simp; omega, fun h hh => absurd hh (List.not_mem_nil)⟩, ⟨k3.2.1.2.1.2, k3.2.1.2.1.1⟩, rfl⟩ ?_
  ·rintro ⟨c, r, ps⟩ ⟨i1, i5, i4⟩
   dsimp only at i1 i4 i5 ⊢
   by_cases c1 : c ≤ 0
   ·rw [show c.toNat = 0 by omega, anLoop_z] at i4
    rw [← i4]
    refine wpc_sound (M := MW) (PL := PL0) (CU := noCut) TTok mixed _ _ _ ?_
    conv => whnf
    repeat ((first | refine ifB_f ?_ | (refine ifB_neg (decide_eq_false (by first | omega | rfl | (dsimp only; omega))) ?_)); conv => whnf)
    exact ⟨(r, ps), by rw [i4], Weaker.tidy _ _ _ _ rfl rfl rfl (by kernel_rfl) (by kernel_rfl)⟩
   obtain ⟨k, hk⟩ : ∃ k, c.toNat = k + 1 := ⟨c.toNat - 1, by omega⟩
   rw [hk, anLoop_s] at i4
   cases c2 : r.bad
   ·rw [if_neg (by rw [c2]; simp)] at i4
    have nx := anInv_next (rd := rdPrf) (fun b hb hl => (rdPrf_prfS hb hl).1) i1 c2
    have i2 := i1.2.1
    rw [c2] at i2
    simp only [Bool.false_eq_true, if_false, Nat.add_zero] at i2
    have h4 := rstr_ok r
    have k4 := rNext_rok i1.1 3
    have h5 := pread_ok _ k4.2.1.2.2 k4.2.2
    generalize rNext 3 r = q at h4 h5 nx i4
    obtain ⟨st, ra⟩ := q
    dsimp only at h4 h5 nx i4
    generalize rdPrf st.b = q at h5 nx i4
    obtain ⟨p, er⟩ := q
    dsimp only at h5 nx i4
    have lm : (ps ++ [p]).length = ps.length + 1 := by simp
    refine wpc_sound (M := MW) (PL := PL0) (CU := cutAt [100006, 100007]) TTok mixed _ _ _ ?_
    conv => whnf
    repeat ((first | refine ifB_t ?_ | (refine ifB_pos (decide_eq_true (by first | omega | rfl | (dsimp only; omega))) ?_) | refine ⟨_, rfl, ?_⟩); conv => whnf)
    refine ifB_pos (by rw [c2]; rfl) ?_
    conv => whnf
    repeat ((first | refine ⟨rfl, ?_⟩ | (refine And.intro ?_ ?_; (focus (first | (simp only [pureL, pureV, pureL_bys, Bool.and_true, Bool.and_self]; done) | (simp only [pureL, pureV, pureL_bys, pureL_toks, Bool.and_true, Bool.and_self]; done))))); conv => whnf)
    refine ⟨_, _, h4, by first | rfl | simp [noRoIf, noRoL, noRoV, noRoL_bys], ?_⟩
    conv => whnf
    repeat ((first | refine ⟨pureL_bys _, ?_⟩ | refine ⟨rfl, ?_⟩); conv => whnf)
    refine ⟨_, _, h5, by first | rfl | simp [noRoIf, noRoL, noRoV, noRoL_bys], ?_⟩
    conv => whnf
    repeat ((first | refine ⟨(⟨by kernel_rfl, by kernel_rfl, Nat.le_of_ble_eq_true (by kernel_rfl)⟩ : AV.ones _ = true ∧ _ ∧ _), ?_⟩ | refine ⟨rfl, ?_⟩); conv => whnf)
    refine Does.tidy [(0, .ptr 0 0), (2, .ptr 1 0), (3, .ptr 2 0), (4, .int .i64 c), (5, .ptr 4 0), (6, .int .i64 er)] [(0, rowC ra), (1, msgV 0 0 0 .nil .nil .nil), (2, msgV 2 f.n t.n .nil (.sl 3 0 ps.length 266 false) .nil), (3, rowsC prfC ps), (4, prfC p)] 5 88 rfl rfl rfl (by kernel_rfl) (by kernel_rfl) ?_
    clear h4 h5
    refine wpc_sound (M := MW) (PL := PL0) (CU := noCut) TTok mixed _ _ _ ?_
    obtain ⟨ral, rab⟩ := ra
    cases rab
    ·conv => whnf
     repeat ((first | refine ifB_f ?_ | refine ⟨(⟨by kernel_rfl, by kernel_rfl, Nat.le_of_ble_eq_true (by kernel_rfl)⟩ : AV.ones _ = true ∧ _ ∧ _), ?_⟩ | refine ⟨_, rfl, ?_⟩); conv => whnf)
     refine Does.tidy [(0, .ptr 0 0), (2, .ptr 1 0), (3, .ptr 2 0), (4, .int .i64 c), (5, .ptr 4 0)] [(0, rowC ⟨ral, false || decide (er ≠ 0)⟩), (1, msgV 0 0 0 .nil .nil .nil), (2, msgV 2 f.n t.n .nil (.sl 3 0 ps.length 266 false) .nil), (3, rowsC prfC ps), (4, prfC p)] 5 88 rfl rfl rfl (by kernel_rfl) (by kernel_rfl) ?_
     refine wpc_sound (M := MW) (PL := PL0) (CU := noCut) TTok mixed _ _ _ ?_
     conv => whnf
     repeat ((first | (refine Or.inl ⟨⟨rfl, ?_⟩, ?_⟩; (focus (first | rfl | (simp; done) | (rw [toksC_length]; omega)))) | refine ⟨rfl, ?_⟩ | refine ⟨_, rfl, ?_⟩ | refine ⟨⟨rfl, rfl⟩, ?_⟩); conv => whnf)
     refine ⟨⟨rfl, rfl, by rw [prfs_len]; omega, by simp [limB]; omega⟩, ?_⟩
     conv => whnf
     repeat ((first | (refine fit_i64 ⟨by first | omega | rfl | (dsimp only; omega), by first | omega | rfl | (dsimp only; omega)⟩ ?_) | refine ⟨(⟨by kernel_rfl, by kernel_rfl, Nat.le_of_ble_eq_true (by kernel_rfl)⟩ : AV.ones _ = true ∧ _ ∧ _), ?_⟩); conv => whnf)
     refine ⟨(c - 1, ⟨ral, false || decide (er ≠ 0)⟩, ps ++ [p]), ⟨nx, by dsimp only; omega, ?_⟩, by dsimp only; omega, weaker_of [(1, 1), (2, 2), (3, 6)] rfl rfl ⟨⟨rfl, rfl⟩, ⟨rfl, rfl⟩, ⟨rfl, rfl⟩, ⟨rfl, rfl⟩, trivial⟩ ⟨⟨⟨rfl, rfl, pureL_toks _⟩, rfl, trivial⟩, ⟨⟨rfl, rfl⟩, ⟨rfl, rfl⟩, ⟨rfl, rfl⟩, trivial, trivial, trivial, trivial⟩, ⟨⟨rfl, rfl⟩, ⟨rfl, rfl⟩, ⟨rfl, rfl⟩, trivial, ⟨rfl, rfl, lm.symm, rfl, fun h => h⟩, trivial, trivial⟩, ?_, trivial⟩⟩
     ·rw [← i4]
      dsimp only
      congr 1
      omega
     ·refine rowsC_les prfC_les ?_
      rw [rowsC_append]
      simp only [rowsC, List.append_nil]
      rfl
    ·conv => whnf
     repeat ((first | refine ifB_t ?_ | refine ⟨(⟨by kernel_rfl, by kernel_rfl, Nat.le_of_ble_eq_true (by kernel_rfl)⟩ : AV.ones _ = true ∧ _ ∧ _), ?_⟩ | refine ⟨_, rfl, ?_⟩); conv => whnf)
     refine Does.tidy [(0, .ptr 0 0), (2, .ptr 1 0), (3, .ptr 2 0), (4, .int .i64 c), (5, .ptr 4 0)] [(0, rowC ⟨ral, true || decide (er ≠ 0)⟩), (1, msgV 0 0 0 .nil .nil .nil), (2, msgV 2 f.n t.n .nil (.sl 3 0 ps.length 266 false) .nil), (3, rowsC prfC ps), (4, prfC p)] 5 88 rfl rfl rfl (by kernel_rfl) (by kernel_rfl) ?_
     refine wpc_sound (M := MW) (PL := PL0) (CU := noCut) TTok mixed _ _ _ ?_
     conv => whnf
     repeat ((first | (refine Or.inl ⟨⟨rfl, ?_⟩, ?_⟩; (focus (first | rfl | (simp; done) | (rw [toksC_length]; omega)))) | refine ⟨rfl, ?_⟩ | refine ⟨_, rfl, ?_⟩ | refine ⟨⟨rfl, rfl⟩, ?_⟩); conv => whnf)
     refine ⟨⟨rfl, rfl, by rw [prfs_len]; omega, by simp [limB]; omega⟩, ?_⟩
     conv => whnf
     repeat ((first | (refine fit_i64 ⟨by first | omega | rfl | (dsimp only; omega), by first | omega | rfl | (dsimp only; omega)⟩ ?_) | refine ⟨(⟨by kernel_rfl, by kernel_rfl, Nat.le_of_ble_eq_true (by kernel_rfl)⟩ : AV.ones _ = true ∧ _ ∧ _), ?_⟩); conv => whnf)
     refine ⟨(c - 1, ⟨ral, true || decide (er ≠ 0)⟩, ps ++ [p]), ⟨nx, by dsimp only; omega, ?_⟩, by dsimp only; omega, weaker_of [(1, 1), (2, 2), (3, 6)] rfl rfl ⟨⟨rfl, rfl⟩, ⟨rfl, rfl⟩, ⟨rfl, rfl⟩, ⟨rfl, rfl⟩, trivial⟩ ⟨⟨⟨rfl, rfl, pureL_toks _⟩, rfl, trivial⟩, ⟨⟨rfl, rfl⟩, ⟨rfl, rfl⟩, ⟨rfl, rfl⟩, trivial, trivial, trivial, trivial⟩, ⟨⟨rfl, rfl⟩, ⟨rfl, rfl⟩, ⟨rfl, rfl⟩, trivial, ⟨rfl, rfl, lm.symm, rfl, fun h => h⟩, trivial, trivial⟩, ?_, trivial⟩⟩
     ·rw [← i4]
      dsimp only
      congr 1
      omega
     ·refine rowsC_les prfC_les ?_
      rw [rowsC_append]
      simp only [rowsC, List.append_nil]
      rfl
   ·rw [if_pos c2] at i4
    rw [← i4]
    refine wpc_sound (M := MW) (PL := PL0) (CU := noCut) TTok mixed _ _ _ ?_
    conv => whnf
    repeat ((first | refine ifB_t ?_ | (refine ifB_pos (decide_eq_true (by first | omega | rfl | (dsimp only; omega))) ?_) | refine ⟨_, rfl, ?_⟩); conv => whnf)
    refine ifB_neg (by rw [c2]; rfl) ?_
    conv => whnf
    exact ⟨(r, ps), by rw [i4], Weaker.tidy _ _ _ _ rfl rfl rfl (by kernel_rfl) (by kernel_rfl)⟩
  ·exact weaker_of [(1, 1), (2, 2)] rfl rfl ⟨⟨rfl, rfl⟩, ⟨rfl, rfl⟩, ⟨rfl, rfl⟩, ⟨rfl, rfl⟩, trivial⟩ ⟨⟨⟨rfl, rfl, pureL_toks _⟩, rfl, trivial⟩, ⟨⟨rfl, rfl⟩, ⟨rfl, rfl⟩, ⟨rfl, rfl⟩, trivial, trivial, trivial, trivial⟩, ⟨⟨rfl, rfl⟩, ⟨rfl, rfl⟩, ⟨rfl, rfl⟩, trivial, rfl, trivial, trivial⟩, rfl, trivial⟩
 ·rintro ⟨r4, zs⟩ hg
  dsimp only at hg ⊢
  have inv := anInv_loop (N := 1000000) (rd := rdPrf) (ok := PrfS) (fun b hb hl => (rdPrf_prfS hb hl).1) n.n.toNat r3 [] ⟨k3.1, by simp; omega, fun h hh => absurd hh (List.not_mem_nil)⟩
  rw [← hg] at inv ⊢
  dsimp only at inv ⊢
  have j4 := rlist_ok r4
  have k5 := rNext_rok inv.1 5
  have l5 := rNext_len 5 r4
  have inv2 := inv.2.1
  have l4 : r4.l.length ≤ 1000001 := by split at inv2 <;> omega
  generalize rNext 5 r4 = q at j4 k5 l5 ⊢
  obtain ⟨n2, r5⟩ := q
  dsimp only at j4 k5 l5 ⊢
  refine wpc_sound (M := MW) (PL := PL0) (CU := cutAt [100014]) TTok mixed _ _ _ ?_
  conv => whnf
  repeat ((first | refine ⟨rfl, ?_⟩ | (refine And.intro ?_ ?_; (focus (first | (simp only [pureL, pureV, pureL_bys, Bool.and_true, Bool.and_self]; done) | (simp only [pureL, pureV, pureL_bys, pureL_toks, Bool.and_true, Bool.and_self]; done))))); conv => whnf)
  refine ⟨_, _, j4, by first | rfl | simp [noRoIf, noRoL, noRoV, noRoL_bys], ?_⟩
  conv => whnf
  refine Does.loop (fun g : Int × Rw × List Ent => mkSt [(0, .ptr 0 0), (2, .ptr 1 0), (3, .ptr 2 0), (7, .int .i64 g.1)] [(0, rowC g.2.1), (1, msgV 0 0 0 .nil .nil .nil), (2, msgV 2 f.n t.n .nil (.sl 3 0 zs.length 266 false) (.sl 4 0 g.2.2.length 133 false)), (3, rowsC prfC zs), (4, rowsC entC g.2.2)] 5 88)
   (fun g => AnInv 1000001 EntS g.2.1 g.2.2 ∧ (g.1 < 9223372036854775808 ∧ -9223372036854775808 ≤ g.1) ∧ anLoop rdEnt g.1.toNat g.2.1 g.2.2 = anLoop rdEnt n2.n.toNat r5 []) (fun g => g.1.toNat) ?_ (n2.n, r5, []) ⟨⟨k5.1, by simp; omega, fun h hh => absurd hh (List.not_mem_nil)⟩, ⟨k5.2.1.2.1.2, k5.2.1.2.1.1⟩, rfl⟩ ?_
  ·rintro ⟨c, r, ps⟩ ⟨i1, i5, i4⟩
   dsimp only at i1 i4 i5 ⊢
   by_cases c1 : c ≤ 0
   ·rw [show c.toNat = 0 by omega, anLoop_z] at i4
    rw [← i4]
    refine wpc_sound (M := MW) (PL := PL0) (CU := noCut) TTok mixed _ _ _ ?_
    conv => whnf
    repeat ((first | refine ifB_f ?_ | (refine ifB_neg (decide_eq_false (by first | omega | rfl | (dsimp only; omega))) ?_)); conv => whnf)
    refine Does.freeze 4 rfl (Does.freeze 3 (zs := rowsC prfC zs) (by show some (frzL 4 _ (rowsC prfC zs)) = _; rw [rowsC_frz (fun x => prfC_frz _ _ x)]) (Does.tidy [(2, .ptr 1 0), (3, .ptr 2 0)] [(0, rowC r), (1, msgV 0 0 0 .nil .nil .nil), (2, msgV 2 f.n t.n .nil (.ro zs.length (List.take (zs.length * 266) (List.drop 0 (rowsC prfC zs)))) (.ro ps.length (List.take (ps.length * 133) (List.drop 0 (rowsC entC ps)))))] 5 88 rfl rfl rfl (by kernel_rfl) (by kernel_rfl) ?_))
    rw [rowsC_whole prfC_length, rowsC_whole entC_length]
    refine wpc_sound (M := MW) (PL := PL0) (CU := noCut) TTok mixed _ _ _ ?_
    conv => whnf
    repeat ((first | refine ⟨(⟨by kernel_rfl, by kernel_rfl, Nat.le_of_ble_eq_true (by kernel_rfl)⟩ : AV.ones _ = true ∧ _ ∧ _), ?_⟩ | refine ⟨rfl, ?_⟩ | refine ⟨_, rfl, ?_⟩ | refine ⟨⟨rfl, rfl⟩, ?_⟩ | (refine ⟨⟨rfl, rfl, ?_⟩, ?_⟩; (focus (first | assumption | exact pureL_bys _ | exact pureL_toks _)))); conv => whnf)
    refine ⟨⟨rfl, rfl, prfs_pure _⟩, ?_⟩
    conv => whnf
    refine ⟨⟨rfl, rfl, ents_pure _⟩, ?_⟩
    conv => whnf
    rfl
   obtain ⟨k, hk⟩ : ∃ k, c.toNat = k + 1 := ⟨c.toNat - 1, by omega⟩
   rw [hk, anLoop_s] at i4
   cases c2 : r.bad
   ·rw [if_neg (by rw [c2]; simp)] at i4
    have nx := anInv_next (rd := rdEnt) (fun b hb hl => (rdEnt_entS hb hl).1) i1 c2
    have i2 := i1.2.1
    rw [c2] at i2
    simp only [Bool.false_eq_true, if_false, Nat.add_zero] at i2
    have h4 := rstr_ok r
    have k4 := rNext_rok i1.1 3
    have h5 := eread_ok _ k4.2.1.2.2 k4.2.2
    generalize rNext 3 r = q at h4 h5 nx i4
    obtain ⟨st, ra⟩ := q
    dsimp only at h4 h5 nx i4
    generalize rdEnt st.b = q at h5 nx i4
    obtain ⟨p, er⟩ := q
    dsimp only at h5 nx i4
    have lm : (ps ++ [p]).length = ps.length + 1 := by simp
    refine wpc_sound (M := MW) (PL := PL0) (CU := cutAt [100012, 100013]) TTok mixed _ _ _ ?_
    conv => whnf
    repeat ((first | refine ifB_t ?_ | (refine ifB_pos (decide_eq_true (by first | omega | rfl | (dsimp only; omega))) ?_) | refine ⟨_, rfl, ?_⟩); conv => whnf)
    refine ifB_pos (by rw [c2]; rfl) ?_
    conv => whnf
    repeat ((first | refine ⟨rfl, ?_⟩ | (refine And.intro ?_ ?_; (focus (first | (simp only [pureL, pureV, pureL_bys, Bool.and_true, Bool.and_self]; done) | (simp only [pureL, pureV, pureL_bys, pureL_toks, Bool.and_true, Bool.and_self]; done))))); conv => whnf)
    refine ⟨_, _, h4, by first | rfl | simp [noRoIf, noRoL, noRoV, noRoL_bys], ?_⟩
    conv => whnf
    repeat ((first | refine ⟨pureL_bys _, ?_⟩ | refine ⟨rfl, ?_⟩); conv => whnf)
    refine ⟨_, _, h5, by first | rfl | simp [noRoIf, noRoL, noRoV, noRoL_bys], ?_⟩
    conv => whnf
    repeat ((first | refine ⟨(⟨by kernel_rfl, by kernel_rfl, Nat.le_of_ble_eq_true (by kernel_rfl)⟩ : AV.ones _ = true ∧ _ ∧ _), ?_⟩ | refine ⟨rfl, ?_⟩); conv => whnf)
    refine Does.tidy [(0, .ptr 0 0), (2, .ptr 1 0), (3, .ptr 2 0), (7, .int .i64 c), (8, .ptr 5 0), (9, .int .i64 er)] [(0, rowC ra), (1, msgV 0 0 0 .nil .nil .nil), (2, msgV 2 f.n t.n .nil (.sl 3 0 zs.length 266 false) (.sl 4 0 ps.length 133 false)), (3, rowsC prfC zs), (4, rowsC entC ps), (5, entC p)] 6 88 rfl rfl rfl (by kernel_rfl) (by kernel_rfl) ?_
    clear h4 h5
    refine wpc_sound (M := MW) (PL := PL0) (CU := noCut) TTok mixed _ _ _ ?_
    obtain ⟨ral, rab⟩ := ra
    cases rab
    ·conv => whnf
     repeat ((first | refine ifB_f ?_ | refine ⟨(⟨by kernel_rfl, by kernel_rfl, Nat.le_of_ble_eq_true (by kernel_rfl)⟩ : AV.ones _ = true ∧ _ ∧ _), ?_⟩ | refine ⟨_, rfl, ?_⟩); conv => whnf)
     refine Does.tidy [(0, .ptr 0 0), (2, .ptr 1 0), (3, .ptr 2 0), (7, .int .i64 c), (8, .ptr 5 0)] [(0, rowC ⟨ral, false || decide (er ≠ 0)⟩), (1, msgV 0 0 0 .nil .nil .nil), (2, msgV 2 f.n t.n .nil (.sl 3 0 zs.length 266 false) (.sl 4 0 ps.length 133 false)), (3, rowsC prfC zs), (4, rowsC entC ps), (5, entC p)] 6 88 rfl rfl rfl (by kernel_rfl) (by kernel_rfl) ?_
     refine wpc_sound (M := MW) (PL := PL0) (CU := noCut) TTok mixed _ _ _ ?_
     conv => whnf
     repeat ((first | (refine Or.inl ⟨⟨rfl, ?_⟩, ?_⟩; (focus (first | rfl | (simp; done) | (rw [toksC_length]; omega)))) | refine ⟨rfl, ?_⟩ | refine ⟨_, rfl, ?_⟩ | refine ⟨⟨rfl, rfl⟩, ?_⟩); conv => whnf)
     refine ⟨⟨rfl, rfl, by rw [ents_len]; omega, by simp [limB]; omega⟩, ?_⟩
     conv => whnf
     repeat ((first | (refine fit_i64 ⟨by first | omega | rfl | (dsimp only; omega), by first | omega | rfl | (dsimp only; omega)⟩ ?_) | refine ⟨(⟨by kernel_rfl, by kernel_rfl, Nat.le_of_ble_eq_true (by kernel_rfl)⟩ : AV.ones _ = true ∧ _ ∧ _), ?_⟩); conv => whnf)
     refine ⟨(c - 1, ⟨ral, false || decide (er ≠ 0)⟩, ps ++ [p]), ⟨nx, by dsimp only; omega, ?_⟩, by dsimp only; omega, weaker_of [(1, 1), (2, 2), (3, 3), (4, 7)] rfl rfl ⟨⟨rfl, rfl⟩, ⟨rfl, rfl⟩, ⟨rfl, rfl⟩, ⟨rfl, rfl⟩, trivial⟩ ⟨⟨⟨rfl, rfl, pureL_toks _⟩, rfl, trivial⟩, ⟨⟨rfl, rfl⟩, ⟨rfl, rfl⟩, ⟨rfl, rfl⟩, trivial, trivial, trivial, trivial⟩, ⟨⟨rfl, rfl⟩, ⟨rfl, rfl⟩, ⟨rfl, rfl⟩, trivial, ⟨rfl, rfl, rfl, rfl, fun h => h⟩, ⟨rfl, rfl, lm.symm, rfl, fun h => h⟩, trivial⟩, rowsC_les prfC_les rfl, ?_, trivial⟩⟩
     ·rw [← i4]
      dsimp only
      congr 1
      omega
     ·refine rowsC_les entC_les ?_
      rw [rowsC_append]
      simp only [rowsC, List.append_nil]
      rfl
    ·conv => whnf
     repeat ((first | refine ifB_t ?_ | refine ⟨(⟨by kernel_rfl, by kernel_rfl, Nat.le_of_ble_eq_true (by kernel_rfl)⟩ : AV.ones _ = true ∧ _ ∧ _), ?_⟩ | refine ⟨_, rfl, ?_⟩); conv => whnf)
     refine Does.tidy [(0, .ptr 0 0), (2, .ptr 1 0), (3, .ptr 2 0), (7, .int .i64 c), (8, .ptr 5 0)] [(0, rowC ⟨ral, true || decide (er ≠ 0)⟩), (1, msgV 0 0 0 .nil .nil .nil), (2, msgV 2 f.n t.n .nil (.sl 3 0 zs.length 266 false) (.sl 4 0 ps.length 133 false)), (3, rowsC prfC zs), (4, rowsC entC ps), (5, entC p)] 6 88 rfl rfl rfl (by kernel_rfl) (by kernel_rfl) ?_
     refine wpc_sound (M := MW) (PL := PL0) (CU := noCut) TTok mixed _ _ _ ?_
     conv => whnf
     repeat ((first | (refine Or.inl ⟨⟨rfl, ?_⟩, ?_⟩; (focus (first | rfl | (simp; done) | (rw [toksC_length]; omega)))) | refine ⟨rfl, ?_⟩ | refine ⟨_, rfl, ?_⟩ | refine ⟨⟨rfl, rfl⟩, ?_⟩); conv => whnf)
     refine ⟨⟨rfl, rfl, by rw [ents_len]; omega, by simp [limB]; omega⟩, ?_⟩
     conv => whnf
     repeat ((first | (refine fit_i64 ⟨by first | omega | rfl | (dsimp only; omega), by first | omega | rfl | (dsimp only; omega)⟩ ?_) | refine ⟨(⟨by kernel_rfl, by kernel_rfl, Nat.le_of_ble_eq_true (by kernel_rfl)⟩ : AV.ones _ = true ∧ _ ∧ _), ?_⟩); conv => whnf)
     refine ⟨(c - 1, ⟨ral, true || decide (er ≠ 0)⟩, ps ++ [p]), ⟨nx, by dsimp only; omega, ?_⟩, by dsimp only; omega, weaker_of [(1, 1), (2, 2), (3, 3), (4, 7)] rfl rfl ⟨⟨rfl, rfl⟩, ⟨rfl, rfl⟩, ⟨rfl, rfl⟩, ⟨rfl, rfl⟩, trivial⟩ ⟨⟨⟨rfl, rfl, pureL_toks _⟩, rfl, trivial⟩, ⟨⟨rfl, rfl⟩, ⟨rfl, rfl⟩, ⟨rfl, rfl⟩, trivial, trivial, trivial, trivial⟩, ⟨⟨rfl, rfl⟩, ⟨rfl, rfl⟩, ⟨rfl, rfl⟩, trivial, ⟨rfl, rfl, rfl, rfl, fun h => h⟩, ⟨rfl, rfl, lm.symm, rfl, fun h => h⟩, trivial⟩, rowsC_les prfC_les rfl, ?_, trivial⟩⟩
     ·rw [← i4]
      dsimp only
      congr 1
      omega
     ·refine rowsC_les entC_les ?_
      rw [rowsC_append]
      simp only [rowsC, List.append_nil]
      rfl
   ·rw [if_pos c2] at i4
    rw [← i4]
    refine wpc_sound (M := MW) (PL := PL0) (CU := noCut) TTok mixed _ _ _ ?_
    conv => whnf
    repeat ((first | refine ifB_t ?_ | (refine ifB_pos (decide_eq_true (by first | omega | rfl | (dsimp only; omega))) ?_) | refine ⟨_, rfl, ?_⟩); conv => whnf)
    refine ifB_neg (by rw [c2]; rfl) ?_
    conv => whnf
    refine Does.freeze 4 rfl (Does.freeze 3 (zs := rowsC prfC zs) (by show some (frzL 4 _ (rowsC prfC zs)) = _; rw [rowsC_frz (fun x => prfC_frz _ _ x)]) (Does.tidy [(2, .ptr 1 0), (3, .ptr 2 0)] [(0, rowC r), (1, msgV 0 0 0 .nil .nil .nil), (2, msgV 2 f.n t.n .nil (.ro zs.length (List.take (zs.length * 266) (List.drop 0 (rowsC prfC zs)))) (.ro ps.length (List.take (ps.length * 133) (List.drop 0 (rowsC entC ps)))))] 5 88 rfl rfl rfl (by kernel_rfl) (by kernel_rfl) ?_))
    rw [rowsC_whole prfC_length, rowsC_whole entC_length]
    refine wpc_sound (M := MW) (PL := PL0) (CU := noCut) TTok mixed _ _ _ ?_
    conv => whnf
    repeat ((first | refine ⟨(⟨by kernel_rfl, by kernel_rfl, Nat.le_of_ble_eq_true (by kernel_rfl)⟩ : AV.ones _ = true ∧ _ ∧ _), ?_⟩ | refine ⟨rfl, ?_⟩ | refine ⟨_, rfl, ?_⟩ | refine ⟨⟨rfl, rfl⟩, ?_⟩ | (refine ⟨⟨rfl, rfl, ?_⟩, ?_⟩; (focus (first | assumption | exact pureL_bys _ | exact pureL_toks _)))); conv => whnf)
    refine ⟨⟨rfl, rfl, prfs_pure _⟩, ?_⟩
    conv => whnf
    refine ⟨⟨rfl, rfl, ents_pure _⟩, ?_⟩
    conv => whnf
    rfl
  ·exact weaker_of [(1, 1), (2, 2), (3, 3)] rfl rfl ⟨⟨rfl, rfl⟩, ⟨rfl, rfl⟩, ⟨rfl, rfl⟩, ⟨rfl, rfl⟩, trivial⟩ ⟨⟨⟨rfl, rfl, pureL_toks _⟩, rfl, trivial⟩, ⟨⟨rfl, rfl⟩, ⟨rfl, rfl⟩, ⟨rfl, rfl⟩, trivial, trivial, trivial, trivial⟩, ⟨⟨rfl, rfl⟩, ⟨rfl, rfl⟩, ⟨rfl, rfl⟩, trivial, ⟨rfl, rfl, rfl, rfl, fun h => h⟩, rfl, trivial⟩, rowsC_les prfC_les rfl, rfl, trivial⟩
end
section
--KR
attribute [local irreducible] ifB fitP Does Weaker
def msg0 : Msg := ⟨0, 0, 0, [], [], []⟩
def rdFin (q : Msg × Rw) : Msg × Int := if (!q.2.bad && decide (q.2.l = [])) = true then (if msgR q.1 = true then (q.1, 0) else (msg0, 3)) else (msg0, 3)
def rdM (r : Rw) : Msg × Int :=
 match rNext 5 r with
 | (li, r1) => match rNext 1 r1 with
  | (mk, r2) => if li.n = 4 ∧ mk.n = 3 then rdFin (rdFr r2) else if li.n = 5 ∧ mk.n = 4 then rdFin (rdAn r2) else (msg0, 3)
def rdMsg (b : List Int) : Msg × Int := rdM (rOpen b)
theorem rOpen_len (b : List Int) : (rOpen b).l.length ≤ 600 := by
 unfold rOpen
 rcases decR_or validR b with h | ⟨l, h, he, _⟩
 ·rw [h]; simp
 ·rw [h]; exact (encR_yes he).1
theorem frLoop_inv {N : Nat} : ∀ (k : Nat) (r : Rw) (hs : List Hd), RwOk r → hs.length + r.l.length ≤ N → (∀ h ∈ hs, HdS h) → RwOk (frLoop k r hs).2 ∧ (frLoop k r hs).1.length + (frLoop k r hs).2.l.length ≤ N ∧ ∀ h ∈ (frLoop k r hs).1, HdS h
 | 0, r, hs, h1, h2, h3 => ⟨h1, h2, h3⟩
 | k + 1, r, hs, h1, h2, h3 => by
  have k5 := rNext_rok h1 5
  have l5 := rNext_len 5 r
  have u5 := rNext_use 5 r
  rw [frLoop_s]
  split
  ·exact ⟨h1, h2, h3⟩
  split
  ·exact ⟨k5.1, by dsimp only; omega, h3⟩
  rename_i c
  have u := u5 (by omega)
  have hd := rdHd_ok k5.1
  refine frLoop_inv k _ _ hd.2.1 ?_ ?_
  ·have := hd.2.2
   simp only [List.length_append, List.length_singleton]
   omega
  ·intro x hx
   rcases List.mem_append.1 hx with hx | hx
   ·exact h3 x hx
   ·rw [List.mem_singleton] at hx
    rw [hx]
    exact hd.1
theorem rdFr_ok {r : Rw} (h : RwOk r) (hl : r.l.length ≤ 1000000) : MsgS (rdFr r).1 ∧ RwOk (rdFr r).2 := by
 unfold rdFr
 have k1 := rNext_rok h 1
 have l1 := rNext_len 1 r
 generalize rNext 1 r = q at k1 l1 ⊢
 obtain ⟨f, r1⟩ := q
 dsimp only at k1 l1 ⊢
 have k2 := rNext_rok k1.1 1
 have l2 := rNext_len 1 r1
 generalize rNext 1 r1 = q at k2 l2 ⊢
 obtain ⟨t, r2⟩ := q
 dsimp only at k2 l2 ⊢
 have k3 := rNext_rok k2.1 5
 have l3 := rNext_len 5 r2
 generalize rNext 5 r2 = q at k3 l3 ⊢
 obtain ⟨n, r3⟩ := q
 dsimp only at k3 l3 ⊢
 have i := frLoop_inv (N := 1000000) n.n.toNat r3 [] k3.1 (by simp; omega) (fun h hh => absurd hh (List.not_mem_nil))
 exact ⟨{ kind := ⟨by dsimp only; omega, by dsimp only; omega⟩, frm := k1.2.1.2.1, to := k2.2.1.2.1, hs := i.2.2, ps := fun h hh => absurd hh (List.not_mem_nil), es := fun h hh => absurd hh (List.not_mem_nil), hl := by have := i.2.1; dsimp only; omega, pl := by simp, el := by simp }, i.1⟩
theorem rdAn_ok {r : Rw} (h : RwOk r) (hl : r.l.length ≤ 1000000) : MsgS (rdAn r).1 ∧ RwOk (rdAn r).2 := by
 unfold rdAn
 have k1 := rNext_rok h 1
 have l1 := rNext_len 1 r
 generalize rNext 1 r = q at k1 l1 ⊢
 obtain ⟨f, r1⟩ := q
 dsimp only at k1 l1 ⊢
 have k2 := rNext_rok k1.1 1
 have l2 := rNext_len 1 r1
 generalize rNext 1 r1 = q at k2 l2 ⊢
 obtain ⟨t, r2⟩ := q
 dsimp only at k2 l2 ⊢
 have k3 := rNext_rok k2.1 5
 have l3 := rNext_len 5 r2
 generalize rNext 5 r2 = q at k3 l3 ⊢
 obtain ⟨n, r3⟩ := q
 dsimp only at k3 l3 ⊢
 have i := anInv_loop (N := 1000000) (rd := rdPrf) (ok := PrfS) (fun b hb hl => (rdPrf_prfS hb hl).1) n.n.toNat r3 [] ⟨k3.1, by simp; omega, fun h hh => absurd hh (List.not_mem_nil)⟩
 generalize anLoop rdPrf n.n.toNat r3 [] = q at i ⊢
 obtain ⟨ps, r4⟩ := q
 dsimp only at i ⊢
 have i2 := i.2.1
 have l4 : ps.length ≤ 1000001 ∧ r4.l.length ≤ 1000001 := by split at i2 <;> omega
 have k5 := rNext_rok i.1 5
 have l5 := rNext_len 5 r4
 generalize rNext 5 r4 = q at k5 l5 ⊢
 obtain ⟨n2, r5⟩ := q
 dsimp only at k5 l5 ⊢
 have j := anInv_loop (N := 1000001) (rd := rdEnt) (ok := EntS) (fun b hb hl => (rdEnt_entS hb hl).1) n2.n.toNat r5 [] ⟨k5.1, by simp; omega, fun h hh => absurd hh (List.not_mem_nil)⟩
 have j2 := j.2.1
 exact ⟨{ kind := ⟨by dsimp only; omega, by dsimp only; omega⟩, frm := k1.2.1.2.1, to := k2.2.1.2.1, hs := fun h hh => absurd hh (List.not_mem_nil), ps := i.2.2, es := j.2.2, hl := by simp, pl := by dsimp only; omega, el := by dsimp only; split at j2 <;> omega }, j.1⟩
set_option maxHeartbeats 1000000 in
theorem mread_ok (b : List Int) (hb : Byt b) (hl : b.length ≤ 1000000000) : ACall Tryd.prog 25 [.ro b.length (bys b)] (.tuple [.agg (msgC (rdMsg b).1), .int .i64 (rdMsg b).2]) [] := by
 have k0 := rOpen_rok hb hl
 have l0 := rOpen_len b
 have h0 := open_ok b hb (by omega)
 unfold rdMsg
 generalize rOpen b = r0 at k0 h0 l0 ⊢
 unfold rdM
 have h1 := rlist_ok r0
 have k1 := rNext_rok k0 5
 have l1 := rNext_len 5 r0
 generalize rNext 5 r0 = q at h1 k1 l1 ⊢
 obtain ⟨li, r1⟩ := q
 dsimp only at h1 k1 l1 ⊢
 have h2 := rnum_ok r1
 have k2 := rNext_rok k1.1 1
 have l2 := rNext_len 1 r1
 generalize rNext 1 r1 = q at h2 k2 l2 ⊢
 obtain ⟨mk, r2⟩ := q
 dsimp only at h2 k2 l2 ⊢
 have h3 := frontier_ok r2 k2.1 (by omega)
 have k3 := rdFr_ok k2.1 (by omega)
 have h4 := answer_ok r2 k2.1 (by omega)
 have k4 := rdAn_ok k2.1 (by omega)
 generalize rdFr r2 = q at h3 k3 ⊢
 obtain ⟨m1, s1⟩ := q
 generalize rdAn r2 = q at h4 k4 ⊢
 obtain ⟨m2, s2⟩ := q
 dsimp only at h3 k3 h4 k4 ⊢
 refine ACall.of_does TTok Tryd.func25 rfl Tryd.call25 rfl (wpc_sound (M := MW) (PL := PL0) (CU := cutAt [100009]) TTok mixed _ _ _ ?_)
 conv => whnf
 repeat ((first | refine ⟨pureL_bys _, ?_⟩ | refine ⟨rfl, ?_⟩); conv => whnf)
 refine ⟨_, _, h0, by first | rfl | simp [noRoIf, noRoL, noRoV, noRoL_bys], ?_⟩
 conv => whnf
 repeat ((first | refine ⟨rfl, ?_⟩ | (refine And.intro ?_ ?_; (focus (first | (simp only [pureL, pureV, pureL_bys, Bool.and_true, Bool.and_self]; done) | (simp only [pureL, pureV, pureL_bys, pureL_toks, Bool.and_true, Bool.and_self]; done))))); conv => whnf)
 refine ⟨_, _, h1, by first | rfl | simp [noRoIf, noRoL, noRoV, noRoL_bys], ?_⟩
 conv => whnf
 repeat ((first | refine ⟨rfl, ?_⟩ | (refine And.intro ?_ ?_; (focus (first | (simp only [pureL, pureV, pureL_bys, Bool.and_true, Bool.and_self]; done) | (simp only [pureL, pureV, pureL_bys, pureL_toks, Bool.and_true, Bool.and_self]; done))))); conv => whnf)
 refine ⟨_, _, h2, by first | rfl | simp [noRoIf, noRoL, noRoV, noRoL_bys], ?_⟩
 conv => whnf
 by_cases c1 : li.n = 4 ∧ mk.n = 3
 ·rw [if_pos c1]
  obtain ⟨c1, c2⟩ := c1
  conv => whnf
  repeat ((first | refine ifB_t ?_ | (refine ifB_pos (decide_eq_true (by first | omega | rfl | (dsimp only; omega))) ?_) | refine ⟨rfl, ?_⟩ | (refine And.intro ?_ ?_; (focus (first | (simp only [pureL, pureV, pureL_bys, Bool.and_true, Bool.and_self]; done) | (simp only [pureL, pureV, pureL_bys, pureL_toks, Bool.and_true, Bool.and_self]; done))))); conv => whnf)
  refine ⟨_, _, h3, by first | rfl | simp [noRoIf, noRoL, noRoV, noRoL_bys], ?_⟩
  conv => whnf
  repeat ((refine ⟨(⟨by kernel_rfl, by kernel_rfl, Nat.le_of_ble_eq_true (by kernel_rfl)⟩ : AV.ones _ = true ∧ _ ∧ _), ?_⟩); conv => whnf)
  refine Does.tidy [(2, .ptr 0 0), (4, .ptr 1 0), (5, .ptr 2 0)] [(0, msgV 0 0 0 .nil .nil .nil), (1, rowC s1), (2, msgC m1)] 3 43 rfl rfl rfl (by kernel_rfl) (by kernel_rfl) ?_
  unfold rdFin
  dsimp only
  have h5 := rdone_ok s1
  have h6 := check_msg_ok m1 k3.1
  generalize (!s1.bad && decide (s1.l = [])) = dn at h5 ⊢
  clear h0 h1 h2 h3 h4
  refine wpc_sound (M := MW) (PL := PL0) (CU := noCut) TTok mixed _ _ _ ?_
  conv => whnf
  repeat ((first | refine ⟨rfl, ?_⟩ | (refine And.intro ?_ ?_; (focus (first | (simp only [pureL, pureV, pureL_bys, Bool.and_true, Bool.and_self]; done) | (simp only [pureL, pureV, pureL_bys, pureL_toks, Bool.and_true, Bool.and_self]; done))))); conv => whnf)
  refine ⟨_, _, h5, by first | rfl | simp [noRoIf, noRoL, noRoV, noRoL_bys], ?_⟩
  conv => whnf
  cases dn
  ·conv => whnf
   repeat ((first | refine ifB_t ?_ | refine ⟨(⟨by kernel_rfl, by kernel_rfl, Nat.le_of_ble_eq_true (by kernel_rfl)⟩ : AV.ones _ = true ∧ _ ∧ _), ?_⟩ | refine ⟨_, rfl, ?_⟩ | refine ⟨⟨rfl, rfl⟩, ?_⟩); conv => whnf)
   rfl
  simp only [if_true]
  cases c5 : msgR m1 <;> rw [c5] at h6
  ·conv => whnf
   repeat ((first | refine ifB_f ?_ | refine ⟨rfl, ?_⟩ | refine ⟨_, rfl, ?_⟩ | refine ⟨(show pureL _ = true from by first | exact prfC_pure _ | exact hdC_pure _ | exact msgC_pure _ | exact letC_pure _), ?_⟩); conv => whnf)
   refine ⟨_, _, h6, by first | rfl | simp [noRoIf, noRoL, noRoV, noRoL_bys], ?_⟩
   conv => whnf
   repeat ((first | refine ifB_t ?_ | refine ifB_f ?_ | refine ⟨(⟨by kernel_rfl, by kernel_rfl, Nat.le_of_ble_eq_true (by kernel_rfl)⟩ : AV.ones _ = true ∧ _ ∧ _), ?_⟩ | refine ⟨_, rfl, ?_⟩ | refine ⟨⟨rfl, rfl⟩, ?_⟩); conv => whnf)
   rfl
  ·conv => whnf
   repeat ((first | refine ifB_f ?_ | refine ⟨rfl, ?_⟩ | refine ⟨_, rfl, ?_⟩ | refine ⟨(show pureL _ = true from by first | exact prfC_pure _ | exact hdC_pure _ | exact msgC_pure _ | exact letC_pure _), ?_⟩); conv => whnf)
   refine ⟨_, _, h6, by first | rfl | simp [noRoIf, noRoL, noRoV, noRoL_bys], ?_⟩
   conv => whnf
   repeat ((first | refine ifB_f ?_ | refine ⟨(⟨by kernel_rfl, by kernel_rfl, Nat.le_of_ble_eq_true (by kernel_rfl)⟩ : AV.ones _ = true ∧ _ ∧ _), ?_⟩ | refine ⟨_, rfl, ?_⟩ | refine ⟨⟨rfl, rfl⟩, ?_⟩); conv => whnf)
   refine ⟨⟨rfl, rfl, hds_pure _⟩, ?_⟩
   conv => whnf
   refine ⟨⟨rfl, rfl, prfs_pure _⟩, ?_⟩
   conv => whnf
   refine ⟨⟨rfl, rfl, ents_pure _⟩, ?_⟩
   conv => whnf
   repeat ((refine ⟨⟨rfl, rfl⟩, ?_⟩); conv => whnf)
   rfl
 rw [if_neg c1]
 by_cases c2 : li.n = 5 ∧ mk.n = 4
 ·rw [if_pos c2]
  obtain ⟨c2, c3⟩ := c2
  conv => whnf
  repeat ((first | refine ifB_t ?_ | refine ifB_f ?_ | (refine ifB_neg (decide_eq_false (by first | omega | rfl | (dsimp only; omega))) ?_) | (refine ifB_pos (decide_eq_true (by first | omega | rfl | (dsimp only; omega))) ?_) | refine ⟨rfl, ?_⟩ | (refine And.intro ?_ ?_; (focus (first | (simp only [pureL, pureV, pureL_bys, Bool.and_true, Bool.and_self]; done) | (simp only [pureL, pureV, pureL_bys, pureL_toks, Bool.and_true, Bool.and_self]; done))))); conv => whnf)
  refine ⟨_, _, h4, by first | rfl | simp [noRoIf, noRoL, noRoV, noRoL_bys], ?_⟩
  conv => whnf
  repeat ((refine ⟨(⟨by kernel_rfl, by kernel_rfl, Nat.le_of_ble_eq_true (by kernel_rfl)⟩ : AV.ones _ = true ∧ _ ∧ _), ?_⟩); conv => whnf)
  refine Does.tidy [(2, .ptr 0 0), (4, .ptr 1 0), (5, .ptr 2 0)] [(0, msgV 0 0 0 .nil .nil .nil), (1, rowC s2), (2, msgC m2)] 3 43 rfl rfl rfl (by kernel_rfl) (by kernel_rfl) ?_
  unfold rdFin
  dsimp only
  have h5 := rdone_ok s2
  have h6 := check_msg_ok m2 k4.1
  generalize (!s2.bad && decide (s2.l = [])) = dn at h5 ⊢
  clear h0 h1 h2 h3 h4
  refine wpc_sound (M := MW) (PL := PL0) (CU := noCut) TTok mixed _ _ _ ?_
  conv => whnf
  repeat ((first | refine ⟨rfl, ?_⟩ | (refine And.intro ?_ ?_; (focus (first | (simp only [pureL, pureV, pureL_bys, Bool.and_true, Bool.and_self]; done) | (simp only [pureL, pureV, pureL_bys, pureL_toks, Bool.and_true, Bool.and_self]; done))))); conv => whnf)
  refine ⟨_, _, h5, by first | rfl | simp [noRoIf, noRoL, noRoV, noRoL_bys], ?_⟩
  conv => whnf
  cases dn
  ·conv => whnf
   repeat ((first | refine ifB_t ?_ | refine ⟨(⟨by kernel_rfl, by kernel_rfl, Nat.le_of_ble_eq_true (by kernel_rfl)⟩ : AV.ones _ = true ∧ _ ∧ _), ?_⟩ | refine ⟨_, rfl, ?_⟩ | refine ⟨⟨rfl, rfl⟩, ?_⟩); conv => whnf)
   rfl
  simp only [if_true]
  cases c5 : msgR m2 <;> rw [c5] at h6
  ·conv => whnf
   repeat ((first | refine ifB_f ?_ | refine ⟨rfl, ?_⟩ | refine ⟨_, rfl, ?_⟩ | refine ⟨(show pureL _ = true from by first | exact prfC_pure _ | exact hdC_pure _ | exact msgC_pure _ | exact letC_pure _), ?_⟩); conv => whnf)
   refine ⟨_, _, h6, by first | rfl | simp [noRoIf, noRoL, noRoV, noRoL_bys], ?_⟩
   conv => whnf
   repeat ((first | refine ifB_t ?_ | refine ifB_f ?_ | refine ⟨(⟨by kernel_rfl, by kernel_rfl, Nat.le_of_ble_eq_true (by kernel_rfl)⟩ : AV.ones _ = true ∧ _ ∧ _), ?_⟩ | refine ⟨_, rfl, ?_⟩ | refine ⟨⟨rfl, rfl⟩, ?_⟩); conv => whnf)
   rfl
  ·conv => whnf
   repeat ((first | refine ifB_f ?_ | refine ⟨rfl, ?_⟩ | refine ⟨_, rfl, ?_⟩ | refine ⟨(show pureL _ = true from by first | exact prfC_pure _ | exact hdC_pure _ | exact msgC_pure _ | exact letC_pure _), ?_⟩); conv => whnf)
   refine ⟨_, _, h6, by first | rfl | simp [noRoIf, noRoL, noRoV, noRoL_bys], ?_⟩
   conv => whnf
   repeat ((first | refine ifB_f ?_ | refine ⟨(⟨by kernel_rfl, by kernel_rfl, Nat.le_of_ble_eq_true (by kernel_rfl)⟩ : AV.ones _ = true ∧ _ ∧ _), ?_⟩ | refine ⟨_, rfl, ?_⟩ | refine ⟨⟨rfl, rfl⟩, ?_⟩); conv => whnf)
   refine ⟨⟨rfl, rfl, hds_pure _⟩, ?_⟩
   conv => whnf
   refine ⟨⟨rfl, rfl, prfs_pure _⟩, ?_⟩
   conv => whnf
   refine ⟨⟨rfl, rfl, ents_pure _⟩, ?_⟩
   conv => whnf
   repeat ((refine ⟨⟨rfl, rfl⟩, ?_⟩); conv => whnf)
   rfl
 rw [if_neg c2]
 by_cases c3 : li.n = 4
 ·have c4 : mk.n ≠ 3 := fun h => c1 ⟨c3, h⟩
  conv => whnf
  repeat ((first | refine ifB_t ?_ | refine ifB_f ?_ | (refine ifB_neg (decide_eq_false (by first | omega | rfl | (dsimp only; omega))) ?_) | (refine ifB_pos (decide_eq_true (by first | omega | rfl | (dsimp only; omega))) ?_) | refine ⟨(⟨by kernel_rfl, by kernel_rfl, Nat.le_of_ble_eq_true (by kernel_rfl)⟩ : AV.ones _ = true ∧ _ ∧ _), ?_⟩ | refine ⟨_, rfl, ?_⟩ | refine ⟨⟨rfl, rfl⟩, ?_⟩); conv => whnf)
  rfl
 by_cases c5 : li.n = 5
 ·have c4 : mk.n ≠ 4 := fun h => c2 ⟨c5, h⟩
  conv => whnf
  repeat ((first | refine ifB_t ?_ | refine ifB_f ?_ | (refine ifB_neg (decide_eq_false (by first | omega | rfl | (dsimp only; omega))) ?_) | (refine ifB_pos (decide_eq_true (by first | omega | rfl | (dsimp only; omega))) ?_) | refine ⟨(⟨by kernel_rfl, by kernel_rfl, Nat.le_of_ble_eq_true (by kernel_rfl)⟩ : AV.ones _ = true ∧ _ ∧ _), ?_⟩ | refine ⟨_, rfl, ?_⟩ | refine ⟨⟨rfl, rfl⟩, ?_⟩); conv => whnf)
  rfl
 conv => whnf
 repeat ((first | refine ifB_f ?_ | (refine ifB_neg (decide_eq_false (by first | omega | rfl | (dsimp only; omega))) ?_) | refine ⟨(⟨by kernel_rfl, by kernel_rfl, Nat.le_of_ble_eq_true (by kernel_rfl)⟩ : AV.ones _ = true ∧ _ ∧ _), ?_⟩ | refine ⟨_, rfl, ?_⟩ | refine ⟨⟨rfl, rfl⟩, ?_⟩); conv => whnf)
 rfl
end
section

theorem rOpen_enc {l : List Tok} {a : List Int} (hl : ToksOk l) (h : encR validR l = (a, 0)) : rOpen a = ⟨l, false⟩ := by
 unfold rOpen
 rw [decR_enc hl h]
 rfl
theorem rNext_cons {k : Int} {t : Tok} {q : List Tok} (h : t.k = k) : rNext k ⟨t :: q, false⟩ = (t, ⟨q, false⟩) := by
 unfold rNext; simp [h]
theorem rArr_cons {m : Nat} {t : Tok} {q : List Tok} (h : t.k = 3) (hm : t.b.length = m) : rArr m ⟨t :: q, false⟩ = (t.b, ⟨q, false⟩) := by
 unfold rArr; rw [rNext_cons h]; simp [hm]
theorem rWant_cons {m f : Int} {t s : Tok} {q : List Tok} (h1 : t.k = 5) (h2 : t.n = m) (h3 : s.k = 1) (h4 : s.n = f) : rWant m f ⟨t :: s :: q, false⟩ = ⟨q, false⟩ := by
 unfold rWant
 rw [rNext_cons h1]
 dsimp only
 rw [if_neg (by omega), rNext_cons h3]
 dsimp only
 rw [if_neg (by omega)]
theorem rdE_cons {t2 t3 t4 t5 t6 t7 t8 t9 t10 : Tok} (h2 : t2.k = 3) (m2 : t2.b.length = 32) (h3 : t3.k = 1) (h4 : t4.k = 3) (m4 : t4.b.length = 32) (h5 : t5.k = 1) (h6 : t6.k = 5) (h7 : t7.k = 1) (h8 : t8.k = 4) (h9 : t9.k = 3) (h10 : t10.k = 3) (m10 : t10.b.length = 64) :
  rdE ⟨[t2, t3, t4, t5, t6, t7, t8, t9, t10], false⟩ = if t6.n ≠ 3 then (ent0, 3) else if entR ⟨t2.b, t3.n, t4.b, t5.n, t7.n, t8.b, t9.b, t10.b⟩ = true then (⟨t2.b, t3.n, t4.b, t5.n, t7.n, t8.b, t9.b, t10.b⟩, 0) else (ent0, 3) := by
 unfold rdE
 rw [rArr_cons h2 m2]; dsimp only
 rw [rNext_cons h3]; dsimp only
 rw [rArr_cons h4 m4]; dsimp only
 rw [rNext_cons h5]; dsimp only
 rw [rNext_cons h6]; dsimp only
 rw [rNext_cons h7]; dsimp only
 rw [rNext_cons h8]; dsimp only
 rw [rNext_cons h9]; dsimp only
 rw [rArr_cons h10 m10]; dsimp only
 rfl
theorem rdEnt_enc {e : Ent} (he : EntS e) (hr : entR e = true) {a : List Int} (h : encR validR (entTs e) = (a, 0)) : rdEnt a = (e, 0) := by
 unfold rdEnt
 rw [rOpen_enc (entTs_ok e he).1 h]
 rw [show entTs e = ⟨5, 7, []⟩ :: ⟨1, 1, []⟩ :: [⟨3, 0, e.au⟩, ⟨1, e.seq, []⟩, ⟨3, 0, e.prev⟩, ⟨1, e.stamp, []⟩, ⟨5, 3, []⟩, ⟨1, e.kind, []⟩, ⟨4, 0, e.key⟩, ⟨3, 0, e.val⟩, ⟨3, 0, e.sig⟩] from rfl]
 rw [rWant_cons (m := 7) (f := 1) (t := ⟨5, 7, []⟩) (s := ⟨1, 1, []⟩) rfl rfl rfl rfl, rdE_cons rfl he.au.2 rfl rfl he.prev.2 rfl rfl rfl rfl rfl rfl he.sig.2]
 rw [if_neg (by simp), if_pos hr]
theorem rdP_cons {t2 t3 : Tok} (h2 : t2.k = 3) (h3 : t3.k = 3) : rdP ⟨[t2, t3], false⟩ = if (rdEnt t2.b).2 ≠ 0 then (prf0, 3) else if (rdEnt t3.b).2 ≠ 0 then (prf0, 3) else if prfR ⟨(rdEnt t2.b).1, (rdEnt t3.b).1⟩ = true then (⟨(rdEnt t2.b).1, (rdEnt t3.b).1⟩, 0) else (prf0, 3) := by
 unfold rdP
 rw [rNext_cons h2]; dsimp only
 rw [rNext_cons h3]; dsimp only
 rfl
theorem prfR_ents {p : Prf} (h : prfR p = true) : (entB p.a).2 = 0 ∧ (entB p.b).2 = 0 ∧ p.a.au = p.b.au ∧ p.a.seq = p.b.seq ∧ cmpI (entB p.a).1 (entB p.b).1 < 0 := by
 unfold prfR ordR at h
 have h := of_decide_eq_true h
 split at h
 ·omega
 rename_i a1
 split at h
 ·omega
 rename_i a2
 split at h
 ·omega
 rename_i a3
 split at h
 ·omega
 rename_i a4
 exact ⟨Classical.not_not.1 a1, Classical.not_not.1 a2, Classical.not_not.1 a3, Classical.not_not.1 a4, h⟩
theorem entB_right {e : Ent} (h : (entB e).2 = 0) : entR e = true ∧ encR validR (entTs e) = ((entB e).1, 0) := by
 unfold entB at h ⊢
 split at h
 ·rename_i c
  rw [if_pos c]
  exact ⟨c, Prod.ext rfl h⟩
 ·cases h
theorem rdEnt_bytes {e : Ent} (he : EntS e) (h : (entB e).2 = 0) : rdEnt (entB e).1 = (e, 0) := rdEnt_enc he (entB_right h).1 (entB_right h).2
theorem rdPrf_bytes {p : Prf} (hp : PrfS p) (h : (prfB p).2 = 0) : rdPrf (prfB p).1 = (p, 0) := by
 unfold prfB at h ⊢
 split at h
 case isFalse => cases h
 rename_i c
 rw [if_pos c]
 have r := prfR_ents c
 unfold rdPrf
 rw [rOpen_enc (prf_toks hp) (Prod.ext rfl h), rWant_cons (m := 3) (f := 2) (t := ⟨5, 3, []⟩) (s := ⟨1, 2, []⟩) rfl rfl rfl rfl, rdP_cons rfl rfl]
 dsimp only
 rw [rdEnt_bytes hp.a r.1, rdEnt_bytes hp.b r.2.1]
 rw [if_neg (by simp), if_neg (by simp), if_pos c]
end
end Go.Proofs.YtbpdbajcmagomaaDoor.Abs
