/- Texts EPS to XL, merged. -/
import Derived.Test.YtbpdbajcmagomaaDoorU13
set_option linter.unusedVariables false
set_option linter.unusedSimpArgs false
namespace Go.Proofs.YtbpdbajcmagomaaDoor.Abs
open Go
section
--KR
attribute [local irreducible] ifB fitP Does Weaker
def sixT (e : Ent) : List Tok := [⟨1, 1, []⟩, ⟨3, 0, e.au⟩, ⟨1, e.seq, []⟩, ⟨3, 0, e.prev⟩, ⟨1, e.stamp, []⟩, ⟨5, 3, []⟩, ⟨1, e.kind, []⟩, ⟨4, 0, e.key⟩, ⟨3, 0, e.val⟩]
def sixV (e : Ent) (v : AV) : List AV := toksC [⟨1, 1, []⟩, ⟨3, 0, e.au⟩, ⟨1, e.seq, []⟩, ⟨3, 0, e.prev⟩, ⟨1, e.stamp, []⟩, ⟨5, 3, []⟩, ⟨1, e.kind, []⟩] ++ ([.int .i64 4, .int .i64 0, v] ++ toksC [⟨3, 0, e.val⟩])
theorem sixV_eq (e : Ent) : sixV e (roW e.key) = toksC (sixT e) := by rw [roW_eq]; rfl
def PLsix : Nat → Bool × Plan := plans [(1, (false, (takesTo [1, 2, 4, 5, 7, 8, 10, 11, 14, 15, 16, 18, 19, 20, 23, 24, 25] (.all [(0, (.all [(3, (.all [(6, (.all [(9, (.all [(12, (.all [(13, (.all [(17, (.all [(21, (takesTo [22] (.all [(26, (.all [(27, (takes [28]))]))]))), (26, (.all [(21, (takesTo [22] (.all [(27, (takes [28]))])))]))])), (21, (takesTo [22] (.all [(17, (.all [(26, (.all [(27, (takes [28]))]))]))])))])), (21, (takesTo [22] (.all [(13, (.all [(17, (.all [(26, (.all [(27, (takes [28]))]))]))]))])))])), (21, (takesTo [22] (.all [(12, (.all [(13, (.all [(17, (.all [(26, (.all [(27, (takes [28]))]))]))]))]))])))])), (21, (takesTo [22] (.all [(9, (.all [(12, (.all [(13, (.all [(17, (.all [(26, (.all [(27, (takes [28]))]))]))]))]))]))])))])), (21, (takesTo [22] (.all [(6, (.all [(9, (.all [(12, (.all [(13, (.all [(17, (.all [(26, (.all [(27, (takes [28]))]))]))]))]))]))]))])))])), (21, (takesTo [22] (.all [(3, (.all [(6, (.all [(9, (.all [(12, (.all [(13, (.all [(17, (.all [(26, (.all [(27, (takes [28]))]))]))]))]))]))]))]))])))])), (21, (takesTo [22] (.all [(0, (.all [(3, (.all [(6, (.all [(9, (.all [(12, (.all [(13, (.all [(17, (.all [(26, (.all [(27, (takes [28]))]))]))]))]))]))]))]))]))])))]))))]
set_option maxRecDepth 20000 in
set_option maxHeartbeats 20000000 in
theorem six_ok (e : Ent) (he : EntS e) : ACall Tryd.prog 92 [.agg (entC e)] (.own 9 3 (toksC (sixT e))) [] := by
 have hk := he.key'
 refine ACall.of_does TTok Tryd.func92 rfl Tryd.call92 rfl (wpc_sound (M := MF) (PL := PLsix) (CU := cutAt [100001, 99999]) TTok mixed _ _ _ ?_)
 conv => whnf
 repeat ((refine ⟨rfl, ?_⟩); conv => whnf)
 refine Does.freeze 0 rfl (Does.tidy [(1, .rop (entC e))] [] 1 31 rfl rfl rfl (by kernel_rfl) (by kernel_rfl) ?_)
 refine wpc_sound (M := MF) (PL := PLsix) (CU := noCut) TTok mixed _ _ _ ?_
 conv => whnf
 refine ⟨by kernel_rfl, ?_⟩
 conv => whnf
 repeat ((first | (refine ⟨⟨by first | (simp only [List.drop_zero, List.length_drop, hds_len]; omega) | exact Nat.le_of_ble_eq_true (by kernel_rfl), okB_none _⟩, ?_⟩) | refine ⟨rfl, ?_⟩ | refine ⟨_, rfl, ?_⟩); conv => whnf)
 refine ⟨?_, ?_⟩
 ·conv => whnf
  repeat ((refine ⟨rfl, ?_⟩); conv => whnf)
  refine ⟨_, _, refnum_ok 1, by first | rfl | simp [noRoIf, noRoL, noRoV, noRoL_bys], ?_⟩
  conv => whnf
  refine ⟨?_, ?_⟩
  ·conv => whnf
   repeat ((refine ⟨rfl, ?_⟩); conv => whnf)
   refine ⟨_, _, (refbytes_ok e.au).arg1 he.au.2.symm (cut32 he.au.2 _), by first | rfl | simp [noRoIf, noRoL, noRoV, noRoL_bys], ?_⟩
   conv => whnf
   refine ⟨?_, ?_⟩
   ·conv => whnf
    repeat ((refine ⟨rfl, ?_⟩); conv => whnf)
    refine ⟨_, _, refnum_ok e.seq, by first | rfl | simp [noRoIf, noRoL, noRoV, noRoL_bys], ?_⟩
    conv => whnf
    refine ⟨?_, ?_⟩
    ·conv => whnf
     repeat ((refine ⟨rfl, ?_⟩); conv => whnf)
     refine ⟨_, _, (refbytes_ok e.prev).arg1 he.prev.2.symm (cut32 he.prev.2 _), by first | rfl | simp [noRoIf, noRoL, noRoV, noRoL_bys], ?_⟩
     conv => whnf
     refine ⟨?_, ?_⟩
     ·conv => whnf
      repeat ((refine ⟨rfl, ?_⟩); conv => whnf)
      refine ⟨_, _, refnum_ok e.stamp, by first | rfl | simp [noRoIf, noRoL, noRoV, noRoL_bys], ?_⟩
      conv => whnf
      refine ⟨?_, ?_⟩
      ·conv => whnf
       repeat ((refine ⟨rfl, ?_⟩); conv => whnf)
       refine ⟨_, _, refarray_ok 3, by first | rfl | simp [noRoIf, noRoL, noRoV, noRoL_bys], ?_⟩
       conv => whnf
       refine ⟨?_, ?_⟩
       ·conv => whnf
        repeat ((refine ⟨rfl, ?_⟩); conv => whnf)
        refine ⟨_, _, refnum_ok e.kind, by first | rfl | simp [noRoIf, noRoL, noRoV, noRoL_bys], ?_⟩
        conv => whnf
        refine ⟨?_, ?_⟩
        ·conv => whnf
         repeat ((first | refine ⟨pureL_bys _, ?_⟩ | refine ⟨rfl, ?_⟩); conv => whnf)
         conv => whnf
         refine ⟨_, _, refbytes_ok e.val, by first | rfl | simp [noRoIf, noRoL, noRoV, noRoL_bys], ?_⟩
         conv => whnf
         repeat ((refine ⟨⟨rfl, rfl⟩, ?_⟩); conv => whnf)
         conv => whnf
         refine Does.freeze 1 rfl (wpc_sound (M := MF) (PL := PL0) (CU := noCut) TTok mixed _ _ _ ?_)
         conv => whnf
         exact ⟨⟨rfl, rfl, Eq.trans (b := sixV e (roW e.key)) (by kernel_rfl) (sixV_eq e), rfl, pureL_toks (sixT e)⟩, rfl⟩
        ·conv => whnf
         repeat ((first | refine ⟨pureL_bys _, ?_⟩ | refine ⟨rfl, ?_⟩); conv => whnf)
         refine ⟨_, _, refbytes_ok e.val, by first | rfl | simp [noRoIf, noRoL, noRoV, noRoL_bys], ?_⟩
         conv => whnf
         repeat ((refine ⟨⟨rfl, rfl⟩, ?_⟩); conv => whnf)
         conv => whnf
         conv => whnf
         refine Does.freeze 1 rfl (wpc_sound (M := MF) (PL := PL0) (CU := noCut) TTok mixed _ _ _ ?_)
         conv => whnf
         exact ⟨⟨rfl, rfl, Eq.trans (b := sixV e (roW e.key)) (by kernel_rfl) (sixV_eq e), rfl, pureL_toks (sixT e)⟩, rfl⟩
       ·conv => whnf
        repeat ((refine ⟨rfl, ?_⟩); conv => whnf)
        conv => whnf
        refine ⟨_, _, refnum_ok e.kind, by first | rfl | simp [noRoIf, noRoL, noRoV, noRoL_bys], ?_⟩
        conv => whnf
        repeat ((first | refine ⟨pureL_bys _, ?_⟩ | refine ⟨rfl, ?_⟩); conv => whnf)
        refine ⟨_, _, refbytes_ok e.val, by first | rfl | simp [noRoIf, noRoL, noRoV, noRoL_bys], ?_⟩
        conv => whnf
        repeat ((refine ⟨⟨rfl, rfl⟩, ?_⟩); conv => whnf)
        conv => whnf
        refine Does.freeze 1 rfl (wpc_sound (M := MF) (PL := PL0) (CU := noCut) TTok mixed _ _ _ ?_)
        conv => whnf
        exact ⟨⟨rfl, rfl, Eq.trans (b := sixV e (roW e.key)) (by kernel_rfl) (sixV_eq e), rfl, pureL_toks (sixT e)⟩, rfl⟩
      ·conv => whnf
       repeat ((refine ⟨rfl, ?_⟩); conv => whnf)
       conv => whnf
       refine ⟨_, _, refarray_ok 3, by first | rfl | simp [noRoIf, noRoL, noRoV, noRoL_bys], ?_⟩
       conv => whnf
       repeat ((refine ⟨rfl, ?_⟩); conv => whnf)
       refine ⟨_, _, refnum_ok e.kind, by first | rfl | simp [noRoIf, noRoL, noRoV, noRoL_bys], ?_⟩
       conv => whnf
       repeat ((first | refine ⟨pureL_bys _, ?_⟩ | refine ⟨rfl, ?_⟩); conv => whnf)
       refine ⟨_, _, refbytes_ok e.val, by first | rfl | simp [noRoIf, noRoL, noRoV, noRoL_bys], ?_⟩
       conv => whnf
       repeat ((refine ⟨⟨rfl, rfl⟩, ?_⟩); conv => whnf)
       conv => whnf
       refine Does.freeze 1 rfl (wpc_sound (M := MF) (PL := PL0) (CU := noCut) TTok mixed _ _ _ ?_)
       conv => whnf
       exact ⟨⟨rfl, rfl, Eq.trans (b := sixV e (roW e.key)) (by kernel_rfl) (sixV_eq e), rfl, pureL_toks (sixT e)⟩, rfl⟩
     ·conv => whnf
      repeat ((refine ⟨rfl, ?_⟩); conv => whnf)
      conv => whnf
      refine ⟨_, _, refnum_ok e.stamp, by first | rfl | simp [noRoIf, noRoL, noRoV, noRoL_bys], ?_⟩
      conv => whnf
      repeat ((refine ⟨rfl, ?_⟩); conv => whnf)
      refine ⟨_, _, refarray_ok 3, by first | rfl | simp [noRoIf, noRoL, noRoV, noRoL_bys], ?_⟩
      conv => whnf
      repeat ((refine ⟨rfl, ?_⟩); conv => whnf)
      refine ⟨_, _, refnum_ok e.kind, by first | rfl | simp [noRoIf, noRoL, noRoV, noRoL_bys], ?_⟩
      conv => whnf
      repeat ((first | refine ⟨pureL_bys _, ?_⟩ | refine ⟨rfl, ?_⟩); conv => whnf)
      refine ⟨_, _, refbytes_ok e.val, by first | rfl | simp [noRoIf, noRoL, noRoV, noRoL_bys], ?_⟩
      conv => whnf
      repeat ((refine ⟨⟨rfl, rfl⟩, ?_⟩); conv => whnf)
      conv => whnf
      refine Does.freeze 1 rfl (wpc_sound (M := MF) (PL := PL0) (CU := noCut) TTok mixed _ _ _ ?_)
      conv => whnf
      exact ⟨⟨rfl, rfl, Eq.trans (b := sixV e (roW e.key)) (by kernel_rfl) (sixV_eq e), rfl, pureL_toks (sixT e)⟩, rfl⟩
    ·conv => whnf
     repeat ((refine ⟨rfl, ?_⟩); conv => whnf)
     conv => whnf
     refine ⟨_, _, (refbytes_ok e.prev).arg1 he.prev.2.symm (cut32 he.prev.2 _), by first | rfl | simp [noRoIf, noRoL, noRoV, noRoL_bys], ?_⟩
     conv => whnf
     repeat ((refine ⟨rfl, ?_⟩); conv => whnf)
     refine ⟨_, _, refnum_ok e.stamp, by first | rfl | simp [noRoIf, noRoL, noRoV, noRoL_bys], ?_⟩
     conv => whnf
     repeat ((refine ⟨rfl, ?_⟩); conv => whnf)
     refine ⟨_, _, refarray_ok 3, by first | rfl | simp [noRoIf, noRoL, noRoV, noRoL_bys], ?_⟩
     conv => whnf
     repeat ((refine ⟨rfl, ?_⟩); conv => whnf)
     refine ⟨_, _, refnum_ok e.kind, by first | rfl | simp [noRoIf, noRoL, noRoV, noRoL_bys], ?_⟩
     conv => whnf
     repeat ((first | refine ⟨pureL_bys _, ?_⟩ | refine ⟨rfl, ?_⟩); conv => whnf)
     refine ⟨_, _, refbytes_ok e.val, by first | rfl | simp [noRoIf, noRoL, noRoV, noRoL_bys], ?_⟩
     conv => whnf
     repeat ((refine ⟨⟨rfl, rfl⟩, ?_⟩); conv => whnf)
     conv => whnf
     refine Does.freeze 1 rfl (wpc_sound (M := MF) (PL := PL0) (CU := noCut) TTok mixed _ _ _ ?_)
     conv => whnf
     exact ⟨⟨rfl, rfl, Eq.trans (b := sixV e (roW e.key)) (by kernel_rfl) (sixV_eq e), rfl, pureL_toks (sixT e)⟩, rfl⟩
   ·conv => whnf
    repeat ((refine ⟨rfl, ?_⟩); conv => whnf)
    conv => whnf
    refine ⟨_, _, refnum_ok e.seq, by first | rfl | simp [noRoIf, noRoL, noRoV, noRoL_bys], ?_⟩
    conv => whnf
    repeat ((refine ⟨rfl, ?_⟩); conv => whnf)
    refine ⟨_, _, (refbytes_ok e.prev).arg1 he.prev.2.symm (cut32 he.prev.2 _), by first | rfl | simp [noRoIf, noRoL, noRoV, noRoL_bys], ?_⟩
    conv => whnf
    repeat ((refine ⟨rfl, ?_⟩); conv => whnf)
    refine ⟨_, _, refnum_ok e.stamp, by first | rfl | simp [noRoIf, noRoL, noRoV, noRoL_bys], ?_⟩
    conv => whnf
    repeat ((refine ⟨rfl, ?_⟩); conv => whnf)
    refine ⟨_, _, refarray_ok 3, by first | rfl | simp [noRoIf, noRoL, noRoV, noRoL_bys], ?_⟩
    conv => whnf
    repeat ((refine ⟨rfl, ?_⟩); conv => whnf)
    refine ⟨_, _, refnum_ok e.kind, by first | rfl | simp [noRoIf, noRoL, noRoV, noRoL_bys], ?_⟩
    conv => whnf
    repeat ((first | refine ⟨pureL_bys _, ?_⟩ | refine ⟨rfl, ?_⟩); conv => whnf)
    refine ⟨_, _, refbytes_ok e.val, by first | rfl | simp [noRoIf, noRoL, noRoV, noRoL_bys], ?_⟩
    conv => whnf
    repeat ((refine ⟨⟨rfl, rfl⟩, ?_⟩); conv => whnf)
    conv => whnf
    refine Does.freeze 1 rfl (wpc_sound (M := MF) (PL := PL0) (CU := noCut) TTok mixed _ _ _ ?_)
    conv => whnf
    exact ⟨⟨rfl, rfl, Eq.trans (b := sixV e (roW e.key)) (by kernel_rfl) (sixV_eq e), rfl, pureL_toks (sixT e)⟩, rfl⟩
  ·conv => whnf
   repeat ((refine ⟨rfl, ?_⟩); conv => whnf)
   conv => whnf
   refine ⟨_, _, (refbytes_ok e.au).arg1 he.au.2.symm (cut32 he.au.2 _), by first | rfl | simp [noRoIf, noRoL, noRoV, noRoL_bys], ?_⟩
   conv => whnf
   repeat ((refine ⟨rfl, ?_⟩); conv => whnf)
   refine ⟨_, _, refnum_ok e.seq, by first | rfl | simp [noRoIf, noRoL, noRoV, noRoL_bys], ?_⟩
   conv => whnf
   repeat ((refine ⟨rfl, ?_⟩); conv => whnf)
   refine ⟨_, _, (refbytes_ok e.prev).arg1 he.prev.2.symm (cut32 he.prev.2 _), by first | rfl | simp [noRoIf, noRoL, noRoV, noRoL_bys], ?_⟩
   conv => whnf
   repeat ((refine ⟨rfl, ?_⟩); conv => whnf)
   refine ⟨_, _, refnum_ok e.stamp, by first | rfl | simp [noRoIf, noRoL, noRoV, noRoL_bys], ?_⟩
   conv => whnf
   repeat ((refine ⟨rfl, ?_⟩); conv => whnf)
   refine ⟨_, _, refarray_ok 3, by first | rfl | simp [noRoIf, noRoL, noRoV, noRoL_bys], ?_⟩
   conv => whnf
   repeat ((refine ⟨rfl, ?_⟩); conv => whnf)
   refine ⟨_, _, refnum_ok e.kind, by first | rfl | simp [noRoIf, noRoL, noRoV, noRoL_bys], ?_⟩
   conv => whnf
   repeat ((first | refine ⟨pureL_bys _, ?_⟩ | refine ⟨rfl, ?_⟩); conv => whnf)
   refine ⟨_, _, refbytes_ok e.val, by first | rfl | simp [noRoIf, noRoL, noRoV, noRoL_bys], ?_⟩
   conv => whnf
   repeat ((refine ⟨⟨rfl, rfl⟩, ?_⟩); conv => whnf)
   conv => whnf
   refine Does.freeze 1 rfl (wpc_sound (M := MF) (PL := PL0) (CU := noCut) TTok mixed _ _ _ ?_)
   conv => whnf
   exact ⟨⟨rfl, rfl, Eq.trans (b := sixV e (roW e.key)) (by kernel_rfl) (sixV_eq e), rfl, pureL_toks (sixT e)⟩, rfl⟩
 ·conv => whnf
  repeat ((refine ⟨rfl, ?_⟩); conv => whnf)
  conv => whnf
  refine ⟨_, _, refnum_ok 1, by first | rfl | simp [noRoIf, noRoL, noRoV, noRoL_bys], ?_⟩
  conv => whnf
  repeat ((refine ⟨rfl, ?_⟩); conv => whnf)
  refine ⟨_, _, (refbytes_ok e.au).arg1 he.au.2.symm (cut32 he.au.2 _), by first | rfl | simp [noRoIf, noRoL, noRoV, noRoL_bys], ?_⟩
  conv => whnf
  repeat ((refine ⟨rfl, ?_⟩); conv => whnf)
  refine ⟨_, _, refnum_ok e.seq, by first | rfl | simp [noRoIf, noRoL, noRoV, noRoL_bys], ?_⟩
  conv => whnf
  repeat ((refine ⟨rfl, ?_⟩); conv => whnf)
  refine ⟨_, _, (refbytes_ok e.prev).arg1 he.prev.2.symm (cut32 he.prev.2 _), by first | rfl | simp [noRoIf, noRoL, noRoV, noRoL_bys], ?_⟩
  conv => whnf
  repeat ((refine ⟨rfl, ?_⟩); conv => whnf)
  refine ⟨_, _, refnum_ok e.stamp, by first | rfl | simp [noRoIf, noRoL, noRoV, noRoL_bys], ?_⟩
  conv => whnf
  repeat ((refine ⟨rfl, ?_⟩); conv => whnf)
  refine ⟨_, _, refarray_ok 3, by first | rfl | simp [noRoIf, noRoL, noRoV, noRoL_bys], ?_⟩
  conv => whnf
  repeat ((refine ⟨rfl, ?_⟩); conv => whnf)
  refine ⟨_, _, refnum_ok e.kind, by first | rfl | simp [noRoIf, noRoL, noRoV, noRoL_bys], ?_⟩
  conv => whnf
  repeat ((first | refine ⟨pureL_bys _, ?_⟩ | refine ⟨rfl, ?_⟩); conv => whnf)
  refine ⟨_, _, refbytes_ok e.val, by first | rfl | simp [noRoIf, noRoL, noRoV, noRoL_bys], ?_⟩
  conv => whnf
  repeat ((refine ⟨⟨rfl, rfl⟩, ?_⟩); conv => whnf)
  conv => whnf
  refine Does.freeze 1 rfl (wpc_sound (M := MF) (PL := PL0) (CU := noCut) TTok mixed _ _ _ ?_)
  conv => whnf
  exact ⟨⟨rfl, rfl, Eq.trans (b := sixV e (roW e.key)) (by kernel_rfl) (sixV_eq e), rfl, pureL_toks (sixT e)⟩, rfl⟩
end
section
--KR
attribute [local irreducible] ifB fitP Does Weaker
def PLeb : Nat → Bool × Plan := plans [(1, (false, (takesTo [2] (.all [(0, (.all [(1, (.all [(3, (.all [(4, (takes [5]))]))])), (3, (.all [(1, (.all [(4, (takes [5]))]))]))]))]))))]
set_option maxRecDepth 20000 in
set_option maxHeartbeats 4000000 in
theorem refebytes_ok (e : Ent) (he : EntS e) : ACall Tryd.prog 72 [.agg (entC e)] (.own (encR validR (entTs e)).1.length 1 (bys (encR validR (entTs e)).1)) [] := by
 have ht := entTs_ok e he
 have hb := refEncode_ok (entTs e) ht.1 (fun t h => by have := ht.2 t h; omega)
 generalize encR validR (entTs e) = o at hb ⊢
 obtain ⟨o, er⟩ := o
 dsimp only at hb ⊢
 refine ACall.of_does TTok Tryd.func72 rfl Tryd.call72 rfl (wpc_sound (M := MF) (PL := PLeb) (CU := cutAt [100001]) TTok mixed _ _ _ ?_)
 conv => whnf
 repeat ((refine ⟨rfl, ?_⟩); conv => whnf)
 refine Does.freeze 0 rfl (Does.tidy [(1, .rop (entC e))] [] 1 22 rfl rfl rfl (by kernel_rfl) (by kernel_rfl) ?_)
 refine wpc_sound (M := MF) (PL := PLeb) (CU := noCut) TTok mixed _ _ _ ?_
 conv => whnf
 refine ⟨by kernel_rfl, ?_⟩
 conv => whnf
 repeat ((first | refine ⟨rfl, ?_⟩ | refine ⟨_, rfl, ?_⟩); conv => whnf)
 refine ⟨_, _, refarray_ok 7, by first | rfl | simp [noRoIf, noRoL, noRoV, noRoL_bys], ?_⟩
 conv => whnf
 refine ⟨?_, ?_⟩
 ·conv => whnf
  repeat ((first | refine ⟨entC_pure _, ?_⟩ | refine ⟨rfl, ?_⟩ | refine ⟨⟨rfl, rfl⟩, ?_⟩); conv => whnf)
  conv => whnf
  refine ⟨_, _, six_ok e he, by first | rfl | simp [noRoIf, noRoL, noRoV, noRoL_bys], ?_⟩
  conv => whnf
  conv => whnf
  refine Or.inl ⟨⟨rfl, rfl, by rw [toksC_length]; rfl⟩, ?_⟩
  conv => whnf
  repeat ((first | (refine ⟨⟨by first | (simp only [List.drop_zero, List.length_drop, hds_len]; omega) | exact Nat.le_of_ble_eq_true (by kernel_rfl), okB_none _⟩, ?_⟩) | refine ⟨rfl, ?_⟩ | (refine ⟨⟨rfl, ?_, ?_, ?_⟩, ?_⟩; (focus (first | (simp; done) | (simp; omega))); (focus (first | exact Or.inl rfl | exact Or.inr (by omega))); (focus (first | (simp [limB, lenB, offB]; done) | (simp [limB, lenB, offB]; omega))))); conv => whnf)
  refine ⟨_, _, (refbytes_ok e.sig).arg1 he.sig.2.symm (cut64 he.sig.2 _), by first | rfl | simp [noRoIf, noRoL, noRoV, noRoL_bys], ?_⟩
  conv => whnf
  repeat ((first | (refine Or.inl ⟨⟨rfl, ?_⟩, ?_⟩; (focus (first | rfl | (simp; done) | (rw [toksC_length]; omega)))) | refine ⟨rfl, ?_⟩ | refine ⟨⟨rfl, rfl⟩, ?_⟩); conv => whnf)
  refine ⟨⟨rfl, rfl, by kernel_rfl, by simp [limB]⟩, ?_⟩
  conv => whnf
  repeat ((first | (refine Or.inl ⟨⟨rfl, ?_⟩, ?_⟩; (focus (first | rfl | (simp; done) | (rw [toksC_length]; omega)))) | refine ⟨rfl, ?_⟩ | (refine And.intro ?_ ?_; (focus (simp [pureL, pureV, pureL_bys, pureL_toks, pureL_app]; done)))); conv => whnf)
  refine ⟨_, _, hb.arg1 rfl (by kernel_rfl), by first | rfl | simp [noRoIf, noRoL, noRoV, noRoL_bys], ?_⟩
  conv => whnf
  repeat ((refine ⟨⟨rfl, rfl, rfl, ?_, pureL_bys _⟩, ?_⟩; (focus (simp; done))); conv => whnf)
  rfl
 ·conv => whnf
  repeat ((first | refine ⟨entC_pure _, ?_⟩ | refine ⟨rfl, ?_⟩); conv => whnf)
  refine ⟨_, _, six_ok e he, by first | rfl | simp [noRoIf, noRoL, noRoV, noRoL_bys], ?_⟩
  conv => whnf
  repeat ((refine ⟨⟨rfl, rfl⟩, ?_⟩); conv => whnf)
  conv => whnf
  conv => whnf
  refine Or.inl ⟨⟨rfl, rfl, by rw [toksC_length]; rfl⟩, ?_⟩
  conv => whnf
  repeat ((first | (refine ⟨⟨by first | (simp only [List.drop_zero, List.length_drop, hds_len]; omega) | exact Nat.le_of_ble_eq_true (by kernel_rfl), okB_none _⟩, ?_⟩) | refine ⟨rfl, ?_⟩ | (refine ⟨⟨rfl, ?_, ?_, ?_⟩, ?_⟩; (focus (first | (simp; done) | (simp; omega))); (focus (first | exact Or.inl rfl | exact Or.inr (by omega))); (focus (first | (simp [limB, lenB, offB]; done) | (simp [limB, lenB, offB]; omega))))); conv => whnf)
  refine ⟨_, _, (refbytes_ok e.sig).arg1 he.sig.2.symm (cut64 he.sig.2 _), by first | rfl | simp [noRoIf, noRoL, noRoV, noRoL_bys], ?_⟩
  conv => whnf
  repeat ((first | (refine Or.inl ⟨⟨rfl, ?_⟩, ?_⟩; (focus (first | rfl | (simp; done) | (rw [toksC_length]; omega)))) | refine ⟨rfl, ?_⟩ | refine ⟨⟨rfl, rfl⟩, ?_⟩); conv => whnf)
  refine ⟨⟨rfl, rfl, by kernel_rfl, by simp [limB]⟩, ?_⟩
  conv => whnf
  repeat ((first | (refine Or.inl ⟨⟨rfl, ?_⟩, ?_⟩; (focus (first | rfl | (simp; done) | (rw [toksC_length]; omega)))) | refine ⟨rfl, ?_⟩ | (refine And.intro ?_ ?_; (focus (simp [pureL, pureV, pureL_bys, pureL_toks, pureL_app]; done)))); conv => whnf)
  refine ⟨_, _, hb.arg1 rfl (by kernel_rfl), by first | rfl | simp [noRoIf, noRoL, noRoV, noRoL_bys], ?_⟩
  conv => whnf
  repeat ((refine ⟨⟨rfl, rfl, rfl, ?_, pureL_bys _⟩, ?_⟩; (focus (simp; done))); conv => whnf)
  rfl
end
section
--KR
attribute [local irreducible] ifB fitP Does Weaker
end
section
--KR
attribute [local irreducible] ifB fitP Does Weaker demsP
end
section
--KR
attribute [local irreducible] ifB fitP Does Weaker
theorem cmp_neg (x y : List Int) : decide (cmpI x y < 0) = bytesLt x y := by
 unfold cmpI
 cases h : bytesLt x y
 ·simp; split <;> omega
 ·simp
theorem prfR_eq {p : Prf} (hp : PrfS p) : prfR p = (entR p.a && entR p.b && decide (p.a.au = p.b.au) && decide (p.a.seq = p.b.seq) && bytesLt (encR validR (entTs p.a)).1 (encR validR (entTs p.b)).1) := by
 unfold prfR ordR
 rw [← entB_err hp.a, ← entB_err hp.b]
 by_cases c1 : (entB p.a).2 = 0
 ·by_cases c2 : (entB p.b).2 = 0
  ·rw [if_neg (by omega), if_neg (by omega), dt c1, dt c2]
   have x1 : (encR validR (entTs p.a)).1 = (entB p.a).1 := by rw [(entB_right c1).2]
   have x2 : (encR validR (entTs p.b)).1 = (entB p.b).1 := by rw [(entB_right c2).2]
   rw [x1, x2]
   by_cases c3 : p.a.au = p.b.au
   ·by_cases c4 : p.a.seq = p.b.seq
    ·rw [if_neg (fun h => h c3), if_neg (fun h => h c4), dt c3, dt c4, cmp_neg]; rfl
    ·rw [if_neg (fun h => h c3), if_pos c4, dt c3, df c4]; rfl
   ·rw [if_pos c3, df c3]; rfl
  ·rw [if_neg (by omega), if_pos c2, dt c1, df c2]; rfl
 ·rw [if_pos c1, df c1]; rfl
theorem enc_byt {e : Ent} (he : EntS e) : Byt (encR validR (entTs e)).1 := encR_byt _ (entTs_ok e he).1
def PLrp : Nat → Bool × Plan := plans [(1, (false, (takesTo [0, 1] (.all [(2, (takesTo [3, 4, 5] (.all [(6, (takesTo [7, 8, 9, 10, 11, 12, 13, 14, 15, 16, 17, 18, 19, 20, 21, 22, 23, 24, 25, 26, 27, 28, 31, 32] (.all [(29, (.all [(30, (.all [(33, (.all [(34, (takes [35, 36, 37]))]))])), (33, (.all [(30, (.all [(34, (takes [35, 36, 37]))])), (34, (.all [(30, (takes [35, 36, 37]))]))]))]))])))])))]))))]
set_option maxRecDepth 20000 in
set_option maxHeartbeats 4000000 in
theorem refproof_ok (p : Prf) (hp : PrfS p) : ACall Tryd.prog 64 [.agg (prfC p)] (.bool (prfR p)) [] := by
 rw [prfR_eq hp]
 have h1 := refentry_ok p.a hp.a
 have h2 := refentry_ok p.b hp.b
 have h3 := refebytes_ok p.a hp.a
 have h4 := refebytes_ok p.b hp.b
 have b1 := enc_byt hp.a
 have b2 := enc_byt hp.b
 generalize (encR validR (entTs p.a)).1 = x at h3 b1 ⊢
 generalize (encR validR (entTs p.b)).1 = y at h4 b2 ⊢
 refine ACall.of_does TTok Tryd.func64 rfl Tryd.call64 rfl (wpc_sound (M := MF) (PL := PLrp) (CU := cutAt [100001]) TTok mixed _ _ _ ?_)
 conv => whnf
 repeat ((refine ⟨rfl, ?_⟩); conv => whnf)
 refine Does.freeze 0 rfl (Does.tidy [(1, .rop (prfC p))] [] 1 40 rfl rfl rfl (by kernel_rfl) (by kernel_rfl) ?_)
 refine wpc_sound (M := MF) (PL := PLrp) (CU := noCut) TTok mixed _ _ _ ?_
 conv => whnf
 refine ⟨by kernel_rfl, ?_⟩
 cases c1 : entR p.a <;> rw [c1] at h1
 ·conv => whnf
  repeat ((first | refine ⟨entC_pure _, ?_⟩ | refine ⟨rfl, ?_⟩ | refine ⟨_, rfl, ?_⟩); conv => whnf)
  refine ⟨_, _, h1, by first | rfl | simp [noRoIf, noRoL, noRoV, noRoL_bys], ?_⟩
  conv => whnf
  repeat ((first | refine ifB_f ?_ | refine ⟨rfl, ?_⟩); conv => whnf)
  conv => whnf
  repeat' (first | (refine ifB_f ?_; (conv => whnf)) | (refine ⟨rfl, ?_⟩; (conv => whnf)) | (rfl) | (refine ⟨_, rfl, ?_⟩; conv => whnf) | (refine And.intro ?_ ?_ <;> conv => whnf))
 cases c2 : entR p.b <;> rw [c2] at h2
 ·conv => whnf
  repeat ((first | refine ⟨entC_pure _, ?_⟩ | refine ⟨rfl, ?_⟩ | refine ⟨_, rfl, ?_⟩); conv => whnf)
  refine ⟨_, _, h1, by first | rfl | simp [noRoIf, noRoL, noRoV, noRoL_bys], ?_⟩
  conv => whnf
  repeat ((first | refine ifB_t ?_ | refine ⟨entC_pure _, ?_⟩ | refine ⟨rfl, ?_⟩ | refine ⟨_, rfl, ?_⟩); conv => whnf)
  refine ⟨_, _, h2, by first | rfl | simp [noRoIf, noRoL, noRoV, noRoL_bys], ?_⟩
  conv => whnf
  repeat ((first | refine ifB_t ?_ | refine ifB_f ?_ | refine ⟨rfl, ?_⟩); conv => whnf)
  conv => whnf
  repeat' (first | (refine ifB_f ?_; (conv => whnf)) | (refine ⟨rfl, ?_⟩; (conv => whnf)) | (rfl) | (refine ⟨_, rfl, ?_⟩; conv => whnf) | (refine And.intro ?_ ?_ <;> conv => whnf))
 by_cases c3 : p.a.au = p.b.au
 ·rw [dt c3]
  by_cases c4 : p.a.seq = p.b.seq
  ·rw [dt c4]
   conv => whnf
   repeat ((first | refine ⟨entC_pure _, ?_⟩ | refine ⟨rfl, ?_⟩ | refine ⟨_, rfl, ?_⟩); conv => whnf)
   refine ⟨_, _, h1, by first | rfl | simp [noRoIf, noRoL, noRoV, noRoL_bys], ?_⟩
   conv => whnf
   repeat ((first | refine ifB_t ?_ | refine ⟨entC_pure _, ?_⟩ | refine ⟨rfl, ?_⟩ | refine ⟨_, rfl, ?_⟩); conv => whnf)
   refine ⟨_, _, h2, by first | rfl | simp [noRoIf, noRoL, noRoV, noRoL_bys], ?_⟩
   conv => whnf
   repeat ((first | refine ifB_t ?_ | refine ⟨rfl, ?_⟩ | refine ⟨_, rfl, ?_⟩); conv => whnf)
   refine ⟨p.a.au, p.b.au, ⟨rfl, c32_map hp.a.au.2, c32_map hp.b.au.2, hp.a.au.2, hp.b.au.2⟩, ?_⟩
   conv => whnf
   repeat ((first | refine ifB_t ?_ | (refine ifB_pos (decide_eq_true (by first | omega | rfl | (dsimp only; omega))) ?_) | refine ⟨entC_pure _, ?_⟩ | refine ⟨rfl, ?_⟩ | refine ⟨_, rfl, ?_⟩); conv => whnf)
   rw [dt c3]
   conv => whnf
   refine ⟨_, _, h3, by first | rfl | simp [noRoIf, noRoL, noRoV, noRoL_bys], ?_⟩
   conv => whnf
   refine ⟨?_, ?_⟩
   ·conv => whnf
    repeat ((first | refine ifB_t ?_ | (refine Or.inl ⟨⟨rfl, ?_⟩, ?_⟩; (focus (first | rfl | (simp; done) | (rw [toksC_length]; omega))))); conv => whnf)
    refine ⟨x, ⟨by first | rfl | (simp [bys]; done) | exact whole_bys x, b1⟩, ?_⟩
    conv => whnf
    repeat ((first | refine ifB_t ?_ | refine ⟨entC_pure _, ?_⟩ | refine ⟨rfl, ?_⟩); conv => whnf)
    refine ⟨_, _, h4, by first | rfl | simp [noRoIf, noRoL, noRoV, noRoL_bys], ?_⟩
    conv => whnf
    repeat ((first | refine ifB_t ?_ | (refine Or.inl ⟨⟨rfl, ?_⟩, ?_⟩; (focus (first | rfl | (simp; done) | (rw [toksC_length]; omega))))); conv => whnf)
    refine ⟨y, ⟨by first | rfl | (simp [bys]; done) | exact whole_bys y, b2⟩, ?_⟩
    conv => whnf
    repeat ((first | refine ifB_t ?_ | refine ⟨rfl, ?_⟩); conv => whnf)
    rfl
   ·conv => whnf
    repeat ((first | refine ifB_t ?_ | refine ⟨entC_pure _, ?_⟩ | refine ⟨rfl, ?_⟩); conv => whnf)
    refine ⟨_, _, h4, by first | rfl | simp [noRoIf, noRoL, noRoV, noRoL_bys], ?_⟩
    conv => whnf
    refine ⟨?_, ?_⟩
    ·conv => whnf
     repeat ((first | refine ifB_t ?_ | (refine Or.inl ⟨⟨rfl, ?_⟩, ?_⟩; (focus (first | rfl | (simp; done) | (rw [toksC_length]; omega))))); conv => whnf)
     refine ⟨x, ⟨by first | rfl | (simp [bys]; done) | exact whole_bys x, b1⟩, ?_⟩
     conv => whnf
     repeat ((first | refine ifB_t ?_ | (refine Or.inl ⟨⟨rfl, ?_⟩, ?_⟩; (focus (first | rfl | (simp; done) | (rw [toksC_length]; omega))))); conv => whnf)
     refine ⟨y, ⟨by first | rfl | (simp [bys]; done) | exact whole_bys y, b2⟩, ?_⟩
     conv => whnf
     repeat ((first | refine ifB_t ?_ | refine ⟨rfl, ?_⟩); conv => whnf)
     rfl
    ·conv => whnf
     repeat ((first | refine ifB_t ?_ | (refine Or.inl ⟨⟨rfl, ?_⟩, ?_⟩; (focus (first | rfl | (simp; done) | (rw [toksC_length]; omega))))); conv => whnf)
     refine ⟨y, ⟨by first | rfl | (simp [bys]; done) | exact whole_bys y, b2⟩, ?_⟩
     conv => whnf
     repeat ((first | refine ifB_t ?_ | (refine Or.inl ⟨⟨rfl, ?_⟩, ?_⟩; (focus (first | rfl | (simp; done) | (rw [toksC_length]; omega))))); conv => whnf)
     refine ⟨x, ⟨by first | rfl | (simp [bys]; done) | exact whole_bys x, b1⟩, ?_⟩
     conv => whnf
     repeat ((first | refine ifB_t ?_ | refine ⟨rfl, ?_⟩); conv => whnf)
     rfl
  ·rw [df c4]
   conv => whnf
   repeat ((first | refine ⟨entC_pure _, ?_⟩ | refine ⟨rfl, ?_⟩ | refine ⟨_, rfl, ?_⟩); conv => whnf)
   refine ⟨_, _, h1, by first | rfl | simp [noRoIf, noRoL, noRoV, noRoL_bys], ?_⟩
   conv => whnf
   repeat ((first | refine ifB_t ?_ | refine ⟨entC_pure _, ?_⟩ | refine ⟨rfl, ?_⟩ | refine ⟨_, rfl, ?_⟩); conv => whnf)
   refine ⟨_, _, h2, by first | rfl | simp [noRoIf, noRoL, noRoV, noRoL_bys], ?_⟩
   conv => whnf
   repeat ((first | refine ifB_t ?_ | refine ⟨rfl, ?_⟩ | refine ⟨_, rfl, ?_⟩); conv => whnf)
   refine ⟨p.a.au, p.b.au, ⟨rfl, c32_map hp.a.au.2, c32_map hp.b.au.2, hp.a.au.2, hp.b.au.2⟩, ?_⟩
   conv => whnf
   repeat ((first | refine ifB_t ?_ | refine ifB_f ?_ | (refine ifB_neg (decide_eq_false (by first | omega | rfl | (dsimp only; omega))) ?_) | (refine ifB_pos (decide_eq_true (by first | omega | rfl | (dsimp only; omega))) ?_) | refine ⟨rfl, ?_⟩ | refine ⟨_, rfl, ?_⟩); conv => whnf)
   rw [dt c3]
   conv => whnf
   conv => whnf
   repeat' (first | (refine ifB_f ?_; (conv => whnf)) | (refine ⟨rfl, ?_⟩; (conv => whnf)) | (rfl) | (refine ⟨_, rfl, ?_⟩; conv => whnf) | (refine And.intro ?_ ?_ <;> conv => whnf))
 ·rw [df c3]
  conv => whnf
  repeat ((first | refine ⟨entC_pure _, ?_⟩ | refine ⟨rfl, ?_⟩ | refine ⟨_, rfl, ?_⟩); conv => whnf)
  refine ⟨_, _, h1, by first | rfl | simp [noRoIf, noRoL, noRoV, noRoL_bys], ?_⟩
  conv => whnf
  repeat ((first | refine ifB_t ?_ | refine ⟨entC_pure _, ?_⟩ | refine ⟨rfl, ?_⟩ | refine ⟨_, rfl, ?_⟩); conv => whnf)
  refine ⟨_, _, h2, by first | rfl | simp [noRoIf, noRoL, noRoV, noRoL_bys], ?_⟩
  conv => whnf
  repeat ((first | refine ifB_t ?_ | refine ⟨rfl, ?_⟩ | refine ⟨_, rfl, ?_⟩); conv => whnf)
  refine ⟨p.a.au, p.b.au, ⟨rfl, c32_map hp.a.au.2, c32_map hp.b.au.2, hp.a.au.2, hp.b.au.2⟩, ?_⟩
  conv => whnf
  repeat ((first | refine ifB_t ?_ | refine ifB_f ?_ | (refine ifB_neg (decide_eq_false (by first | omega | rfl | (dsimp only; omega))) ?_) | refine ⟨rfl, ?_⟩); conv => whnf)
  rw [df c3]
  conv => whnf
  conv => whnf
  repeat' (first | (refine ifB_f ?_; (conv => whnf)) | (refine ⟨rfl, ?_⟩; (conv => whnf)) | (rfl) | (refine ⟨_, rfl, ?_⟩; conv => whnf) | (refine And.intro ?_ ?_ <;> conv => whnf))
end
section
--KR
attribute [local irreducible] ifB fitP Does Weaker
end
section
--KR
attribute [local irreducible] ifB fitP Does Weaker demsP
end
section
--KR
attribute [local irreducible] ifB fitP Does Weaker
def PLrh : Nat → Bool × Plan := plans [(7, (false, (takesTo [0, 1] (.all [(2, (takesTo [3, 4, 5, 6, 7, 8, 9, 10, 11, 12, 13, 14, 15, 16, 17, 18, 19, 20, 21, 22, 23, 24, 25, 26, 27, 28, 29, 31, 32, 33, 34, 35, 36] (.all [(30, (.all [(37, (takes [38, 39, 40]))])), (37, (.all [(30, (takes [38, 39, 40]))]))])))]))))]
theorem lt_flip (a b : List Int) : (bytesLt a b || decide (a = b)) = !bytesLt b a := lt_tri a b
set_option maxHeartbeats 2000000 in
theorem refheads_ok (l : List Hd) (hl : ∀ h ∈ l, HdS h) (hn : l.length ≤ 1000000000) : ACall Tryd.prog 63 [.ro l.length (rowsC hdC l)] (.bool (headsR l)) [] := by
 refine ACall.of_does TTok Tryd.func63 rfl Tryd.call63 rfl (wpc_sound (M := MF) (PL := PLrh) (CU := noCut) TTok mixed _ _ _ ?_)
 conv => whnf
 refine ifB_dec (fun c0 => ?_) (fun c0 => ?_)
 ·have : headsR l = false := by unfold headsR; rw [df (show ¬ l.length ≤ 8 by omega)]; rfl
  rw [this]
  conv => whnf
  repeat ((refine ⟨rfl, ?_⟩); conv => whnf)
  rfl
 conv => whnf
 refine Does.loop (fun c : Nat => mkSt [(0, .ro l.length (rowsC hdC l)), (3, .int .i64 c)] [] 0 59)
  (fun c => c ≤ l.length ∧ (List.range c).all (hdAt l) = true) (fun c => l.length - c) ?_ 0 ⟨Nat.zero_le _, rfl⟩ ?_
 ·rintro c ⟨hc, hx⟩
  rcases Nat.lt_or_ge c l.length with c1 | c1
  ·have hh := hl _ (List.getElem_mem c1)
   have e : hdAt l c = ((decide (c = 0) || bytesLt (l.getD (c - 1) hd0).au l[c].au) && hdR l[c]) := by
    unfold hdAt; rw [List.getD_eq_getElem?_getD (i := c), List.getElem?_eq_getElem c1]; rfl
   refine wpc_sound (M := MF) (PL := PLrh) (CU := cutAt [100007]) TTok mixed _ _ _ ?_
   conv => whnf
   repeat ((first | (refine ifB_pos (decide_eq_true (by first | omega | rfl | (dsimp only; omega))) ?_) | (refine ⟨⟨?_, ?_, ?_⟩, ?_⟩; (focus omega); (focus (first | omega | (simp; done) | (simp; omega))); (focus (first | (rw [prfs_len]; simp; omega) | (rw [ents_len]; simp; omega) | (rw [hds_len]; simp; omega) | (rw [lets_len]; simp; omega))))); conv => whnf)
   refine ⟨_, takeN_row hdC_length c1 (by simp; omega) rfl, ?_⟩
   conv => whnf
   repeat ((first | refine ⟨(⟨by kernel_rfl, by kernel_rfl, Nat.le_of_ble_eq_true (by kernel_rfl)⟩ : AV.ones _ = true ∧ _ ∧ _), ?_⟩ | refine ⟨rfl, ?_⟩); conv => whnf)
   generalize hq : l[c] = q at hh e ⊢
   refine Does.freeze 0 rfl (Does.tidy [(0, .ro l.length (rowsC hdC l)), (3, .int .i64 c), (4, .rop (hdC q))] [] 1 59 rfl rfl rfl (by kernel_rfl) (by kernel_rfl) ?_)
   have hi := in_ok q.len 0 200
   refine wpc_sound (M := MF) (PL := PLrh) (CU := noCut) TTok mixed _ _ _ ?_
   conv => whnf
   refine ⟨by kernel_rfl, ?_⟩
   unfold hdR at e
   by_cases c3 : 0 ≤ q.len ∧ q.len ≤ 200
   case neg =>
    have : (decide (0 ≤ q.len) && decide (q.len ≤ 200)) = false := by
     rw [Bool.and_eq_false_iff]
     by_cases h : 0 ≤ q.len
     ·exact .inr (df (fun k => c3 ⟨h, k⟩))
     ·exact .inl (df h)
    rw [this, Bool.false_and, Bool.false_and, Bool.and_false] at e
    rw [headsR_no c1 e]
    rw [df c3] at hi
    conv => whnf
    repeat ((first | refine ⟨rfl, ?_⟩ | refine ⟨_, rfl, ?_⟩); conv => whnf)
    refine ⟨_, _, hi, by first | rfl | simp [noRoIf, noRoL, noRoV, noRoL_bys], ?_⟩
    conv => whnf
    repeat ((first | refine ifB_t ?_ | refine ⟨rfl, ?_⟩); conv => whnf)
    conv => whnf
    repeat' (first | (refine ifB_t ?_; (conv => whnf)) | (refine ⟨rfl, ?_⟩; (conv => whnf)) | (rfl) | (refine ⟨_, rfl, ?_⟩; conv => whnf) | (refine And.intro ?_ ?_ <;> conv => whnf))
   rw [dt c3] at hi
   rw [dt c3.1, dt c3.2] at e
   by_cases c6 : q.len = 0
   ·rw [dt (show q.len ≤ 0 by omega), df (show ¬ q.len ≠ 0 by omega), Bool.or_true, Bool.false_or] at e
    conv => whnf
    repeat ((first | refine ⟨rfl, ?_⟩ | refine ⟨_, rfl, ?_⟩); conv => whnf)
    refine ⟨_, _, hi, by first | rfl | simp [noRoIf, noRoL, noRoV, noRoL_bys], ?_⟩
    conv => whnf
    repeat ((first | refine ifB_t ?_ | refine ifB_f ?_ | (refine ifB_pos (decide_eq_true (by first | omega | rfl | (dsimp only; omega))) ?_) | refine ⟨rfl, ?_⟩ | refine ⟨_, rfl, ?_⟩); conv => whnf)
    refine ⟨q.id, z32, ⟨rfl, c32_map hh.id.2, rfl, hh.id.2, rfl⟩, ?_⟩
    conv => whnf
    repeat ((first | refine ifB_t ?_ | refine ifB_f ?_); conv => whnf)
    by_cases c7 : q.id = z32
    ·rw [dt c7] at e ⊢
     conv => whnf
     repeat ((first | refine ifB_f ?_ | refine ⟨rfl, ?_⟩ | refine ⟨_, rfl, ?_⟩); conv => whnf)
     cases c8 : q.shut
     ·conv => whnf
      repeat ((first | refine ifB_f ?_ | refine ⟨rfl, ?_⟩); conv => whnf)
      rcases Nat.eq_zero_or_pos c with k0 | k0
      ·rw [dt k0, Bool.true_or] at e
       refine ifB_neg (df (by omega)) ?_
       conv => whnf
       repeat ((refine ifB_f ?_); conv => whnf)
       conv => whnf
       repeat' (first | (refine ifB_f ?_; (conv => whnf)) | (refine fit_i64 ⟨by first | omega | rfl | (dsimp only; omega), by first | omega | rfl | (dsimp only; omega)⟩ ?_; (conv => whnf)) | (exact ⟨c + 1, ⟨by omega, range_snoc hx e⟩, by omega, weaker_of [] rfl rfl ⟨⟨rfl, rfl, hds_pure _⟩, ⟨rfl, rfl⟩, trivial⟩ trivial⟩) | (refine ⟨_, rfl, ?_⟩; conv => whnf) | (refine And.intro ?_ ?_ <;> conv => whnf))
      ·rw [df (show ¬ c = 0 by omega), Bool.false_or, List.getD_eq_getElem?_getD, List.getElem?_eq_getElem (show c - 1 < l.length by omega), Option.getD_some] at e
       have hp := hl _ (List.getElem_mem (show c - 1 < l.length by omega))
       have ec := cut_hd (l := l) (j := c - 1) (m := ((c : Int) - 1).toNat * 66) (by omega) (by omega) hp.au.2
       refine ifB_pos (dt (by omega)) ?_
       conv => whnf
       repeat ((first | refine ifB_t ?_ | (refine fit_i64 ⟨by first | omega | rfl | (dsimp only; omega), by first | omega | rfl | (dsimp only; omega)⟩ ?_) | (refine ⟨⟨by first | (simp only [List.drop_zero, List.length_drop, hds_len]; omega) | exact Nat.le_of_ble_eq_true (by kernel_rfl), okB_none _⟩, ?_⟩) | (refine ⟨⟨?_, ?_, ?_⟩, ?_⟩; (focus omega); (focus (first | omega | (simp; done) | (simp; omega))); (focus (first | (rw [prfs_len]; simp; omega) | (rw [ents_len]; simp; omega) | (rw [hds_len]; simp; omega) | (rw [lets_len]; simp; omega))))); conv => whnf)
       refine ⟨?_, ?_⟩
       ·conv => whnf
        repeat ((first | refine ifB_t ?_ | refine ⟨rfl, ?_⟩); conv => whnf)
        refine ⟨q.au, ⟨cut32 hh.au.2 _, hh.au.1⟩, ?_⟩
        conv => whnf
        repeat ((refine ifB_t ?_); conv => whnf)
        refine ⟨(congrArg List.length ec).trans ((List.length_map _).trans hp.au.2), ?_⟩
        refine ⟨l[c - 1].au, ⟨ec, hp.au.1⟩, ?_⟩
        conv => whnf
        repeat ((first | refine ifB_t ?_ | refine ifB_f ?_); conv => whnf)
        rw [lt_flip]
        cases c9 : bytesLt l[c - 1].au q.au
        ·rw [c9, Bool.false_and] at e
         rw [headsR_no c1 e]
         conv => whnf
         repeat ((first | refine ifB_t ?_ | refine ⟨rfl, ?_⟩); conv => whnf)
         rfl
        ·rw [c9, Bool.true_and] at e
         conv => whnf
         repeat ((first | refine ifB_f ?_ | (refine fit_i64 ⟨by first | omega | rfl | (dsimp only; omega), by first | omega | rfl | (dsimp only; omega)⟩ ?_)); conv => whnf)
         exact ⟨c + 1, ⟨by omega, range_snoc hx e⟩, by omega, weaker_of [] rfl rfl ⟨⟨rfl, rfl, hds_pure _⟩, ⟨rfl, rfl⟩, trivial⟩ trivial⟩
       ·conv => whnf
        repeat ((refine ifB_t ?_); conv => whnf)
        refine ⟨(congrArg List.length ec).trans ((List.length_map _).trans hp.au.2), ?_⟩
        refine ⟨l[c - 1].au, ⟨ec, hp.au.1⟩, ?_⟩
        conv => whnf
        repeat ((first | refine ifB_t ?_ | refine ⟨rfl, ?_⟩); conv => whnf)
        refine ⟨q.au, ⟨cut32 hh.au.2 _, hh.au.1⟩, ?_⟩
        conv => whnf
        repeat ((first | refine ifB_t ?_ | refine ifB_f ?_); conv => whnf)
        rw [lt_flip]
        cases c9 : bytesLt l[c - 1].au q.au
        ·rw [c9, Bool.false_and] at e
         rw [headsR_no c1 e]
         conv => whnf
         repeat ((first | refine ifB_t ?_ | refine ⟨rfl, ?_⟩); conv => whnf)
         rfl
        ·rw [c9, Bool.true_and] at e
         conv => whnf
         repeat ((first | refine ifB_f ?_ | (refine fit_i64 ⟨by first | omega | rfl | (dsimp only; omega), by first | omega | rfl | (dsimp only; omega)⟩ ?_)); conv => whnf)
         exact ⟨c + 1, ⟨by omega, range_snoc hx e⟩, by omega, weaker_of [] rfl rfl ⟨⟨rfl, rfl, hds_pure _⟩, ⟨rfl, rfl⟩, trivial⟩ trivial⟩
     ·conv => whnf
      repeat ((first | refine ifB_t ?_ | refine ifB_f ?_ | (refine ifB_neg (decide_eq_false (by first | omega | rfl | (dsimp only; omega))) ?_) | refine ⟨rfl, ?_⟩ | refine ⟨_, rfl, ?_⟩); conv => whnf)
      rcases Nat.eq_zero_or_pos c with k0 | k0
      ·rw [dt k0, Bool.true_or] at e
       refine ifB_neg (df (by omega)) ?_
       conv => whnf
       repeat ((refine ifB_f ?_); conv => whnf)
       conv => whnf
       repeat' (first | (refine ifB_f ?_; (conv => whnf)) | (refine fit_i64 ⟨by first | omega | rfl | (dsimp only; omega), by first | omega | rfl | (dsimp only; omega)⟩ ?_; (conv => whnf)) | (exact ⟨c + 1, ⟨by omega, range_snoc hx e⟩, by omega, weaker_of [] rfl rfl ⟨⟨rfl, rfl, hds_pure _⟩, ⟨rfl, rfl⟩, trivial⟩ trivial⟩) | (refine ⟨_, rfl, ?_⟩; conv => whnf) | (refine And.intro ?_ ?_ <;> conv => whnf))
      ·rw [df (show ¬ c = 0 by omega), Bool.false_or, List.getD_eq_getElem?_getD, List.getElem?_eq_getElem (show c - 1 < l.length by omega), Option.getD_some] at e
       have hp := hl _ (List.getElem_mem (show c - 1 < l.length by omega))
       have ec := cut_hd (l := l) (j := c - 1) (m := ((c : Int) - 1).toNat * 66) (by omega) (by omega) hp.au.2
       refine ifB_pos (dt (by omega)) ?_
       conv => whnf
       repeat ((first | refine ifB_t ?_ | (refine fit_i64 ⟨by first | omega | rfl | (dsimp only; omega), by first | omega | rfl | (dsimp only; omega)⟩ ?_) | (refine ⟨⟨by first | (simp only [List.drop_zero, List.length_drop, hds_len]; omega) | exact Nat.le_of_ble_eq_true (by kernel_rfl), okB_none _⟩, ?_⟩) | (refine ⟨⟨?_, ?_, ?_⟩, ?_⟩; (focus omega); (focus (first | omega | (simp; done) | (simp; omega))); (focus (first | (rw [prfs_len]; simp; omega) | (rw [ents_len]; simp; omega) | (rw [hds_len]; simp; omega) | (rw [lets_len]; simp; omega))))); conv => whnf)
       refine ⟨?_, ?_⟩
       ·conv => whnf
        repeat ((first | refine ifB_t ?_ | refine ⟨rfl, ?_⟩); conv => whnf)
        refine ⟨q.au, ⟨cut32 hh.au.2 _, hh.au.1⟩, ?_⟩
        conv => whnf
        repeat ((refine ifB_t ?_); conv => whnf)
        refine ⟨(congrArg List.length ec).trans ((List.length_map _).trans hp.au.2), ?_⟩
        refine ⟨l[c - 1].au, ⟨ec, hp.au.1⟩, ?_⟩
        conv => whnf
        repeat ((first | refine ifB_t ?_ | refine ifB_f ?_); conv => whnf)
        rw [lt_flip]
        cases c9 : bytesLt l[c - 1].au q.au
        ·rw [c9, Bool.false_and] at e
         rw [headsR_no c1 e]
         conv => whnf
         repeat ((first | refine ifB_t ?_ | refine ⟨rfl, ?_⟩); conv => whnf)
         rfl
        ·rw [c9, Bool.true_and] at e
         conv => whnf
         repeat ((first | refine ifB_f ?_ | (refine fit_i64 ⟨by first | omega | rfl | (dsimp only; omega), by first | omega | rfl | (dsimp only; omega)⟩ ?_)); conv => whnf)
         exact ⟨c + 1, ⟨by omega, range_snoc hx e⟩, by omega, weaker_of [] rfl rfl ⟨⟨rfl, rfl, hds_pure _⟩, ⟨rfl, rfl⟩, trivial⟩ trivial⟩
       ·conv => whnf
        repeat ((refine ifB_t ?_); conv => whnf)
        refine ⟨(congrArg List.length ec).trans ((List.length_map _).trans hp.au.2), ?_⟩
        refine ⟨l[c - 1].au, ⟨ec, hp.au.1⟩, ?_⟩
        conv => whnf
        repeat ((first | refine ifB_t ?_ | refine ⟨rfl, ?_⟩); conv => whnf)
        refine ⟨q.au, ⟨cut32 hh.au.2 _, hh.au.1⟩, ?_⟩
        conv => whnf
        repeat ((first | refine ifB_t ?_ | refine ifB_f ?_); conv => whnf)
        rw [lt_flip]
        cases c9 : bytesLt l[c - 1].au q.au
        ·rw [c9, Bool.false_and] at e
         rw [headsR_no c1 e]
         conv => whnf
         repeat ((first | refine ifB_t ?_ | refine ⟨rfl, ?_⟩); conv => whnf)
         rfl
        ·rw [c9, Bool.true_and] at e
         conv => whnf
         repeat ((first | refine ifB_f ?_ | (refine fit_i64 ⟨by first | omega | rfl | (dsimp only; omega), by first | omega | rfl | (dsimp only; omega)⟩ ?_)); conv => whnf)
         exact ⟨c + 1, ⟨by omega, range_snoc hx e⟩, by omega, weaker_of [] rfl rfl ⟨⟨rfl, rfl, hds_pure _⟩, ⟨rfl, rfl⟩, trivial⟩ trivial⟩
    ·rw [df c7] at e ⊢
     rw [Bool.and_false, Bool.and_false] at e
     rw [headsR_no c1 e]
     conv => whnf
     repeat ((first | refine ifB_t ?_ | refine ⟨rfl, ?_⟩); conv => whnf)
     conv => whnf
     repeat' (first | (refine ifB_t ?_; (conv => whnf)) | (refine ⟨rfl, ?_⟩; (conv => whnf)) | (rfl) | (refine ⟨_, rfl, ?_⟩; conv => whnf) | (refine And.intro ?_ ?_ <;> conv => whnf))
   ·rw [df (show ¬ q.len ≤ 0 by omega), dt (show q.len ≠ 0 from c6), Bool.or_false, Bool.true_or] at e
    conv => whnf
    repeat ((first | refine ⟨rfl, ?_⟩ | refine ⟨_, rfl, ?_⟩); conv => whnf)
    refine ⟨_, _, hi, by first | rfl | simp [noRoIf, noRoL, noRoV, noRoL_bys], ?_⟩
    conv => whnf
    repeat ((first | refine ifB_f ?_ | (refine ifB_neg (decide_eq_false (by first | omega | rfl | (dsimp only; omega))) ?_) | refine ⟨rfl, ?_⟩ | refine ⟨_, rfl, ?_⟩); conv => whnf)
    cases c8 : q.shut
    ·rw [c8] at e
     conv => whnf
     repeat ((first | refine ifB_f ?_ | refine ⟨rfl, ?_⟩); conv => whnf)
     rcases Nat.eq_zero_or_pos c with k0 | k0
     ·rw [dt k0, Bool.true_or] at e
      refine ifB_neg (df (by omega)) ?_
      conv => whnf
      repeat ((refine ifB_f ?_); conv => whnf)
      conv => whnf
      repeat' (first | (refine ifB_f ?_; (conv => whnf)) | (refine fit_i64 ⟨by first | omega | rfl | (dsimp only; omega), by first | omega | rfl | (dsimp only; omega)⟩ ?_; (conv => whnf)) | (exact ⟨c + 1, ⟨by omega, range_snoc hx e⟩, by omega, weaker_of [] rfl rfl ⟨⟨rfl, rfl, hds_pure _⟩, ⟨rfl, rfl⟩, trivial⟩ trivial⟩) | (refine ⟨_, rfl, ?_⟩; conv => whnf) | (refine And.intro ?_ ?_ <;> conv => whnf))
     ·rw [df (show ¬ c = 0 by omega), Bool.false_or, List.getD_eq_getElem?_getD, List.getElem?_eq_getElem (show c - 1 < l.length by omega), Option.getD_some] at e
      have hp := hl _ (List.getElem_mem (show c - 1 < l.length by omega))
      have ec := cut_hd (l := l) (j := c - 1) (m := ((c : Int) - 1).toNat * 66) (by omega) (by omega) hp.au.2
      refine ifB_pos (dt (by omega)) ?_
      conv => whnf
      repeat ((first | refine ifB_t ?_ | (refine fit_i64 ⟨by first | omega | rfl | (dsimp only; omega), by first | omega | rfl | (dsimp only; omega)⟩ ?_) | (refine ⟨⟨by first | (simp only [List.drop_zero, List.length_drop, hds_len]; omega) | exact Nat.le_of_ble_eq_true (by kernel_rfl), okB_none _⟩, ?_⟩) | (refine ⟨⟨?_, ?_, ?_⟩, ?_⟩; (focus omega); (focus (first | omega | (simp; done) | (simp; omega))); (focus (first | (rw [prfs_len]; simp; omega) | (rw [ents_len]; simp; omega) | (rw [hds_len]; simp; omega) | (rw [lets_len]; simp; omega))))); conv => whnf)
      refine ⟨?_, ?_⟩
      ·conv => whnf
       repeat ((first | refine ifB_t ?_ | refine ⟨rfl, ?_⟩); conv => whnf)
       refine ⟨q.au, ⟨cut32 hh.au.2 _, hh.au.1⟩, ?_⟩
       conv => whnf
       repeat ((refine ifB_t ?_); conv => whnf)
       refine ⟨(congrArg List.length ec).trans ((List.length_map _).trans hp.au.2), ?_⟩
       refine ⟨l[c - 1].au, ⟨ec, hp.au.1⟩, ?_⟩
       conv => whnf
       repeat ((first | refine ifB_t ?_ | refine ifB_f ?_); conv => whnf)
       rw [lt_flip]
       cases c9 : bytesLt l[c - 1].au q.au
       ·rw [c9, Bool.false_and] at e
        rw [headsR_no c1 e]
        conv => whnf
        repeat ((first | refine ifB_t ?_ | refine ⟨rfl, ?_⟩); conv => whnf)
        rfl
       ·rw [c9, Bool.true_and] at e
        conv => whnf
        repeat ((first | refine ifB_f ?_ | (refine fit_i64 ⟨by first | omega | rfl | (dsimp only; omega), by first | omega | rfl | (dsimp only; omega)⟩ ?_)); conv => whnf)
        exact ⟨c + 1, ⟨by omega, range_snoc hx e⟩, by omega, weaker_of [] rfl rfl ⟨⟨rfl, rfl, hds_pure _⟩, ⟨rfl, rfl⟩, trivial⟩ trivial⟩
      ·conv => whnf
       repeat ((refine ifB_t ?_); conv => whnf)
       refine ⟨(congrArg List.length ec).trans ((List.length_map _).trans hp.au.2), ?_⟩
       refine ⟨l[c - 1].au, ⟨ec, hp.au.1⟩, ?_⟩
       conv => whnf
       repeat ((first | refine ifB_t ?_ | refine ⟨rfl, ?_⟩); conv => whnf)
       refine ⟨q.au, ⟨cut32 hh.au.2 _, hh.au.1⟩, ?_⟩
       conv => whnf
       repeat ((first | refine ifB_t ?_ | refine ifB_f ?_); conv => whnf)
       rw [lt_flip]
       cases c9 : bytesLt l[c - 1].au q.au
       ·rw [c9, Bool.false_and] at e
        rw [headsR_no c1 e]
        conv => whnf
        repeat ((first | refine ifB_t ?_ | refine ⟨rfl, ?_⟩); conv => whnf)
        rfl
       ·rw [c9, Bool.true_and] at e
        conv => whnf
        repeat ((first | refine ifB_f ?_ | (refine fit_i64 ⟨by first | omega | rfl | (dsimp only; omega), by first | omega | rfl | (dsimp only; omega)⟩ ?_)); conv => whnf)
        exact ⟨c + 1, ⟨by omega, range_snoc hx e⟩, by omega, weaker_of [] rfl rfl ⟨⟨rfl, rfl, hds_pure _⟩, ⟨rfl, rfl⟩, trivial⟩ trivial⟩
    ·rw [c8] at e
     simp only [Bool.not_true, Bool.and_false, Bool.false_and] at e
     rw [headsR_no c1 e]
     conv => whnf
     repeat ((first | refine ifB_t ?_ | refine ifB_f ?_ | (refine ifB_pos (decide_eq_true (by first | omega | rfl | (dsimp only; omega))) ?_) | refine ⟨rfl, ?_⟩ | refine ⟨_, rfl, ?_⟩); conv => whnf)
     conv => whnf
     repeat' (first | (refine ifB_t ?_; (conv => whnf)) | (refine ⟨rfl, ?_⟩; (conv => whnf)) | (rfl) | (refine ⟨_, rfl, ?_⟩; conv => whnf) | (refine And.intro ?_ ?_ <;> conv => whnf))
  ·obtain rfl : c = l.length := by omega
   refine wpc_sound (M := MF) (PL := PLrh) (CU := noCut) TTok mixed _ _ _ ?_
   have : headsR l = true := by unfold headsR; rw [hx, dt (show l.length ≤ 8 by omega)]; rfl
   rw [this]
   conv => whnf
   repeat ((first | (refine ifB_neg (decide_eq_false (by first | omega | rfl | (dsimp only; omega))) ?_) | refine ⟨rfl, ?_⟩); conv => whnf)
   rfl
 ·exact weaker_of [] rfl rfl ⟨⟨rfl, rfl, hds_pure _⟩, ⟨rfl, rfl⟩, trivial⟩ trivial
end
section
--KR
attribute [local irreducible] ifB fitP Does Weaker
theorem msgR_not {m : Msg} (h : msgR m = true → False) : msgR m = false := by
 cases k : msgR m
 ·rfl
 ·exact (h k).elim
theorem msgR_an {m : Msg} (w : whoR m = true) (k : m.kind = 2) (h : m.hs = []) (l : m.ps.length + m.es.length ≤ 4) (hp : ∀ (j : Nat) (h : j < m.ps.length), prfR m.ps[j] = true) (he : ∀ (j : Nat) (h : j < m.es.length), entR m.es[j] = true) : msgR m = true := by
 unfold msgR
 rw [w, if_neg (by omega), if_pos k, h]
 simp only [Bool.true_and, Bool.and_eq_true, decide_eq_true_eq, Bool.not_eq_true', List.any_eq_false, List.length_nil]
 refine ⟨⟨⟨⟨trivial, by omega⟩, by omega⟩, fun p hx => ?_⟩, fun p hx => ?_⟩
 ·obtain ⟨j, hj, rfl⟩ := List.mem_iff_getElem.1 hx
  rw [hp j hj]; simp
 ·obtain ⟨j, hj, rfl⟩ := List.mem_iff_getElem.1 hx
  rw [he j hj]; simp
set_option maxRecDepth 20000 in
set_option maxHeartbeats 2000000 in
theorem refmsg_ok (m : Msg) (hm : MsgS m) : ACall Tryd.prog 27 [.agg (msgC m)] (.bool (msgR m)) [] := by
 have i1 := in_ok m.frm 0 7
 have i2 := in_ok m.to 0 7
 have ih := refheads_ok m.hs hm.hs hm.hl
 have F := fun h => msgR_facts (m := m) h
 have hl1 := hm.hl
 have hl2 := hm.pl
 have hl3 := hm.el
 have f1 := hm.frm
 have f2 := hm.to
 refine ACall.of_does TTok Tryd.func27 rfl Tryd.call27 rfl (wpc_sound (M := MF) (PL := PL0) (CU := cutAt [100001]) TTok mixed _ _ _ ?_)
 conv => whnf
 repeat ((refine ⟨rfl, ?_⟩); conv => whnf)
 refine Does.freeze 0 rfl (Does.tidy [(1, .rop (msgC m))] [] 1 95 rfl rfl rfl (by kernel_rfl) (by kernel_rfl) ?_)
 refine wpc_sound (M := MF) (PL := PL0) (CU := noCut) TTok mixed _ _ _ ?_
 by_cases c1 : 0 ≤ m.frm ∧ m.frm ≤ 7
 case neg =>
  rw [msgR_not fun h => c1 ⟨(F h).1.1, by have := (F h).1.2; omega⟩]
  rw [df c1] at i1
  conv => whnf
  repeat ((first | refine ⟨rfl, ?_⟩ | refine ⟨_, rfl, ?_⟩); conv => whnf)
  refine ⟨_, _, i1, by first | rfl | simp [noRoIf, noRoL, noRoV, noRoL_bys], ?_⟩
  conv => whnf
  repeat ((first | refine ifB_t ?_ | refine ⟨rfl, ?_⟩); conv => whnf)
  rfl
 rw [dt c1] at i1
 by_cases c2 : 0 ≤ m.to ∧ m.to ≤ 7
 case neg =>
  rw [msgR_not fun h => c2 ⟨(F h).2.1.1, by have := (F h).2.1.2; omega⟩]
  rw [df c2] at i2
  conv => whnf
  repeat ((first | refine ⟨rfl, ?_⟩ | refine ⟨_, rfl, ?_⟩); conv => whnf)
  refine ⟨_, _, i1, by first | rfl | simp [noRoIf, noRoL, noRoV, noRoL_bys], ?_⟩
  conv => whnf
  repeat ((first | refine ifB_f ?_ | refine ⟨rfl, ?_⟩ | refine ⟨_, rfl, ?_⟩); conv => whnf)
  refine ⟨_, _, i2, by first | rfl | simp [noRoIf, noRoL, noRoV, noRoL_bys], ?_⟩
  conv => whnf
  repeat ((first | refine ifB_t ?_ | refine ifB_f ?_ | refine ⟨rfl, ?_⟩); conv => whnf)
  rfl
 rw [dt c2] at i2
 by_cases c3 : m.frm = m.to
 ·rw [msgR_not fun h => (F h).2.2.1 c3]
  conv => whnf
  repeat ((first | refine ⟨rfl, ?_⟩ | refine ⟨_, rfl, ?_⟩); conv => whnf)
  refine ⟨_, _, i1, by first | rfl | simp [noRoIf, noRoL, noRoV, noRoL_bys], ?_⟩
  conv => whnf
  repeat ((first | refine ifB_f ?_ | refine ⟨rfl, ?_⟩ | refine ⟨_, rfl, ?_⟩); conv => whnf)
  refine ⟨_, _, i2, by first | rfl | simp [noRoIf, noRoL, noRoV, noRoL_bys], ?_⟩
  conv => whnf
  repeat ((first | refine ifB_f ?_ | (refine ifB_pos (decide_eq_true (by first | omega | rfl | (dsimp only; omega))) ?_) | refine ⟨rfl, ?_⟩ | refine ⟨_, rfl, ?_⟩); conv => whnf)
  rfl
 have w : whoR m = true := by
  unfold whoR
  simp only [Bool.and_eq_true, decide_eq_true_eq]
  omega
 conv => whnf
 repeat ((first | refine ⟨rfl, ?_⟩ | refine ⟨_, rfl, ?_⟩); conv => whnf)
 refine ⟨_, _, i1, by first | rfl | simp [noRoIf, noRoL, noRoV, noRoL_bys], ?_⟩
 conv => whnf
 repeat ((first | refine ifB_f ?_ | refine ⟨rfl, ?_⟩ | refine ⟨_, rfl, ?_⟩); conv => whnf)
 refine ⟨_, _, i2, by first | rfl | simp [noRoIf, noRoL, noRoV, noRoL_bys], ?_⟩
 conv => whnf
 repeat ((first | refine ifB_f ?_ | (refine ifB_neg (decide_eq_false (by first | omega | rfl | (dsimp only; omega))) ?_) | refine ⟨_, rfl, ?_⟩); conv => whnf)
 by_cases k1 : m.kind = 1
 ·have e : msgR m = (headsR m.hs && decide ((m.ps.length : Int) + m.es.length = 0)) := by unfold msgR; rw [w, if_pos k1, Bool.true_and]
  rw [e]
  conv => whnf
  repeat ((first | (refine ifB_pos (decide_eq_true (by first | omega | rfl | (dsimp only; omega))) ?_) | refine ⟨rfl, ?_⟩ | refine ⟨_, rfl, ?_⟩ | refine ⟨(show pureL (rowsC _ _) = true from by first | exact prfs_pure _ | exact ents_pure _ | exact hds_pure _ | exact lets_pure _), ?_⟩); conv => whnf)
  cases c4 : headsR m.hs <;> rw [c4] at ih
  ·refine ⟨_, _, ih, by first | rfl | simp [noRoIf, noRoL, noRoV, noRoL_bys], ?_⟩
   conv => whnf
   repeat ((first | refine ifB_f ?_ | refine ⟨rfl, ?_⟩); conv => whnf)
   rfl
  ·refine ⟨_, _, ih, by first | rfl | simp [noRoIf, noRoL, noRoV, noRoL_bys], ?_⟩
   conv => whnf
   repeat ((first | refine ifB_t ?_ | (refine fit_i64 ⟨by first | omega | rfl | (dsimp only; omega), by first | omega | rfl | (dsimp only; omega)⟩ ?_) | refine ⟨rfl, ?_⟩ | refine ⟨_, rfl, ?_⟩); conv => whnf)
   rfl
 by_cases k2 : m.kind = 2
 case neg =>
  rw [msgR_not fun h => by rcases (F h).2.2.2 with h | h <;> omega]
  conv => whnf
  repeat ((first | (refine ifB_neg (decide_eq_false (by first | omega | rfl | (dsimp only; omega))) ?_) | refine ⟨rfl, ?_⟩); conv => whnf)
  rfl
 have G : msgR m = true → m.hs = [] ∧ m.ps.length + m.es.length ≤ 4 ∧ (∀ p ∈ m.ps, prfR p = true) ∧ ∀ e ∈ m.es, entR e = true := fun h => by
  rcases (F h).2.2.2 with h | h
  ·omega
  ·exact h.2
 by_cases c4 : 0 < m.hs.length
 ·rw [msgR_not fun h => by rw [(G h).1] at c4; simp at c4]
  conv => whnf
  repeat ((first | refine ifB_t ?_ | (refine ifB_neg (decide_eq_false (by first | omega | rfl | (dsimp only; omega))) ?_) | (refine ifB_pos (decide_eq_true (by first | omega | rfl | (dsimp only; omega))) ?_) | refine ⟨rfl, ?_⟩ | refine ⟨_, rfl, ?_⟩); conv => whnf)
  rfl
 by_cases c5 : 4 < m.ps.length
 ·rw [msgR_not fun h => by have := (G h).2.1; omega]
  conv => whnf
  repeat ((first | refine ifB_t ?_ | refine ifB_f ?_ | (refine ifB_neg (decide_eq_false (by first | omega | rfl | (dsimp only; omega))) ?_) | (refine ifB_pos (decide_eq_true (by first | omega | rfl | (dsimp only; omega))) ?_) | refine ⟨rfl, ?_⟩ | refine ⟨_, rfl, ?_⟩); conv => whnf)
  rfl
 by_cases c6 : 4 < m.es.length
 ·rw [msgR_not fun h => by have := (G h).2.1; omega]
  conv => whnf
  repeat ((first | refine ifB_t ?_ | refine ifB_f ?_ | (refine ifB_neg (decide_eq_false (by first | omega | rfl | (dsimp only; omega))) ?_) | (refine ifB_pos (decide_eq_true (by first | omega | rfl | (dsimp only; omega))) ?_) | refine ⟨rfl, ?_⟩ | refine ⟨_, rfl, ?_⟩); conv => whnf)
  rfl
 by_cases c7 : 4 < m.ps.length + m.es.length
 ·rw [msgR_not fun h => by have := (G h).2.1; omega]
  conv => whnf
  repeat ((first | refine ifB_f ?_ | (refine ifB_neg (decide_eq_false (by first | omega | rfl | (dsimp only; omega))) ?_) | (refine ifB_pos (decide_eq_true (by first | omega | rfl | (dsimp only; omega))) ?_) | (refine fit_i64 ⟨by first | omega | rfl | (dsimp only; omega), by first | omega | rfl | (dsimp only; omega)⟩ ?_) | refine ⟨rfl, ?_⟩ | refine ⟨_, rfl, ?_⟩); conv => whnf)
  rfl
 conv => whnf
 repeat ((first | refine ifB_f ?_ | (refine ifB_neg (decide_eq_false (by first | omega | rfl | (dsimp only; omega))) ?_) | (refine ifB_pos (decide_eq_true (by first | omega | rfl | (dsimp only; omega))) ?_) | (refine fit_i64 ⟨by first | omega | rfl | (dsimp only; omega), by first | omega | rfl | (dsimp only; omega)⟩ ?_) | refine ⟨_, rfl, ?_⟩); conv => whnf)
 refine Does.loop (fun c : Nat => mkSt [(1, .rop (msgC m)), (3, .int .i64 c)] [] 0 95)
  (fun c => c ≤ m.ps.length ∧ ∀ (j : Nat) (h : j < m.ps.length), j < c → prfR m.ps[j] = true) (fun c => m.ps.length - c) ?_ 0 ⟨Nat.zero_le _, fun j _ h => by omega⟩ ?_
 ·rintro c ⟨hc, hx⟩
  rcases Nat.lt_or_ge c m.ps.length with d1 | d1
  ·have hp := refproof_ok m.ps[c] (hm.ps _ (List.getElem_mem d1))
   refine wpc_sound (M := MF) (PL := PL0) (CU := noCut) TTok mixed _ _ _ ?_
   conv => whnf
   repeat ((first | (refine ifB_pos (decide_eq_true (by first | omega | rfl | (dsimp only; omega))) ?_) | refine ⟨_, rfl, ?_⟩ | (refine ⟨⟨?_, ?_, ?_⟩, ?_⟩; (focus omega); (focus (first | omega | (simp; done) | (simp; omega))); (focus (first | (rw [prfs_len]; simp; omega) | (rw [ents_len]; simp; omega) | (rw [hds_len]; simp; omega) | (rw [lets_len]; simp; omega))))); conv => whnf)
   refine ⟨_, takeN_row prfC_length d1 (by simp; omega) rfl, ?_⟩
   conv => whnf
   repeat ((first | refine ⟨rfl, ?_⟩ | refine ⟨(show pureL _ = true from by first | exact prfC_pure _ | exact hdC_pure _ | exact msgC_pure _ | exact letC_pure _), ?_⟩); conv => whnf)
   cases d2 : prfR m.ps[c] <;> rw [d2] at hp
   ·rw [msgR_not fun h => by have := (G h).2.2.1 _ (List.getElem_mem d1); rw [d2] at this; cases this]
    refine ⟨_, _, hp, by first | rfl | simp [noRoIf, noRoL, noRoV, noRoL_bys], ?_⟩
    conv => whnf
    repeat ((first | refine ifB_t ?_ | refine ⟨rfl, ?_⟩); conv => whnf)
    rfl
   ·refine ⟨_, _, hp, by first | rfl | simp [noRoIf, noRoL, noRoV, noRoL_bys], ?_⟩
    conv => whnf
    repeat ((first | refine ifB_f ?_ | (refine fit_i64 ⟨by first | omega | rfl | (dsimp only; omega), by first | omega | rfl | (dsimp only; omega)⟩ ?_)); conv => whnf)
    refine ⟨c + 1, ⟨by omega, fun j h1 h2 => ?_⟩, by omega, weaker_of [] rfl rfl ⟨⟨rfl, msgC_pure m⟩, ⟨rfl, rfl⟩, trivial⟩ trivial⟩
    rcases Nat.lt_or_ge j c with h' | h'
    ·exact hx j h1 h'
    ·obtain rfl : j = c := by omega
     exact d2
  ·obtain rfl : c = m.ps.length := by omega
   refine wpc_sound (M := MF) (PL := PL0) (CU := noCut) TTok mixed _ _ _ ?_
   conv => whnf
   repeat ((first | (refine ifB_neg (decide_eq_false (by first | omega | rfl | (dsimp only; omega))) ?_) | refine ⟨_, rfl, ?_⟩); conv => whnf)
   refine Does.loop (fun c : Nat => mkSt [(1, .rop (msgC m)), (4, .int .i64 c)] [] 0 95)
    (fun c => c ≤ m.es.length ∧ ∀ (j : Nat) (h : j < m.es.length), j < c → entR m.es[j] = true) (fun c => m.es.length - c) ?_ 0 ⟨Nat.zero_le _, fun j _ h => by omega⟩ ?_
   ·rintro c ⟨hc', hy⟩
    rcases Nat.lt_or_ge c m.es.length with d1 | d1
    ·have hp := refentry_ok m.es[c] (hm.es _ (List.getElem_mem d1))
     refine wpc_sound (M := MF) (PL := PL0) (CU := noCut) TTok mixed _ _ _ ?_
     conv => whnf
     repeat ((first | (refine ifB_pos (decide_eq_true (by first | omega | rfl | (dsimp only; omega))) ?_) | refine ⟨_, rfl, ?_⟩ | (refine ⟨⟨?_, ?_, ?_⟩, ?_⟩; (focus omega); (focus (first | omega | (simp; done) | (simp; omega))); (focus (first | (rw [prfs_len]; simp; omega) | (rw [ents_len]; simp; omega) | (rw [hds_len]; simp; omega) | (rw [lets_len]; simp; omega))))); conv => whnf)
     refine ⟨_, takeN_row entC_length d1 (by simp; omega) rfl, ?_⟩
     conv => whnf
     repeat ((first | refine ⟨entC_pure _, ?_⟩ | refine ⟨rfl, ?_⟩); conv => whnf)
     cases d2 : entR m.es[c] <;> rw [d2] at hp
     ·rw [msgR_not fun h => by have := (G h).2.2.2 _ (List.getElem_mem d1); rw [d2] at this; cases this]
      refine ⟨_, _, hp, by first | rfl | simp [noRoIf, noRoL, noRoV, noRoL_bys], ?_⟩
      conv => whnf
      repeat ((first | refine ifB_t ?_ | refine ⟨rfl, ?_⟩); conv => whnf)
      rfl
     ·refine ⟨_, _, hp, by first | rfl | simp [noRoIf, noRoL, noRoV, noRoL_bys], ?_⟩
      conv => whnf
      repeat ((first | refine ifB_f ?_ | (refine fit_i64 ⟨by first | omega | rfl | (dsimp only; omega), by first | omega | rfl | (dsimp only; omega)⟩ ?_)); conv => whnf)
      refine ⟨c + 1, ⟨by omega, fun j h1 h2 => ?_⟩, by omega, weaker_of [] rfl rfl ⟨⟨rfl, msgC_pure m⟩, ⟨rfl, rfl⟩, trivial⟩ trivial⟩
      rcases Nat.lt_or_ge j c with h' | h'
      ·exact hy j h1 h'
      ·obtain rfl : j = c := by omega
       exact d2
    ·obtain rfl : c = m.es.length := by omega
     rw [msgR_an w k2 (List.length_eq_zero_iff.1 (by omega)) (by omega) (fun j h => hx j h h) (fun j h => hy j h h)]
     refine wpc_sound (M := MF) (PL := PL0) (CU := noCut) TTok mixed _ _ _ ?_
     conv => whnf
     repeat ((first | (refine ifB_neg (decide_eq_false (by first | omega | rfl | (dsimp only; omega))) ?_) | refine ⟨rfl, ?_⟩ | refine ⟨_, rfl, ?_⟩); conv => whnf)
     rfl
   ·exact weaker_of [] rfl rfl ⟨⟨rfl, msgC_pure m⟩, ⟨rfl, rfl⟩, trivial⟩ trivial
 ·exact weaker_of [] rfl rfl ⟨⟨rfl, msgC_pure m⟩, ⟨rfl, rfl⟩, trivial⟩ trivial
end
section
--KR
attribute [local irreducible] ifB fitP Does Weaker
theorem letM_S {m : Msg} (hm : MsgS m) : LetS (letM m) := ⟨hm.frm, hm.to, (msgB_byt hm).1, by have := (msgB_byt hm).2; show (msgB m).1.length ≤ _; omega⟩
theorem take_end (l : List Let) (x : Let) (hx : ∀ y ∈ l, LetS y) (h : LetS x) (hl : l.length ≤ 9000) : ACall Tryd.prog 18 [.ro (l ++ [x]).length (rowsC letC (l ++ [x])), .int .i64 l.length] (.tuple [.ro l.length (rowsC letC l), .agg (letC x), .int .i64 0]) [] := by
 have hs : ∀ y ∈ l ++ [x], LetS y := fun y hy => by
  rcases List.mem_append.1 hy with k | k
  ·exact hx y k
  ·rw [List.mem_singleton] at k; subst k; exact h
 have := (ntake_yes (l ++ [x]) l.length hs (by simp; omega) (by simp)).roResT (by simp only [pureL, pureV, letC_pure, Bool.and_true])
 simpa using this
def MNj : FuncId → List Mode := orElse [(10, [.rd]), (27, [.rd]), (25, [.rd]), (16, [.rd, .rd])] MNs
def PLnb : Nat → Bool × Plan := plans [(13, (false, (takesTo [0, 1, 2, 3, 4, 5, 6, 7, 8] (.all [(9, (takesTo [10, 11, 12, 14, 15, 16, 17, 18] (.all [(13, (.all [(19, (takesTo [20, 21] (.all [(22, (takes [23, 24]))])))]))])))]))))]
set_option maxRecDepth 20000 in
set_option maxHeartbeats 1000000 in
theorem netBack_ok (l : List Let) (m : Msg) (at' : Int) (ho : ∀ x ∈ l, LetO x) (om : MsgO m) (ha : -9223372036854775808 ≤ at' ∧ at' < 9223372036854775808) : ACall Tryd.prog 8 [.ro l.length (rowsC letC l), .agg (msgC m), .int .i64 at'] (.bool true) [] := by
 have v0 := heavy24_ok l
 have v1 := heavy13_ok m
 have hw := wakes24_ok
 refine ACall.of_does TTok Tryd.func8 rfl Tryd.call8 rfl (wpc_sound (M := MNj) (PL := PLnb) (CU := cutAt [100001, 100013]) TTok mixed _ _ _ ?_)
 conv => whnf
 repeat ((refine ⟨rfl, ?_⟩); conv => whnf)
 refine Does.freeze 0 rfl (Does.tidy [(0, .ro l.length (rowsC letC l)), (2, .int .i64 at'), (4, .rop (msgC m))] [] 1 145 rfl rfl rfl (by kernel_rfl) (by kernel_rfl) ?_)
 refine wpc_sound (M := MNj) (PL := PLnb) (CU := noCut) TTok mixed _ _ _ ?_
 cases hv0 : heavyL l <;> rw [hv0] at v0
 case true =>
  conv => whnf
  repeat ((first | refine ⟨rfl, ?_⟩ | refine ⟨(show pureL (rowsC _ _) = true from by first | exact prfs_pure _ | exact ents_pure _ | exact hds_pure _ | exact lets_pure _), ?_⟩); conv => whnf)
  refine ⟨_, _, v0, by first | rfl | simp [noRoIf, noRoL, noRoV, noRoL_bys], ?_⟩
  conv => whnf
  repeat ((first | refine ifB_t ?_ | refine ⟨rfl, ?_⟩); conv => whnf)
  rfl
 conv => whnf
 repeat ((first | refine ⟨rfl, ?_⟩ | refine ⟨(show pureL (rowsC _ _) = true from by first | exact prfs_pure _ | exact ents_pure _ | exact hds_pure _ | exact lets_pure _), ?_⟩); conv => whnf)
 refine ⟨_, _, v0, by first | rfl | simp [noRoIf, noRoL, noRoV, noRoL_bys], ?_⟩
 conv => whnf
 repeat ((first | refine ifB_f ?_ | refine ⟨rfl, ?_⟩ | refine ⟨_, rfl, ?_⟩ | refine ⟨(show pureL _ = true from by first | exact prfC_pure _ | exact hdC_pure _ | exact msgC_pure _ | exact letC_pure _), ?_⟩); conv => whnf)
 cases hv1 : heavyM m <;> rw [hv1] at v1
 case true =>
  refine ⟨_, _, v1, by first | rfl | simp [noRoIf, noRoL, noRoV, noRoL_bys], ?_⟩
  conv => whnf
  repeat ((first | refine ifB_t ?_ | refine ifB_f ?_ | refine ⟨rfl, ?_⟩); conv => whnf)
  rfl
 refine ⟨_, _, v1, by first | rfl | simp [noRoIf, noRoL, noRoV, noRoL_bys], ?_⟩
 conv => whnf
 repeat ((first | refine ifB_f ?_ | refine ⟨rfl, ?_⟩ | refine ⟨_, rfl, ?_⟩ | refine ⟨(show pureL (rowsC _ _) = true from by first | exact prfs_pure _ | exact ents_pure _ | exact hds_pure _ | exact lets_pure _), ?_⟩ | refine ⟨(show pureL _ = true from by first | exact prfC_pure _ | exact hdC_pure _ | exact msgC_pure _ | exact letC_pure _), ?_⟩); conv => whnf)
 have hm := msgS_of om hv1
 obtain ⟨hl, hx⟩ := letS_of ho hv0
 have rm := refmsg_ok m hm
 cases hr : msgR m <;> rw [hr] at rm
 ·have h1 := (nput_bad l m hm (by omega) hr).roRes2 (.inl ⟨_, _, rfl⟩)
  refine ⟨_, _, h1, by first | rfl | simp [noRoIf, noRoL, noRoV, noRoL_bys], ?_⟩
  conv => whnf
  repeat ((first | refine ⟨rfl, ?_⟩ | refine ⟨_, rfl, ?_⟩ | refine ⟨(show pureL _ = true from by first | exact prfC_pure _ | exact hdC_pure _ | exact msgC_pure _ | exact letC_pure _), ?_⟩); conv => whnf)
  refine ⟨_, _, rm, by first | rfl | simp [noRoIf, noRoL, noRoV, noRoL_bys], ?_⟩
  conv => whnf
  repeat ((first | refine ifB_t ?_ | refine ⟨rfl, ?_⟩); conv => whnf)
  refine ⟨_, _, hw, by first | rfl | simp [noRoIf, noRoL, noRoV, noRoL_bys], ?_⟩
  conv => whnf
  repeat ((first | refine ifB_t ?_ | refine ⟨rfl, ?_⟩); conv => whnf)
  rfl
 ·have hz : (msgB m).2 = 0 := by have := msgB_err hm; rw [hr] at this; exact of_decide_eq_true this
  have hB := rdMsg_bytes hm hz
  have y1 := msgB_byt hm
  have hrd := mread_ok (letM m).body y1.1 (by show (msgB m).1.length ≤ _; omega)
  rw [show rdMsg (letM m).body = (m, 0) from hB.2] at hrd
  have h1 := (nput_yes l m hx hm (by omega) hr).roRes2 (.inl ⟨_, _, rfl⟩)
  have hS := letM_S hm
  have h2 := take_end l (letM m) hx hS (by omega)
  have kk := kmsg_ok m m hm hm
  rw [dt rfl] at kk
  have k0 := kl_refl l hx (by omega)
  have hPS : ∀ y ∈ l ++ [letM m], LetS y := fun y hy => by
   rcases List.mem_append.1 hy with k | k
   ·exact hx y k
   ·rw [List.mem_singleton] at k; subst k; exact hS
  have gP : (l ++ [letM m]).length = l.length + 1 := by simp
  have e1 : (letM m).frm = m.frm := rfl
  have e2 : (letM m).to = m.to := rfl
  generalize letM m = X at *
  generalize l ++ [X] = P at *
  obtain ⟨n, hn, hn3⟩ := mod_len at' (n := P.length) (by omega)
  have wn := wrap_u64 at'
  have h3 := (ncopy_yes P n hPS (by omega) hn3).roRes2 (.inl ⟨_, _, rfl⟩)
  have hY := hPS _ (List.getElem_mem hn3)
  have hM := cutL_mid P n hn3
  have h4 := take_end P P[n] hPS hY (by omega)
  have kP := kl_refl P hPS (by omega)
  have kY := kl_refl [P[n]] (fun x h => by rw [List.mem_singleton] at h; subst h; exact hY) (by simp)
  generalize P[n] = Y at *
  generalize P ++ [Y] = C at *
  clear hB hz om ho v0 v1
  refine ⟨_, _, h1, by first | rfl | simp [noRoIf, noRoL, noRoV, noRoL_bys], ?_⟩
  conv => whnf
  repeat ((first | refine ⟨rfl, ?_⟩ | refine ⟨_, rfl, ?_⟩ | refine ⟨(show pureL _ = true from by first | exact prfC_pure _ | exact hdC_pure _ | exact msgC_pure _ | exact letC_pure _), ?_⟩); conv => whnf)
  refine ⟨_, _, rm, by first | rfl | simp [noRoIf, noRoL, noRoV, noRoL_bys], ?_⟩
  conv => whnf
  repeat ((first | refine ifB_f ?_ | refine ⟨rfl, ?_⟩ | refine ⟨(show pureL (rowsC _ _) = true from by first | exact prfs_pure _ | exact ents_pure _ | exact hds_pure _ | exact lets_pure _), ?_⟩); conv => whnf)
  refine ⟨_, _, h2, by first | rfl | simp [noRoIf, noRoL, noRoV, noRoL_bys], ?_⟩
  conv => whnf
  repeat ((first | refine ⟨pureL_bys _, ?_⟩ | refine ⟨(⟨by kernel_rfl, by kernel_rfl, Nat.le_of_ble_eq_true (by kernel_rfl)⟩ : AV.ones _ = true ∧ _ ∧ _), ?_⟩ | refine ⟨rfl, ?_⟩ | refine ⟨_, rfl, ?_⟩); conv => whnf)
  refine ⟨_, _, hrd, by first | rfl | simp [noRoIf, noRoL, noRoV, noRoL_bys], ?_⟩
  conv => whnf
  repeat ((first | refine ifB_f ?_ | (refine ifB_neg (decide_eq_false (by first | omega | rfl | (dsimp only; omega))) ?_) | (refine fit_i64 ⟨by first | omega | rfl | (dsimp only; omega), by first | omega | rfl | (dsimp only; omega)⟩ ?_) | refine ⟨(⟨by kernel_rfl, by kernel_rfl, Nat.le_of_ble_eq_true (by kernel_rfl)⟩ : AV.ones _ = true ∧ _ ∧ _), ?_⟩ | refine ⟨rfl, ?_⟩ | refine ⟨(show pureL (rowsC _ _) = true from by first | exact prfs_pure _ | exact ents_pure _ | exact hds_pure _ | exact lets_pure _), ?_⟩); conv => whnf)
  refine ⟨_, _, k0, by first | rfl | simp [noRoIf, noRoL, noRoV, noRoL_bys], ?_⟩
  conv => whnf
  repeat ((first | refine ifB_f ?_ | refine ⟨rfl, ?_⟩ | refine ⟨_, rfl, ?_⟩ | refine ⟨(show pureL _ = true from by first | exact prfC_pure _ | exact hdC_pure _ | exact msgC_pure _ | exact letC_pure _), ?_⟩); conv => whnf)
  refine ⟨_, _, kk, by first | rfl | simp [noRoIf, noRoL, noRoV, noRoL_bys], ?_⟩
  conv => whnf
  repeat ((first | refine ifB_f ?_ | (refine ifB_neg (decide_eq_false (by first | omega | rfl | (dsimp only; omega))) ?_) | refine ⟨_, rfl, ?_⟩); conv => whnf)
  refine fit_wrap ?_
  rw [wn]
  conv => whnf
  repeat ((first | (refine fit_i64 ⟨by first | omega | rfl | (dsimp only; omega), by first | omega | rfl | (dsimp only; omega)⟩ ?_) | (refine fit_u64 ⟨by first | omega | rfl | (dsimp only; omega), by first | omega | rfl | (dsimp only; omega)⟩ ?_) | refine ⟨rfl, ?_⟩ | (refine And.intro (by first | omega | rfl | (dsimp only; omega)) ?_) | refine ⟨(show pureL (rowsC _ _) = true from by first | exact prfs_pure _ | exact ents_pure _ | exact hds_pure _ | exact lets_pure _), ?_⟩); conv => whnf)
  rw [show (at' % 18446744073709551616).tmod (P.length : Int) = (n : Int) from hn]
  conv => whnf
  refine ⟨_, _, h3, by first | rfl | simp [noRoIf, noRoL, noRoV, noRoL_bys], ?_⟩
  conv => whnf
  repeat ((first | refine ⟨rfl, ?_⟩ | refine ⟨(show pureL (rowsC _ _) = true from by first | exact prfs_pure _ | exact ents_pure _ | exact hds_pure _ | exact lets_pure _), ?_⟩); conv => whnf)
  refine ⟨_, _, h4, by first | rfl | simp [noRoIf, noRoL, noRoV, noRoL_bys], ?_⟩
  conv => whnf
  repeat ((first | refine ⟨(⟨by kernel_rfl, by kernel_rfl, Nat.le_of_ble_eq_true (by kernel_rfl)⟩ : AV.ones _ = true ∧ _ ∧ _), ?_⟩ | refine ⟨rfl, ?_⟩); conv => whnf)
  refine Does.freeze 3 rfl (Does.tidy [(2, .int .i64 n), (7, .ro P.length (rowsC letC P)), (8, .int .i64 0), (11, .int .i64 0), (15, .ro P.length (rowsC letC P)), (16, .rop (letC Y))] [(1, letC X), (2, msgC m)] 4 145 rfl rfl rfl (by kernel_rfl) (by kernel_rfl) ?_)
  refine wpc_sound (M := MNj) (PL := PLnb) (CU := noCut) TTok mixed _ _ _ ?_
  conv => whnf
  refine ⟨by kernel_rfl, ?_⟩
  conv => whnf
  repeat ((first | refine ifB_t ?_ | refine ⟨rfl, ?_⟩ | refine ⟨(show pureL (rowsC _ _) = true from by first | exact prfs_pure _ | exact ents_pure _ | exact hds_pure _ | exact lets_pure _), ?_⟩); conv => whnf)
  refine ⟨_, _, kP, by first | rfl | simp [noRoIf, noRoL, noRoV, noRoL_bys], ?_⟩
  conv => whnf
  repeat ((first | refine ifB_t ?_ | (refine fit_i64 ⟨by first | omega | rfl | (dsimp only; omega), by first | omega | rfl | (dsimp only; omega)⟩ ?_) | refine ⟨rfl, ?_⟩ | refine ⟨_, rfl, ?_⟩); conv => whnf)
  refine ⟨⟨by rw [lets_len, Nat.mul_comm], by simp [okB]; omega⟩, ?_⟩
  conv => whnf
  repeat ((first | refine ifB_t ?_ | (refine Or.inl ⟨⟨rfl, ?_⟩, ?_⟩; (focus (first | rfl | (simp; done) | (rw [toksC_length]; omega)))) | refine ⟨⟨rfl, rfl⟩, ?_⟩ | (refine And.intro ?_ ?_; (focus (first | (simp only [pureL, pureV, pureL_bys, Bool.and_true, Bool.and_self]; done) | (simp only [pureL, pureV, pureL_bys, pureL_toks, Bool.and_true, Bool.and_self]; done))))); conv => whnf)
  refine ⟨pureL_cut (lets_pure _) _ _ _, ?_⟩
  conv => whnf
  repeat ((refine ⟨rfl, ?_⟩); conv => whnf)
  refine ⟨_, _, kY.arg2 rfl rfl (by simp [lenB] <;> omega) hM, by first | rfl | simp [noRoIf, noRoL, noRoV, noRoL_bys], ?_⟩
  conv => whnf
  repeat ((first | refine ifB_t ?_ | refine ⟨rfl, ?_⟩); conv => whnf)
  refine ⟨_, _, hw, by first | rfl | simp [noRoIf, noRoL, noRoV, noRoL_bys], ?_⟩
  conv => whnf
  repeat ((first | refine ifB_t ?_ | refine ⟨rfl, ?_⟩); conv => whnf)
  rfl
end
section
--KR
attribute [local irreducible] ifB fitP Does Weaker
theorem msgC_length (m : Msg) : (msgC m).length = 6 := rfl
theorem msgC_one (m : Msg) : (msgC m).all AV.one = true := by simp [msgC, AV.one]
theorem msgs_len (l : List Msg) : (rowsC msgC l).length = 6 * l.length := rowsC_length msgC_length l
theorem msgs_pure (l : List Msg) : pureL (rowsC msgC l) = true := rowsC_pure msgC_pure l
theorem msgs_ones (l : List Msg) : (rowsC msgC l).all AV.one = true := rowsC_ones msgC_one l
theorem msg_frm {l : List Msg} {j m : Nat} (h : j < l.length) (hm : m = 6 * j) : (List.drop 1 (List.drop m (rowsC msgC l)))[0]? = some (.int .i64 l[j].frm) := by rw [rowsC_at msgC_length h hm]; rfl
theorem msg_to {l : List Msg} {j m : Nat} (h : j < l.length) (hm : m = 6 * j) : (List.drop 2 (List.drop m (rowsC msgC l)))[0]? = some (.int .i64 l[j].to) := by rw [rowsC_at msgC_length h hm]; rfl
theorem cutM_to (l : List Msg) (n : Nat) : cutB (rowsC msgC l) none (some (n : Int)) 6 = rowsC msgC (l.take n) := by
 show List.take ((n : Int).toNat * 6) (rowsC msgC l) = _
 rw [Int.toNat_natCast, Nat.mul_comm, rowsC_take msgC_length]
theorem cutM_from (l : List Msg) (n : Nat) : cutB (rowsC msgC l) (some ((n : Int) + 1)) none 6 = rowsC msgC (l.drop (n + 1)) := by
 show List.drop (((n : Int) + 1).toNat * 6) (rowsC msgC l) = _
 rw [show ((n : Int) + 1).toNat = n + 1 by omega, Nat.mul_comm, rowsC_drop msgC_length]
def wN24 (l : List Msg) (c : Nat) : List Msg := (l.take c).filter msgR
theorem wN24_succ {l : List Msg} {c : Nat} (h : c < l.length) : wN24 l (c + 1) = if msgR l[c] = true then wN24 l c ++ [l[c]] else wN24 l c := by
 unfold wN24
 rw [List.take_succ_eq_append_getElem h, List.filter_append]
 by_cases hr : msgR l[c] = true
 ·rw [if_pos hr]; simp [hr]
 ·rw [if_neg hr]; simp [hr]
theorem wN24_len (l : List Msg) (c : Nat) : (wN24 l c).length ≤ c := by
 unfold wN24
 exact Nat.le_trans (List.length_filter_le _ _) (by simp; omega)
theorem wN24_mem {l : List Msg} {c : Nat} (hj : ∀ (j : Nat) (h : j < l.length), j < c → MsgS l[j]) : ∀ m ∈ wN24 l c, MsgS m ∧ msgR m = true := by
 intro m hm
 obtain ⟨h1, h2⟩ := List.mem_filter.1 hm
 obtain ⟨j, hj1, rfl⟩ := List.mem_iff_getElem.1 h1
 rw [List.getElem_take]
 rw [List.getElem_take] at h2
 simp only [List.length_take] at hj1
 exact ⟨hj j (by omega) (by omega), h2⟩
theorem letMs_S {W : List Msg} (h : ∀ m ∈ W, MsgS m ∧ msgR m = true) : ∀ x ∈ W.map letM, LetS x := by
 intro x hx
 obtain ⟨m, hm, rfl⟩ := List.mem_map.1 hx
 exact letM_S (h m hm).1
def PLnm : Nat → Bool × Plan := plans [(25, (false, (takesTo [0, 1, 2, 3, 4, 5, 6, 7, 8, 9, 10, 11] (.all [(12, (takes [13, 14, 15, 16, 17, 18, 19, 20, 21, 22, 23, 24, 25, 26, 27, 28, 29, 30, 31, 32, 33, 34, 35, 36, 37, 38, 39, 40, 41, 42]))])))), (29, (false, (takesTo [0, 1, 2, 3, 5, 6, 7, 8] (.all [(4, (.all [(9, (takes [10]))]))]))))]
set_option maxRecDepth 20000 in
set_option maxHeartbeats 2000000 in
theorem netMany_ok (l : List Msg) (od : List Int) (om : ∀ m ∈ l, MsgO m) (hod : ∀ x ∈ od, -9223372036854775808 ≤ x ∧ x < 9223372036854775808) (ll : l.length ≤ 9223372036854775807) (lo : od.length ≤ 9223372036854775807) : ACall Tryd.prog 7 [.ro l.length (rowsC msgC l), .ro od.length (od.map (AV.int .i64))] (.bool true) [] := by
 have hw := wakes24_ok
 refine ACall.of_does TTok Tryd.func7 rfl Tryd.call7 rfl (wpc_sound (M := MNj) (PL := PLnm) (CU := noCut) TTok mixed _ _ _ ?_)
 by_cases c0 : 20 < l.length
 ·conv => whnf
  repeat ((first | refine ifB_t ?_ | (refine ifB_pos (decide_eq_true (by first | omega | rfl | (dsimp only; omega))) ?_) | refine ⟨rfl, ?_⟩); conv => whnf)
  rfl
 by_cases c1 : 100 < od.length
 ·conv => whnf
  repeat ((first | refine ifB_f ?_ | (refine ifB_neg (decide_eq_false (by first | omega | rfl | (dsimp only; omega))) ?_) | (refine ifB_pos (decide_eq_true (by first | omega | rfl | (dsimp only; omega))) ?_) | refine ⟨rfl, ?_⟩); conv => whnf)
  rfl
 conv => whnf
 repeat ((first | refine ifB_f ?_ | (refine ifB_neg (decide_eq_false (by first | omega | rfl | (dsimp only; omega))) ?_)); conv => whnf)
 refine Does.loop (fun g : Nat × List Msg => mkSt [(0, .ro l.length (rowsC msgC l)), (1, .ro od.length (od.map (AV.int .i64))), (5, .ro (g.2.map letM).length (rowsC letC (g.2.map letM))), (6, .sl 0 0 g.2.length 6 false), (7, .int .i64 g.1)] [(0, rowsC msgC g.2)] 1 170)
  (fun g => g.1 ≤ l.length ∧ g.2 = wN24 l g.1 ∧ ∀ (j : Nat) (h : j < l.length), j < g.1 → MsgS l[j]) (fun g => l.length - g.1) ?_ (0, []) ⟨Nat.zero_le _, rfl, fun j h1 h2 => absurd h2 (Nat.not_lt_zero _)⟩ ?_
 ·rintro ⟨c, W⟩ ⟨hc, hW, hj⟩
  dsimp only at hc hW hj
  have hWS := wN24_mem hj
  have hWl := wN24_len l c
  rw [← hW] at hWS hWl
  have hS := letMs_S hWS
  have hml : (W.map letM).length = W.length := by simp
  rcases Nat.lt_or_ge c l.length with c2 | c2
  ·have v1 := heavy13_ok l[c]
   have hsu := wN24_succ c2
   rw [← hW] at hsu
   refine wpc_sound (M := MNj) (PL := PLnm) (CU := noCut) TTok mixed _ _ _ ?_
   conv => whnf
   repeat ((refine ifB_pos (decide_eq_true (by first | omega | rfl | (dsimp only; omega))) ?_); conv => whnf)
   refine ⟨⟨by omega, by omega, by rw [msgs_len]; simp; omega⟩, ?_⟩
   conv => whnf
   refine ⟨_, takeN_row msgC_length c2 (by simp; omega) rfl, ?_⟩
   conv => whnf
   repeat ((first | refine ⟨rfl, ?_⟩ | refine ⟨(show pureL _ = true from by first | exact prfC_pure _ | exact hdC_pure _ | exact msgC_pure _ | exact letC_pure _), ?_⟩); conv => whnf)
   generalize hM : l[c] = m at v1 hsu ⊢
   have omm : MsgO m := by rw [← hM]; exact om _ (List.getElem_mem c2)
   cases hv1 : heavyM m <;> rw [hv1] at v1
   case true =>
    refine ⟨_, _, v1, by first | rfl | simp [noRoIf, noRoL, noRoV, noRoL_bys], ?_⟩
    conv => whnf
    repeat ((first | refine ifB_t ?_ | refine ⟨rfl, ?_⟩); conv => whnf)
    rfl
   refine ⟨_, _, v1, by first | rfl | simp [noRoIf, noRoL, noRoV, noRoL_bys], ?_⟩
   conv => whnf
   repeat ((refine ifB_f ?_); conv => whnf)
   have hm := msgS_of omm hv1
   have hj' : ∀ (j : Nat) (h : j < l.length), j < c + 1 → MsgS l[j] := fun j h1 h2 => by
    rcases Nat.lt_or_ge j c with k | k
    ·exact hj j h1 k
    ·obtain rfl : j = c := by omega
     rw [hM]; exact hm
   have rm := refmsg_ok m hm
   refine ⟨⟨by omega, by omega, by rw [msgs_len]; simp; omega⟩, ?_⟩
   conv => whnf
   refine ⟨_, takeN_row msgC_length c2 (by simp; omega) rfl, ?_⟩
   conv => whnf
   repeat ((first | refine ⟨rfl, ?_⟩ | refine ⟨(show pureL (rowsC _ _) = true from by first | exact prfs_pure _ | exact ents_pure _ | exact hds_pure _ | exact lets_pure _), ?_⟩ | refine ⟨(show pureL _ = true from by first | exact prfC_pure _ | exact hdC_pure _ | exact msgC_pure _ | exact letC_pure _), ?_⟩); conv => whnf)
   rw [hM]
   cases hr : msgR m <;> rw [hr] at rm hsu
   ·have h1 := (nput_bad (W.map letM) m hm (by omega) hr).roRes2 (.inl ⟨_, _, rfl⟩)
    rw [if_neg (by decide)] at hsu
    refine ⟨_, _, h1, by first | rfl | simp [noRoIf, noRoL, noRoV, noRoL_bys], ?_⟩
    conv => whnf
    refine ⟨⟨by omega, by omega, by rw [msgs_len]; simp; omega⟩, ?_⟩
    conv => whnf
    refine ⟨_, takeN_row msgC_length c2 (by simp; omega) rfl, ?_⟩
    conv => whnf
    repeat ((first | refine ⟨rfl, ?_⟩ | refine ⟨(show pureL _ = true from by first | exact prfC_pure _ | exact hdC_pure _ | exact msgC_pure _ | exact letC_pure _), ?_⟩); conv => whnf)
    rw [hM]
    refine ⟨_, _, rm, by first | rfl | simp [noRoIf, noRoL, noRoV, noRoL_bys], ?_⟩
    conv => whnf
    repeat ((first | refine ifB_t ?_ | refine ifB_f ?_ | (refine fit_i64 ⟨by first | omega | rfl | (dsimp only; omega), by first | omega | rfl | (dsimp only; omega)⟩ ?_)); conv => whnf)
    exact ⟨(c + 1, W), ⟨by dsimp only; omega, hsu.symm, hj'⟩, by dsimp only; omega, weaker_of [(0, 0)] rfl rfl ⟨⟨rfl, rfl, msgs_pure _⟩, ⟨rfl, rfl, pureL_ints _⟩, ⟨rfl, rfl, lets_pure _⟩, ⟨rfl, rfl, rfl, rfl, fun h => h⟩, ⟨rfl, rfl⟩, trivial⟩ ⟨rowsC_les msgC_les rfl, trivial⟩⟩
   ·have h1 := (nput_yes (W.map letM) m hS hm (by omega) hr).roRes2 (.inl ⟨_, _, rfl⟩)
    rw [if_pos rfl] at hsu
    refine ⟨_, _, h1, by first | rfl | simp [noRoIf, noRoL, noRoV, noRoL_bys], ?_⟩
    conv => whnf
    refine ⟨⟨by omega, by omega, by rw [msgs_len]; simp; omega⟩, ?_⟩
    conv => whnf
    refine ⟨_, takeN_row msgC_length c2 (by simp; omega) rfl, ?_⟩
    conv => whnf
    repeat ((first | refine ⟨rfl, ?_⟩ | refine ⟨(show pureL _ = true from by first | exact prfC_pure _ | exact hdC_pure _ | exact msgC_pure _ | exact letC_pure _), ?_⟩); conv => whnf)
    rw [hM]
    refine ⟨_, _, rm, by first | rfl | simp [noRoIf, noRoL, noRoV, noRoL_bys], ?_⟩
    conv => whnf
    repeat ((refine ifB_f ?_); conv => whnf)
    refine ⟨⟨by omega, by omega, by rw [msgs_len]; simp; omega⟩, ?_⟩
    conv => whnf
    refine ⟨_, takeN_row msgC_length c2 (by simp; omega) rfl, ?_⟩
    conv => whnf
    repeat ((first | (refine Or.inl ⟨⟨rfl, ?_⟩, ?_⟩; (focus (first | rfl | (simp; done) | (rw [toksC_length]; omega)))) | refine ⟨rfl, ?_⟩ | refine ⟨⟨rfl, rfl⟩, ?_⟩); conv => whnf)
    rw [hM]
    conv => whnf
    refine ⟨⟨rfl, rfl, by rw [msgs_len, Nat.mul_comm], by show (W.length + 1) * 96 ≤ limB; simp only [limB]; omega⟩, ?_⟩
    conv => whnf
    repeat ((refine fit_i64 ⟨by first | omega | rfl | (dsimp only; omega), by first | omega | rfl | (dsimp only; omega)⟩ ?_); conv => whnf)
    refine ⟨(c + 1, W ++ [m]), ⟨by dsimp only; omega, hsu.symm, hj'⟩, by dsimp only; omega, weaker_of [(0, 2)] rfl rfl ⟨⟨rfl, rfl, msgs_pure _⟩, ⟨rfl, rfl, pureL_ints _⟩, ⟨by simp, by simp, lets_pure _⟩, ⟨rfl, rfl, by simp, rfl, fun h => h⟩, ⟨rfl, rfl⟩, trivial⟩ ⟨rowsC_les msgC_les ?_, trivial⟩⟩
    rw [rowsC_append]
    simp only [rowsC, List.append_nil]
    rfl
  ·have hWl2 : W.length ≤ 20 := by omega
   refine wpc_sound (M := MNj) (PL := PLnm) (CU := noCut) TTok mixed _ _ _ ?_
   conv => whnf
   repeat ((refine ifB_neg (decide_eq_false (by first | omega | rfl | (dsimp only; omega))) ?_); conv => whnf)
   refine Does.loop (fun g : Nat × List Msg => mkSt [(0, .ro l.length (rowsC msgC l)), (1, .ro od.length (od.map (AV.int .i64))), (5, .ro (g.2.map letM).length (rowsC letC (g.2.map letM))), (6, .sl 0 0 g.2.length 6 false), (10, .int .i64 g.1)] [(0, rowsC msgC g.2)] 1 170)
    (fun g => g.1 + g.2.length ≤ 20 ∧ ∀ m ∈ g.2, MsgS m ∧ msgR m = true) (fun g => g.2.length) ?_ (0, W) ⟨by dsimp only; omega, hWS⟩ ?_
   ·clear hWS hWl hWl2 hS hml hj hW hc c2 c W
    rintro ⟨k, W⟩ ⟨hk, hWS⟩
    dsimp only at hk hWS
    have hS := letMs_S hWS
    have hml : (W.map letM).length = W.length := by simp
    rcases Nat.eq_zero_or_pos W.length with hz | hz
    ·obtain rfl : W = [] := List.length_eq_zero_iff.1 hz
     have h1 := (ntake_no [] 0 (by simp) (by simp)).roResT rfl
     refine wpc_sound (M := MNj) (PL := PLnm) (CU := noCut) TTok mixed _ _ _ ?_
     conv => whnf
     repeat ((first | refine ifB_f ?_ | refine ⟨rfl, ?_⟩); conv => whnf)
     refine ⟨_, _, h1, by first | rfl | simp [noRoIf, noRoL, noRoV, noRoL_bys], ?_⟩
     conv => whnf
     repeat ((first | refine ifB_t ?_ | refine ⟨(⟨by kernel_rfl, by kernel_rfl, Nat.le_of_ble_eq_true (by kernel_rfl)⟩ : AV.ones _ = true ∧ _ ∧ _), ?_⟩ | refine ⟨rfl, ?_⟩); conv => whnf)
     refine ⟨_, _, hw, by first | rfl | simp [noRoIf, noRoL, noRoV, noRoL_bys], ?_⟩
     conv => whnf
     repeat ((first | refine ifB_t ?_ | refine ⟨rfl, ?_⟩); conv => whnf)
     rfl
    refine wpc_sound (M := MNj) (PL := PLnm) (CU := cutAt [22, 100025]) TTok mixed _ _ _ ?_
    conv => whnf
    repeat ((refine ifB_pos (decide_eq_true (by first | omega | rfl | (dsimp only; omega))) ?_); conv => whnf)
    refine Does.seqCut (fun n : Nat => mkSt [(0, .ro l.length (rowsC msgC l)), (1, .ro od.length (od.map (AV.int .i64))), (5, .ro (W.map letM).length (rowsC letC (W.map letM))), (6, .sl 0 0 W.length 6 false), (10, .int .i64 k), (11, .int .i64 n)] [(0, rowsC msgC W)] 1 170) (fun n => n < W.length) ?_ ?_
    ·refine wpc_sound (M := MNj) (PL := PLnm) (CU := noCut) TTok mixed _ _ _ ?_
     rcases Nat.lt_or_ge k od.length with k1 | k1
     ·have hx : od.getD k 0 = od[k] := by rw [List.getD_eq_getElem?_getD, List.getElem?_eq_getElem k1]; rfl
      have ho := hod od[k] (List.getElem_mem k1)
      rw [← hx] at ho
      obtain ⟨n, hn, hn3⟩ := mod_len (od.getD k 0) (n := W.length) hz
      have wn := wrap_u64 (od.getD k 0)
      conv => whnf
      repeat ((first | (refine ifB_pos (decide_eq_true (by first | omega | rfl | (dsimp only; omega))) ?_) | (refine ⟨⟨?_, ?_, ?_⟩, ?_⟩; (focus omega); (focus (first | omega | (simp; done) | (simp; omega))); (focus (first | (simp; done) | (simp; omega) | (rw [toksC_length]; simp; omega))))); conv => whnf)
      refine ⟨_, get_intsM (c := k) k1 (by simp), ?_⟩
      conv => whnf
      refine fit_wrap ?_
      rw [wn]
      conv => whnf
      repeat ((first | (refine fit_i64 ⟨by first | omega | rfl | (dsimp only; omega), by first | omega | rfl | (dsimp only; omega)⟩ ?_) | (refine fit_u64 ⟨by first | omega | rfl | (dsimp only; omega), by first | omega | rfl | (dsimp only; omega)⟩ ?_) | (refine And.intro (by first | omega | rfl | (dsimp only; omega)) ?_)); conv => whnf)
      rw [show (od.getD k 0 % 18446744073709551616).tmod (W.length : Int) = (n : Int) from hn]
      conv => whnf
      exact ⟨n, hn3, weaker_of [(0, 0)] rfl rfl ⟨⟨rfl, rfl, msgs_pure _⟩, ⟨rfl, rfl, pureL_ints _⟩, ⟨rfl, rfl, lets_pure _⟩, ⟨rfl, rfl, rfl, rfl, fun h => h⟩, ⟨rfl, rfl⟩, ⟨rfl, rfl⟩, trivial⟩ ⟨rowsC_les msgC_les rfl, trivial⟩⟩
     ·conv => whnf
      repeat ((refine ifB_neg (decide_eq_false (by first | omega | rfl | (dsimp only; omega))) ?_); conv => whnf)
      exact ⟨0, hz, weaker_of [(0, 0)] rfl rfl ⟨⟨rfl, rfl, msgs_pure _⟩, ⟨rfl, rfl, pureL_ints _⟩, ⟨rfl, rfl, lets_pure _⟩, ⟨rfl, rfl, rfl, rfl, fun h => h⟩, ⟨rfl, rfl⟩, ⟨rfl, rfl⟩, trivial⟩ ⟨rowsC_les msgC_les rfl, trivial⟩⟩
    ·intro n hn
     obtain ⟨hm, hr⟩ := hWS W[n] (List.getElem_mem hn)
     have hz2 : (msgB W[n]).2 = 0 := by have := msgB_err hm; rw [hr] at this; exact of_decide_eq_true this
     have hB := rdMsg_bytes hm hz2
     have y1 := msgB_byt hm
     have hrd := mread_ok (letM W[n]).body y1.1 (by show (msgB W[n]).1.length ≤ _; omega)
     rw [show rdMsg (letM W[n]).body = (W[n], 0) from hB.2] at hrd
     have kk := kmsg_ok W[n] W[n] hm hm
     rw [dt rfl] at kk
     have h1 := (ntake_yes (W.map letM) n hS (by omega) (by omega)).roResT (by simp only [pureL, pureV, letC_pure, Bool.and_true])
     rw [show (W.map letM).take n ++ (W.map letM).drop (n + 1) = (W.take n ++ W.drop (n + 1)).map letM by simp, List.getElem_map] at h1
     have hWS' : ∀ m ∈ W.take n ++ W.drop (n + 1), MsgS m ∧ msgR m = true := fun m h => by
      rcases List.mem_append.1 h with h | h
      ·exact hWS m (List.mem_of_mem_take h)
      ·exact hWS m (List.mem_of_mem_drop h)
     have hWl' : (W.take n ++ W.drop (n + 1)).length = W.length - 1 := by simp; omega
     have e1 : (letM W[n]).frm = W[n].frm := rfl
     have e2 : (letM W[n]).to = W[n].to := rfl
     have c1 := cutM_to W n
     have c2 := cutM_from W n
     have t1 : (W.take n).length = n := by simp; omega
     have t2 : (W.drop (n + 1)).length = W.length - (n + 1) := by simp
     have ht := rowsC_append (f := msgC) (W.take n) (W.drop (n + 1))
     have hml' : ((W.take n ++ W.drop (n + 1)).map letM).length = W.length - 1 := by rw [List.length_map]; exact hWl'
     generalize W.take n ++ W.drop (n + 1) = W' at *
     generalize hX : letM W[n] = X at *
     generalize hY : W[n] = m at *
     clear hB hz2 y1 hX
     refine wpc_sound (M := MNj) (PL := PLnm) (CU := cutAt [100025]) TTok mixed _ _ _ ?_
     conv => whnf
     repeat ((first | refine ⟨rfl, ?_⟩ | refine ⟨(show pureL (rowsC _ _) = true from by first | exact prfs_pure _ | exact ents_pure _ | exact hds_pure _ | exact lets_pure _), ?_⟩); conv => whnf)
     refine ⟨_, _, h1, by first | rfl | simp [noRoIf, noRoL, noRoV, noRoL_bys], ?_⟩
     conv => whnf
     repeat ((first | refine ⟨pureL_bys _, ?_⟩ | refine ⟨(⟨by kernel_rfl, by kernel_rfl, Nat.le_of_ble_eq_true (by kernel_rfl)⟩ : AV.ones _ = true ∧ _ ∧ _), ?_⟩ | refine ⟨rfl, ?_⟩ | refine ⟨_, rfl, ?_⟩); conv => whnf)
     refine ⟨_, _, hrd, by first | rfl | simp [noRoIf, noRoL, noRoV, noRoL_bys], ?_⟩
     conv => whnf
     repeat ((first | refine ⟨(⟨by kernel_rfl, by kernel_rfl, Nat.le_of_ble_eq_true (by kernel_rfl)⟩ : AV.ones _ = true ∧ _ ∧ _), ?_⟩ | refine ⟨rfl, ?_⟩); conv => whnf)
     refine Does.freeze 0 rfl (Does.freeze 1 (zs := letC X) (by rfl) (Does.freeze 2 (zs := msgC m) (by rfl) (Does.tidy [(0, .ro l.length (rowsC msgC l)), (1, .ro od.length (od.map (AV.int .i64))), (6, .ro W.length (List.take (W.length * 6) (List.drop 0 (rowsC msgC W)))), (10, .int .i64 k), (11, .int .i64 n), (12, .ro (W'.map letM).length (rowsC letC (W'.map letM))), (13, .rop (letC X)), (14, .int .i64 0), (15, .rop (msgC m)), (16, .int .i64 0)] [] 3 170 rfl rfl rfl (by kernel_rfl) (by kernel_rfl) ?_)))
     rw [rowsC_whole msgC_length W]
     have z1 : ∀ i d, i = 6 * n → d < 6 → (List.drop d (List.drop i (rowsC msgC W))).length ≠ 0 := fun i d hi hd => by rw [List.length_drop, List.length_drop, msgs_len]; omega
     have z0 : ∀ i, i = 6 * n → (List.drop i (rowsC msgC W)).length ≠ 0 := fun i hi => by rw [List.length_drop, msgs_len]; omega
     refine wpc_sound (M := MNj) (PL := PLnm) (CU := noCut) TTok mixed _ _ _ ?_
     conv => whnf
     refine ⟨by kernel_rfl, ?_⟩
     conv => whnf
     repeat ((first | refine ifB_f ?_ | refine ⟨rfl, ?_⟩ | refine ⟨_, rfl, ?_⟩); conv => whnf)
     refine ⟨⟨by omega, by omega, by rw [msgs_len]; simp; omega⟩, ?_⟩
     conv => whnf
     refine ⟨takeOk_gcell rfl rfl (z1 _ 0 (by simp; omega) (by decide)), ?_⟩
     conv => whnf
     repeat ((refine ifB_f ?_); conv => whnf)
     refine ⟨_, takeN_row msgC_length hn (by simp; omega) rfl, ?_⟩
     conv => whnf
     repeat ((first | refine ifB_f ?_ | refine ⟨rfl, ?_⟩ | refine ⟨(show pureL _ = true from by first | exact prfC_pure _ | exact hdC_pure _ | exact msgC_pure _ | exact letC_pure _), ?_⟩); conv => whnf)
     rw [hY]
     refine ⟨_, _, kk, by first | rfl | simp [noRoIf, noRoL, noRoV, noRoL_bys], ?_⟩
     conv => whnf
     repeat ((first | refine ifB_f ?_ | refine ⟨rfl, ?_⟩ | refine ⟨_, rfl, ?_⟩); conv => whnf)
     refine ⟨⟨by omega, by omega, by rw [msgs_len]; simp; omega⟩, ?_⟩
     conv => whnf
     repeat ((refine ifB_f ?_); conv => whnf)
     refine ⟨takeOk_gcell rfl rfl (z1 _ 1 (by simp; omega) (by decide)), ?_⟩
     conv => whnf
     repeat ((refine ifB_f ?_); conv => whnf)
     refine ⟨_, msg_frm hn (by simp; omega), ?_⟩
     conv => whnf
     repeat ((refine ifB_f ?_); conv => whnf)
     rw [hY]
     conv => whnf
     repeat ((first | refine ifB_f ?_ | (refine ifB_neg (decide_eq_false (by first | omega | rfl | (dsimp only; omega))) ?_) | refine ⟨rfl, ?_⟩ | refine ⟨_, rfl, ?_⟩); conv => whnf)
     refine ⟨⟨by omega, by omega, by rw [msgs_len]; simp; omega⟩, ?_⟩
     conv => whnf
     repeat ((refine ifB_f ?_); conv => whnf)
     refine ⟨takeOk_gcell rfl rfl (z1 _ 2 (by simp; omega) (by decide)), ?_⟩
     conv => whnf
     repeat ((refine ifB_f ?_); conv => whnf)
     refine ⟨_, msg_to hn (by simp; omega), ?_⟩
     conv => whnf
     repeat ((refine ifB_f ?_); conv => whnf)
     rw [hY]
     conv => whnf
     repeat ((first | refine ifB_f ?_ | (refine ifB_neg (decide_eq_false (by first | omega | rfl | (dsimp only; omega))) ?_) | (refine fit_i64 ⟨by first | omega | rfl | (dsimp only; omega), by first | omega | rfl | (dsimp only; omega)⟩ ?_)); conv => whnf)
     refine ⟨by kernel_rfl, ?_⟩
     conv => whnf
     refine ⟨⟨by rw [msgs_len, Nat.mul_comm], by simp [okB]; omega⟩, ?_⟩
     conv => whnf
     repeat ((refine fit_i64 ⟨by first | omega | rfl | (dsimp only; omega), by first | omega | rfl | (dsimp only; omega)⟩ ?_); conv => whnf)
     refine ⟨⟨by rw [msgs_len, Nat.mul_comm], by simp [okB]; omega⟩, ?_⟩
     conv => whnf
     rw [c1, c2]
     refine ⟨by rw [msgs_len, t1, Nat.mul_comm]; rfl, ?_⟩
     conv => whnf
     refine ⟨msgs_ones _, ?_⟩
     conv => whnf
     refine ⟨by show n * 96 ≤ limB; simp only [limB]; omega, ?_⟩
     conv => whnf
     refine ⟨by rw [msgs_len, t2]; show 6 * (W.length - (n + 1)) = (W.length - ((n : Int) + 1).toNat) * 6; omega, ?_⟩
     conv => whnf
     refine ⟨msgs_ones _, ?_⟩
     conv => whnf
     refine ⟨⟨rfl, rfl, by rw [msgs_len, t1, Nat.mul_comm]; rfl, by show (n + (W.length - ((n : Int) + 1).toNat)) * 96 ≤ limB; simp only [limB]; omega⟩, ?_⟩
     conv => whnf
     repeat ((refine fit_i64 ⟨by first | omega | rfl | (dsimp only; omega), by first | omega | rfl | (dsimp only; omega)⟩ ?_); conv => whnf)
     refine ⟨(k + 1, W'), ⟨by dsimp only; omega, hWS'⟩, by dsimp only; omega, weaker_of [(0, 4)] rfl rfl ⟨⟨rfl, rfl, msgs_pure _⟩, ⟨rfl, rfl, pureL_ints _⟩, ⟨rfl, rfl, lets_pure _⟩, ⟨rfl, rfl, ?_, rfl, fun h => h⟩, ⟨rfl, rfl⟩, trivial⟩ ⟨rowsC_les msgC_les ?_, trivial⟩⟩
     ·show n + (W.length - ((n : Int) + 1).toNat) = W'.length
      omega
     ·exact ht.symm
   ·exact weaker_of [(0, 0)] rfl rfl ⟨⟨rfl, rfl, msgs_pure _⟩, ⟨rfl, rfl, pureL_ints _⟩, ⟨rfl, rfl, lets_pure _⟩, ⟨rfl, rfl, rfl, rfl, fun h => h⟩, ⟨rfl, rfl⟩, trivial⟩ ⟨rowsC_les msgC_les rfl, trivial⟩
 ·exact weaker_of [] rfl rfl ⟨⟨rfl, rfl, msgs_pure _⟩, ⟨rfl, rfl, pureL_ints _⟩, ⟨rfl, rfl⟩, rfl, ⟨rfl, rfl⟩, trivial⟩ ⟨rfl, trivial⟩
end
section

theorem let_of_ty {n : Nat} {y : List AV} (h : TyL TT (n + 3) 40 y) : ∃ t : Let, y = letC t ∧ LetO t := by
 obtain ⟨ys, rfl, a, r, rfl, ⟨k, rfl, k1, k2⟩, b, r', rfl, ⟨m, rfl, m1, m2⟩, c, r'', rfl, ⟨es, rfl, hl, he⟩, rfl⟩ := h
 obtain ⟨l, h1, h2, h3⟩ := bytes_of_ty ⟨_, show TT 5 = some _ from rfl, rfl⟩ es he
 simp only [IntKind.lo, IntKind.hi] at k1 k2 m1 m2
 exact ⟨⟨k, m, l⟩, by simp [letC, h1, h2], { frm := ⟨k1, by dsimp only; omega⟩, to := ⟨m1, by dsimp only; omega⟩, body := h3 }⟩
theorem lets_of_ty {n : Nat} {xs : List AV} (h : TyL TT (n + 4) 22 xs) : ∃ l : List Let, xs = [.ro l.length (rowsC letC l)] ∧ ((∀ x ∈ l, LetO x) ∧ l.length ≤ 9223372036854775807) := by
 obtain ⟨es, rfl, hl, he⟩ := h
 obtain ⟨l, h1, h2, h3⟩ := rows_of_ty (fun y h => let_of_ty h) es he
 exact ⟨l, by simp [h1, h2], h3, by omega⟩
theorem msgs_of_ty {n : Nat} {xs : List AV} (h : TyL TT (n + 8) 58 xs) : ∃ l : List Msg, xs = [.ro l.length (rowsC msgC l)] ∧ ((∀ x ∈ l, MsgO x) ∧ l.length ≤ 9223372036854775807) := by
 obtain ⟨es, rfl, hl, he⟩ := h
 obtain ⟨l, h1, h2, h3⟩ := rows_of_ty (fun y h => msg_of_ty h) es he
 exact ⟨l, by simp [h1, h2], h3, by omega⟩
theorem ints_cells {n : Nat} : ∀ (es : List (List AV)), (∀ y ∈ es, TyL TT (n + 1) 3 y) → ∃ l : List Int, es.flatten = l.map (AV.int .i64) ∧ l.length = es.length ∧ ∀ x ∈ l, -9223372036854775808 ≤ x ∧ x < 9223372036854775808
 | [], _ => ⟨[], rfl, rfl, by simp⟩
 | y :: es, h => by
  obtain ⟨l, h1, h2, h3⟩ := ints_cells es (fun z hz => h z (by simp [hz]))
  obtain ⟨k, rfl, k1, k2⟩ := h y (by simp)
  simp only [IntKind.lo, IntKind.hi] at k1 k2
  refine ⟨k :: l, by simp [h1], by simp [h2], fun x hx => ?_⟩
  rcases List.mem_cons.1 hx with rfl | hx
  ·exact ⟨k1, by omega⟩
  ·exact h3 x hx
theorem intl_of_ty {n : Nat} {xs : List AV} (h : TyL TT (n + 2) 59 xs) : ∃ l : List Int, xs = [.ro l.length (l.map (AV.int .i64))] ∧ ((∀ x ∈ l, -9223372036854775808 ≤ x ∧ x < 9223372036854775808) ∧ l.length ≤ 9223372036854775807) := by
 obtain ⟨es, rfl, hl, he⟩ := h
 obtain ⟨l, h1, h2, h3⟩ := ints_cells es he
 exact ⟨l, by simp [h1, h2], h3, by omega⟩
theorem intl_pure : ∀ l : List Int, pureL (l.map (AV.int .i64)) = true
 | [] => rfl
 | x :: l => by simp only [List.map_cons, pureL, pureV, Bool.true_and]; exact intl_pure l
theorem netStays_row (l : List Let) (a : Int) (b : (∀ x ∈ l, LetO x) ∧ l.length ≤ 9223372036854775807) (ha : -9223372036854775808 ≤ a ∧ a < 9223372036854775808) : ACall Tryd.prog 5 [.ro l.length (rowsC letC l), .int .i64 a] (.bool true) [] := netStays_ok l a b.1 ha
theorem netBack_row (l : List Let) (m : Msg) (a : Int) (b : (∀ x ∈ l, LetO x) ∧ l.length ≤ 9223372036854775807) (om : MsgO m) (ha : -9223372036854775808 ≤ a ∧ a < 9223372036854775808) : ACall Tryd.prog 8 [.ro l.length (rowsC letC l), .agg (msgC m), .int .i64 a] (.bool true) [] := netBack_ok l m a b.1 om ha
theorem netMany_row (l : List Msg) (od : List Int) (b : (∀ x ∈ l, MsgO x) ∧ l.length ≤ 9223372036854775807) (c : (∀ x ∈ od, -9223372036854775808 ≤ x ∧ x < 9223372036854775808) ∧ od.length ≤ 9223372036854775807) : ACall Tryd.prog 7 [.ro l.length (rowsC msgC l), .ro od.length (od.map (AV.int .i64))] (.bool true) [] := netMany_ok l od b.1 c.1 b.2 c.2
end
end Go.Proofs.YtbpdbajcmagomaaDoor.Abs
