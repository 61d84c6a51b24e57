/- Texts ST to PN, merged. -/
import Derived.Test.YtgcmddhdnfmdnaaGreatDoorU13
set_option linter.unusedVariables false
set_option linter.unusedSimpArgs false
namespace Go.Proofs.YtgcmddhdnfmdnaaGreatDoor.Abs
open Go
section
--KR
attribute [local irreducible] ifB fitP Does Weaker
theorem pf_dems1 {H : Heap} {p : Prf} {zs : List AV} {K : List Nat → Prop} (hz : zs = prfC p) (h : K []) : demsP H [.agg (prfC p)] [.agg zs] K := by
 subst hz
 simp only [demsP, demP]
 refine ent_dems' p.a ?_
 refine ent_dems p.b ?_
 simpa only [and_self, true_and, List.nil_append] using h
def PLpt : Nat → Bool × Plan := plans [(1, (false, (takesTo [0, 1, 3, 4] (.all [(2, (.all [(5, (takesTo [6] (.all [(7, .done)])))]))]))))]
def mkP (a b : Ent) : Prf × Int := if ordR a b = -1 then (⟨a, b⟩, 0) else if ordR a b = 1 then (⟨b, a⟩, 0) else (prf0, 1)
section
attribute [local irreducible] demsP
set_option maxRecDepth 20000 in
set_option maxHeartbeats 4000000 in
theorem ptwin_ok (p : Prf) (hp : PrfS p) : ACall Tryz.prog 47 [.agg (prfC p)] (.agg (prfC p)) [] := by
 have h1 := etwin_ok p.a hp.a
 have h2 := etwin_ok p.b hp.b
 refine ACall.of_does TTok Tryz.func47 rfl Tryz.call47 rfl (wpc_sound (M := MRow) (PL := PLpt) (CU := cutAt [100001, 99999]) TTok mixed _ _ _ ?_)
 conv => whnf
 repeat ((refine ⟨rfl, ?_⟩); conv => whnf)
 refine Does.freeze 0 rfl (Does.tidy [(1, .rop (prfC p)), (2, .ptr 1 0)] [(1, zeroE ++ zeroE)] 2 10 rfl rfl rfl (by kernel_rfl) (by kernel_rfl) ?_)
 refine wpc_sound (M := MRow) (PL := PLpt) (CU := noCut) TTok mixed _ _ _ ?_
 conv => whnf
 refine ⟨by kernel_rfl, ?_⟩
 conv => whnf
 repeat ((first | refine ⟨entC_pure _, ?_⟩ | refine ⟨rfl, ?_⟩ | refine ⟨_, rfl, ?_⟩); conv => whnf)
 refine ⟨_, _, h1, by first | rfl | simp [noRoIf, noRoL, noRoV, noRoL_bys], ?_⟩
 conv => whnf
 repeat ((first | refine ⟨entC_pure _, ?_⟩ | refine ⟨rfl, ?_⟩); conv => whnf)
 refine ⟨_, _, h2, by first | rfl | simp [noRoIf, noRoL, noRoV, noRoL_bys], ?_⟩
 conv => whnf
 repeat ((first | refine ⟨(⟨by kernel_rfl, by kernel_rfl, Nat.le_of_ble_eq_true (by kernel_rfl)⟩ : AV.ones _ = true ∧ _ ∧ _), ?_⟩ | refine ⟨⟨rfl, rfl⟩, ?_⟩); conv => whnf)
 refine Does.tidy [(2, .ptr 1 0)] [(1, prfC p)] 2 10 rfl rfl rfl (by kernel_rfl) (by kernel_rfl) ?_
 refine wpc_sound (M := MRow) (PL := PLpt) (CU := noCut) TTok mixed _ _ _ ?_
 conv => whnf
 refine ⟨prfC p, by kernel_rfl, ?_⟩
 conv => whnf
 refine pf_dems1 (by kernel_rfl) ?_
 rfl
set_option maxRecDepth 20000 in
set_option maxHeartbeats 4000000 in
theorem pmake_ok (a b : Ent) (ha : EntS a) (hb : EntS b) : ACall Tryz.prog 12 [.agg (entC a), .agg (entC b)] (.tuple [.agg (prfC (mkP a b).1), .int .i64 (mkP a b).2]) [] := by
 have ho := order_ok a b ha hb
 have t1 := ptwin_ok ⟨a, b⟩ ⟨ha, hb⟩
 have t2 := ptwin_ok ⟨b, a⟩ ⟨hb, ha⟩
 unfold mkP
 generalize ordR a b = o at ho ⊢
 refine ACall.of_does TTok Tryz.func12 rfl Tryz.call12 rfl (wpc_sound (M := MRow) (PL := PL0) (CU := cutAt [100001, 99999]) TTok mixed _ _ _ ?_)
 conv => whnf
 repeat ((refine ⟨rfl, ?_⟩); conv => whnf)
 refine Does.freeze 0 rfl (Does.freeze 1 (zs := entC b) (by show some (frzL 0 _ (entC b)) = _; rw [entC_frz]) (Does.tidy [(2, .rop (entC a)), (3, .rop (entC b)), (4, .ptr 2 0)] [(2, zeroE ++ zeroE)] 3 22 rfl rfl rfl (by kernel_rfl) (by kernel_rfl) ?_))
 refine wpc_sound (M := MRow) (PL := PL0) (CU := noCut) TTok mixed _ _ _ ?_
 conv => whnf
 repeat ((first | refine ⟨entC_pure _, ?_⟩ | refine ⟨rfl, ?_⟩ | refine ⟨_, rfl, ?_⟩); conv => whnf)
 refine ⟨_, _, ho, by first | rfl | simp [noRoIf, noRoL, noRoV, noRoL_bys], ?_⟩
 conv => whnf
 by_cases c1 : o = -1
 ·rw [dt c1, if_pos c1]
  conv => whnf
  repeat ((first | refine ifB_t ?_ | refine ⟨_, rfl, ?_⟩ | refine ⟨⟨rfl, rfl⟩, ?_⟩); conv => whnf)
  refine ⟨(show pureL (prfC ⟨a, b⟩) = true from prfC_pure _), ?_⟩
  conv => whnf
  repeat ((refine ⟨rfl, ?_⟩); conv => whnf)
  refine ⟨_, _, t1, by first | rfl | simp [noRoIf, noRoL, noRoV, noRoL_bys], ?_⟩
  conv => whnf
  repeat ((refine ⟨(⟨by kernel_rfl, by kernel_rfl, Nat.le_of_ble_eq_true (by kernel_rfl)⟩ : AV.ones _ = true ∧ _ ∧ _), ?_⟩); conv => whnf)
  refine Does.tidy [(4, .ptr 2 0), (5, .int .i64 0)] [(2, prfC ⟨a, b⟩)] 3 22 rfl rfl rfl (by kernel_rfl) (by kernel_rfl) ?_
  refine wpc_sound (M := MRow) (PL := PL0) (CU := noCut) TTok mixed _ _ _ ?_
  conv => whnf
  refine ⟨prfC ⟨a, b⟩, by kernel_rfl, ?_⟩
  conv => whnf
  refine prf_int_dems (by kernel_rfl) ?_
  rfl
 rw [df c1, if_neg c1]
 conv => whnf
 repeat ((refine ifB_f ?_); conv => whnf)
 by_cases c2 : o = 1
 ·rw [dt c2, if_pos c2]
  conv => whnf
  repeat ((first | refine ifB_t ?_ | refine ⟨_, rfl, ?_⟩ | refine ⟨⟨rfl, rfl⟩, ?_⟩); conv => whnf)
  refine ⟨(show pureL (prfC ⟨b, a⟩) = true from prfC_pure _), ?_⟩
  conv => whnf
  repeat ((refine ⟨rfl, ?_⟩); conv => whnf)
  refine ⟨_, _, t2, by first | rfl | simp [noRoIf, noRoL, noRoV, noRoL_bys], ?_⟩
  conv => whnf
  repeat ((refine ⟨(⟨by kernel_rfl, by kernel_rfl, Nat.le_of_ble_eq_true (by kernel_rfl)⟩ : AV.ones _ = true ∧ _ ∧ _), ?_⟩); conv => whnf)
  refine Does.tidy [(4, .ptr 2 0), (5, .int .i64 0)] [(2, prfC ⟨b, a⟩)] 3 22 rfl rfl rfl (by kernel_rfl) (by kernel_rfl) ?_
  refine wpc_sound (M := MRow) (PL := PL0) (CU := noCut) TTok mixed _ _ _ ?_
  conv => whnf
  refine ⟨prfC ⟨b, a⟩, by kernel_rfl, ?_⟩
  conv => whnf
  refine prf_int_dems (by kernel_rfl) ?_
  rfl
 rw [df c2, if_neg c2]
 conv => whnf
 repeat ((first | refine ifB_f ?_ | refine ⟨(⟨by kernel_rfl, by kernel_rfl, Nat.le_of_ble_eq_true (by kernel_rfl)⟩ : AV.ones _ = true ∧ _ ∧ _), ?_⟩); conv => whnf)
 refine Does.tidy [(4, .ptr 2 0), (5, .int .i64 1)] [(2, zeroE ++ zeroE)] 3 22 rfl rfl rfl (by kernel_rfl) (by kernel_rfl) ?_
 refine wpc_sound (M := MRow) (PL := PL0) (CU := noCut) TTok mixed _ _ _ ?_
 conv => whnf
 refine ⟨zeroE ++ zeroE, by kernel_rfl, ?_⟩
 conv => whnf
 refine prf0_int_dems (by kernel_rfl) ?_
 rfl
end
set_option maxRecDepth 20000 in
set_option maxHeartbeats 4000000 in
theorem pverify_ok (p : Prf) (hp : PrfS p) : ACall Tryz.prog 52 [.int .i64 2, .agg (prfC p)] (.bool (prfR p && verE p.a && verE p.b)) [] := by
 have hc := check_proof_ok p hp
 have h1 := everify_ok p.a hp.a
 have h2 := everify_ok p.b hp.b
 refine ACall.of_does TTok Tryz.func52 rfl Tryz.call52 rfl (wpc_sound (M := MRow) (PL := PL0) (CU := cutAt [100001]) TTok mixed _ _ _ ?_)
 conv => whnf
 repeat ((refine ⟨rfl, ?_⟩); conv => whnf)
 refine Does.freeze 0 rfl (Does.tidy [(0, .int .i64 2), (3, .rop (prfC p))] [] 1 20 rfl rfl rfl (by kernel_rfl) (by kernel_rfl) ?_)
 refine wpc_sound (M := MRow) (PL := PL0) (CU := noCut) TTok mixed _ _ _ ?_
 conv => whnf
 repeat ((first | refine ⟨rfl, ?_⟩ | refine ⟨_, rfl, ?_⟩ | (refine And.intro ?_ ?_; (focus (first | (simp only [pureL, pureV, pureL_bys, Bool.and_true, Bool.and_self]; done) | (simp only [pureL, pureV, pureL_bys, pureL_toks, Bool.and_true, Bool.and_self]; done))))); conv => whnf)
 cases hr : prfR p <;> rw [hr] at hc
 ·refine ⟨_, _, hc, by first | rfl | simp [noRoIf, noRoL, noRoV, noRoL_bys], ?_⟩
  conv => whnf
  repeat ((first | refine ifB_f ?_ | refine ⟨rfl, ?_⟩); conv => whnf)
  rfl
 ·refine ⟨_, _, hc, by first | rfl | simp [noRoIf, noRoL, noRoV, noRoL_bys], ?_⟩
  conv => whnf
  repeat ((first | refine ifB_t ?_ | refine ⟨entC_pure _, ?_⟩ | refine ⟨rfl, ?_⟩ | refine ⟨_, rfl, ?_⟩); conv => whnf)
  cases g1 : verE p.a <;> rw [g1] at h1
  ·refine ⟨_, _, h1, by first | rfl | simp [noRoIf, noRoL, noRoV, noRoL_bys], ?_⟩
   conv => whnf
   repeat ((first | refine ifB_t ?_ | refine ifB_f ?_ | refine ⟨rfl, ?_⟩); conv => whnf)
   rfl
  ·refine ⟨_, _, h1, by first | rfl | simp [noRoIf, noRoL, noRoV, noRoL_bys], ?_⟩
   conv => whnf
   repeat ((first | refine ifB_t ?_ | refine ⟨entC_pure _, ?_⟩ | refine ⟨rfl, ?_⟩ | refine ⟨_, rfl, ?_⟩); conv => whnf)
   cases g2 : verE p.b <;> rw [g2] at h2
   ·refine ⟨_, _, h2, by first | rfl | simp [noRoIf, noRoL, noRoV, noRoL_bys], ?_⟩
    conv => whnf
    repeat ((first | refine ifB_t ?_ | refine ⟨rfl, ?_⟩); conv => whnf)
    rfl
   ·refine ⟨_, _, h2, by first | rfl | simp [noRoIf, noRoL, noRoV, noRoL_bys], ?_⟩
    conv => whnf
    repeat ((first | refine ifB_t ?_ | refine ⟨rfl, ?_⟩); conv => whnf)
    rfl
end
section

theorem cmpI_or {x y : List Int} (h : x ≠ y) : (cmpI x y = -1 ∧ bytesLt x y = true) ∨ (cmpI x y = 1 ∧ bytesLt x y = false) := by
 unfold cmpI
 cases hb : bytesLt x y
 ·right
  rw [if_neg (by simp), if_neg h]
  exact ⟨rfl, rfl⟩
 ·left
  exact ⟨rfl, rfl⟩
theorem lt_total : ∀ {x y : List Int}, x ≠ y → bytesLt x y = false → bytesLt y x = true
 | [], [], h, _ => absurd rfl h
 | [], _ :: _, _, k => by simp [bytesLt] at k
 | _ :: _, [], _, _ => by simp [bytesLt]
 | x :: a, y :: b, h, k => by
  simp only [bytesLt, Bool.or_eq_false_iff, Bool.and_eq_false_iff, decide_eq_false_iff_not, beq_eq_false_iff_ne, Bool.or_eq_true, Bool.and_eq_true, decide_eq_true_eq, beq_iff_eq] at k ⊢
  by_cases e : x = y
  ·right
   refine ⟨e.symm, lt_total (fun e' => h (by rw [e, e'])) ?_⟩
   rcases k.2 with k | k
   ·exact absurd e k
   ·exact k
  ·left; omega
theorem mkP_two {a b : Ent} (ha : EntS a) (hb : EntS b) (ra : entR a = true) (rb : entR b = true) (h1 : a.au = b.au) (h2 : a.seq = b.seq) (ne : a ≠ b) :
  ∃ x y, mkP a b = (⟨x, y⟩, 0) ∧ bytesLt (entB x).1 (entB y).1 = true ∧ ((x = a ∧ y = b) ∨ (x = b ∧ y = a)) := by
 have za := entB_ok0 ha ra
 have zb := entB_ok0 hb rb
 have hn : (entB a).1 ≠ (entB b).1 := fun h => by
  have := entB_inj ha hb za zb
  rw [decide_eq_true h] at this
  exact ne (of_decide_eq_true this.symm)
 have ho : ordR a b = cmpI (entB a).1 (entB b).1 := by
  unfold ordR
  rw [if_neg (by simp [za]), if_neg (by simp [zb]), if_neg (fun h => h h1), if_neg (fun h => h h2)]
 unfold mkP
 rw [ho]
 rcases cmpI_or hn with ⟨e, l⟩ | ⟨e, l⟩
 ·rw [e]
  exact ⟨a, b, rfl, l, .inl ⟨rfl, rfl⟩⟩
 ·rw [e]
  exact ⟨b, a, rfl, lt_total hn l, .inr ⟨rfl, rfl⟩⟩
end
section
--KR
attribute [local irreducible] ifB fitP Does Weaker
def PLmk2 : Nat → Bool × Plan := plans [(2, (false, (.all [(0, (.all [(1, (.all [(2, (.all [(3, (.all [(4, (.all [(5, (takes [6]))]))]))])), (3, (.all [(2, (.all [(4, (.all [(5, (takes [6]))]))])), (4, (.all [(2, (.all [(5, (takes [6]))])), (5, (.all [(2, (takes [6]))]))]))]))])), (3, (.all [(1, (.all [(2, (.all [(4, (.all [(5, (takes [6]))]))])), (4, (.all [(2, (.all [(5, (takes [6]))])), (5, (.all [(2, (takes [6]))]))]))]))]))])), (3, (.all [(0, (.all [(1, (.all [(2, (.all [(4, (.all [(5, (takes [6]))]))])), (4, (.all [(2, (.all [(5, (takes [6]))])), (5, (.all [(2, (takes [6]))]))]))]))]))]))])))]
section
attribute [local irreducible] demsP
set_option maxRecDepth 20000 in
set_option maxHeartbeats 2000000 in
theorem mkprf2_ok (a b : Ent) (ha : EntS a) (hb : EntS b) (h : bytesLt (encR validR (entTs b)).1 (encR validR (entTs a)).1 = true) : ACall Tryz.prog 17 [.agg (entC a), .agg (entC b)] (.agg (prfC ⟨b, a⟩)) [] := by
 have t1 := ktwin_ok a ha
 have t2 := ktwin_ok b hb
 have e1 := (refebytes_ok a ha).roRes
 have e2 := (refebytes_ok b hb).roRes
 have b1 := enc_byt ha
 have b2 := enc_byt hb
 generalize (encR validR (entTs a)).1 = x at h e1 b1
 generalize (encR validR (entTs b)).1 = y at h e2 b2
 refine ACall.of_does TTok Tryz.func17 rfl Tryz.call17 rfl (wpc_sound (M := MRd) (PL := PLmk2) (CU := cutAt [100001, 200002, 100003, 100004, 99999]) TTok mixed _ _ _ ?_)
 conv => whnf
 repeat ((refine ⟨rfl, ?_⟩); conv => whnf)
 refine Does.tidy [(2, .ptr 0 0), (3, .ptr 1 0), (4, .ptr 2 0)] [(0, entC a), (1, entC b), (2, zeroE ++ zeroE)] 3 21 rfl rfl rfl (by kernel_rfl) (by kernel_rfl) ?_
 refine Does.quiet TTok mixed (M := MRd) [4, 5] [0, 2] (takesTo [0, 2] (.all [(1, (.all [(3, (.all [(4, (.all [(5, .done)]))]))]))])) (by kernel_rfl) ?_
 conv => whnf
 refine ⟨entC a, by kernel_rfl, ?_⟩
 conv => whnf
 refine ⟨entC b, by kernel_rfl, ?_⟩
 conv => whnf
 repeat ((first | refine ⟨entC_pure _, ?_⟩ | refine ⟨rfl, ?_⟩); conv => whnf)
 refine ⟨_, _, t1, by first | rfl | simp [noRoIf, noRoL, noRoV, noRoL_bys], ?_⟩
 conv => whnf
 repeat ((first | refine ⟨entC_pure _, ?_⟩ | refine ⟨rfl, ?_⟩); conv => whnf)
 refine ⟨_, _, t2, by first | rfl | simp [noRoIf, noRoL, noRoV, noRoL_bys], ?_⟩
 conv => whnf
 repeat ((refine ⟨(⟨by kernel_rfl, by kernel_rfl, Nat.le_of_ble_eq_true (by kernel_rfl)⟩ : AV.ones _ = true ∧ _ ∧ _), ?_⟩); conv => whnf)
 refine Does.seqCut (fun _ : Unit => mkSt [(2, .ptr 0 0), (3, .ptr 1 0), (4, .ptr 2 0), (15, .bool true)] [(0, entC a), (1, entC b), (2, zeroE ++ zeroE)] 3 21) (fun _ => True) ?_ ?_
 ·refine Does.tidy [(2, .ptr 0 0), (3, .ptr 1 0), (4, .ptr 2 0)] [(0, entC a), (1, entC b), (2, zeroE ++ zeroE)] 3 21 rfl rfl rfl (by kernel_rfl) (by kernel_rfl) ?_
  refine wpc_sound (M := MRd) (PL := PLmk2) (CU := noCut) TTok mixed _ _ _ ?_
  conv => whnf
  refine ⟨by kernel_rfl, ?_⟩
  conv => whnf
  refine ⟨?_, ?_⟩
  ·conv => whnf
   repeat ((refine ⟨_, rfl, ?_⟩); conv => whnf)
   refine ⟨?_, ?_⟩
   ·conv => whnf
    repeat ((first | refine ⟨entC_pure _, ?_⟩ | refine ⟨rfl, ?_⟩); conv => whnf)
    refine ⟨_, _, e2, by first | rfl | simp [noRoIf, noRoL, noRoV, noRoL_bys], ?_⟩
    conv => whnf
    refine ⟨?_, ?_⟩
    ·conv => whnf
     repeat ((refine And.intro ?_ ?_; (focus (first | (simp [limB, lenB, offB]; done) | (simp [limB, lenB, offB]; omega)))); conv => whnf)
     refine ⟨y, ⟨by first | rfl | (simp [bys]; done) | exact whole_bys y, b2⟩, ?_⟩
     conv => whnf
     repeat ((first | refine ⟨entC_pure _, ?_⟩ | refine ⟨rfl, ?_⟩ | refine ⟨_, rfl, ?_⟩); conv => whnf)
     refine ⟨_, _, e1, by first | rfl | simp [noRoIf, noRoL, noRoV, noRoL_bys], ?_⟩
     conv => whnf
     repeat ((refine And.intro ?_ ?_; (focus (first | (simp [limB, lenB, offB]; done) | (simp [limB, lenB, offB]; omega)))); conv => whnf)
     refine ⟨x, ⟨by first | rfl | (simp [bys]; done) | exact whole_bys x, b1⟩, ?_⟩
     conv => whnf
     rw [h]
     conv => whnf
     exact ⟨(), trivial, Weaker.tidy [(2, .ptr 0 0), (3, .ptr 1 0), (4, .ptr 2 0), (15, .bool true)] [(0, entC a), (1, entC b), (2, zeroE ++ zeroE)] 3 21 rfl rfl rfl (by kernel_rfl) (by kernel_rfl)⟩
    ·conv => whnf
     repeat ((refine ⟨_, rfl, ?_⟩); conv => whnf)
     refine ⟨?_, ?_⟩
     ·conv => whnf
      repeat ((refine And.intro ?_ ?_; (focus (first | (simp [limB, lenB, offB]; done) | (simp [limB, lenB, offB]; omega)))); conv => whnf)
      refine ⟨y, ⟨by first | rfl | (simp [bys]; done) | exact whole_bys y, b2⟩, ?_⟩
      conv => whnf
      repeat ((first | refine ⟨entC_pure _, ?_⟩ | refine ⟨rfl, ?_⟩); conv => whnf)
      refine ⟨_, _, e1, by first | rfl | simp [noRoIf, noRoL, noRoV, noRoL_bys], ?_⟩
      conv => whnf
      repeat ((refine And.intro ?_ ?_; (focus (first | (simp [limB, lenB, offB]; done) | (simp [limB, lenB, offB]; omega)))); conv => whnf)
      refine ⟨x, ⟨by first | rfl | (simp [bys]; done) | exact whole_bys x, b1⟩, ?_⟩
      conv => whnf
      rw [h]
      conv => whnf
      exact ⟨(), trivial, Weaker.tidy [(2, .ptr 0 0), (3, .ptr 1 0), (4, .ptr 2 0), (15, .bool true)] [(0, entC a), (1, entC b), (2, zeroE ++ zeroE)] 3 21 rfl rfl rfl (by kernel_rfl) (by kernel_rfl)⟩
     ·conv => whnf
      repeat ((first | refine ⟨entC_pure _, ?_⟩ | refine ⟨rfl, ?_⟩); conv => whnf)
      refine ⟨_, _, e1, by first | rfl | simp [noRoIf, noRoL, noRoV, noRoL_bys], ?_⟩
      conv => whnf
      refine ⟨?_, ?_⟩
      ·conv => whnf
       repeat ((refine And.intro ?_ ?_; (focus (first | (simp [limB, lenB, offB]; done) | (simp [limB, lenB, offB]; omega)))); conv => whnf)
       refine ⟨y, ⟨by first | rfl | (simp [bys]; done) | exact whole_bys y, b2⟩, ?_⟩
       conv => whnf
       repeat ((refine And.intro ?_ ?_; (focus (first | (simp [limB, lenB, offB]; done) | (simp [limB, lenB, offB]; omega)))); conv => whnf)
       refine ⟨x, ⟨by first | rfl | (simp [bys]; done) | exact whole_bys x, b1⟩, ?_⟩
       conv => whnf
       rw [h]
       conv => whnf
       exact ⟨(), trivial, Weaker.tidy [(2, .ptr 0 0), (3, .ptr 1 0), (4, .ptr 2 0), (15, .bool true)] [(0, entC a), (1, entC b), (2, zeroE ++ zeroE)] 3 21 rfl rfl rfl (by kernel_rfl) (by kernel_rfl)⟩
      ·conv => whnf
       repeat ((refine And.intro ?_ ?_; (focus (first | (simp [limB, lenB, offB]; done) | (simp [limB, lenB, offB]; omega)))); conv => whnf)
       refine ⟨x, ⟨by first | rfl | (simp [bys]; done) | exact whole_bys x, b1⟩, ?_⟩
       conv => whnf
       repeat ((refine And.intro ?_ ?_; (focus (first | (simp [limB, lenB, offB]; done) | (simp [limB, lenB, offB]; omega)))); conv => whnf)
       refine ⟨y, ⟨by first | rfl | (simp [bys]; done) | exact whole_bys y, b2⟩, ?_⟩
       conv => whnf
       rw [h]
       conv => whnf
       exact ⟨(), trivial, Weaker.tidy [(2, .ptr 0 0), (3, .ptr 1 0), (4, .ptr 2 0), (15, .bool true)] [(0, entC a), (1, entC b), (2, zeroE ++ zeroE)] 3 21 rfl rfl rfl (by kernel_rfl) (by kernel_rfl)⟩
   ·conv => whnf
    repeat ((first | refine ⟨entC_pure _, ?_⟩ | refine ⟨rfl, ?_⟩ | refine ⟨_, rfl, ?_⟩); conv => whnf)
    refine ⟨_, _, e2, by first | rfl | simp [noRoIf, noRoL, noRoV, noRoL_bys], ?_⟩
    conv => whnf
    refine ⟨?_, ?_⟩
    ·conv => whnf
     repeat ((refine And.intro ?_ ?_; (focus (first | (simp [limB, lenB, offB]; done) | (simp [limB, lenB, offB]; omega)))); conv => whnf)
     refine ⟨y, ⟨by first | rfl | (simp [bys]; done) | exact whole_bys y, b2⟩, ?_⟩
     conv => whnf
     repeat ((first | refine ⟨entC_pure _, ?_⟩ | refine ⟨rfl, ?_⟩); conv => whnf)
     refine ⟨_, _, e1, by first | rfl | simp [noRoIf, noRoL, noRoV, noRoL_bys], ?_⟩
     conv => whnf
     repeat ((refine And.intro ?_ ?_; (focus (first | (simp [limB, lenB, offB]; done) | (simp [limB, lenB, offB]; omega)))); conv => whnf)
     refine ⟨x, ⟨by first | rfl | (simp [bys]; done) | exact whole_bys x, b1⟩, ?_⟩
     conv => whnf
     rw [h]
     conv => whnf
     exact ⟨(), trivial, Weaker.tidy [(2, .ptr 0 0), (3, .ptr 1 0), (4, .ptr 2 0), (15, .bool true)] [(0, entC a), (1, entC b), (2, zeroE ++ zeroE)] 3 21 rfl rfl rfl (by kernel_rfl) (by kernel_rfl)⟩
    ·conv => whnf
     repeat ((first | refine ⟨entC_pure _, ?_⟩ | refine ⟨rfl, ?_⟩); conv => whnf)
     refine ⟨_, _, e1, by first | rfl | simp [noRoIf, noRoL, noRoV, noRoL_bys], ?_⟩
     conv => whnf
     refine ⟨?_, ?_⟩
     ·conv => whnf
      repeat ((refine And.intro ?_ ?_; (focus (first | (simp [limB, lenB, offB]; done) | (simp [limB, lenB, offB]; omega)))); conv => whnf)
      refine ⟨y, ⟨by first | rfl | (simp [bys]; done) | exact whole_bys y, b2⟩, ?_⟩
      conv => whnf
      repeat ((refine And.intro ?_ ?_; (focus (first | (simp [limB, lenB, offB]; done) | (simp [limB, lenB, offB]; omega)))); conv => whnf)
      refine ⟨x, ⟨by first | rfl | (simp [bys]; done) | exact whole_bys x, b1⟩, ?_⟩
      conv => whnf
      rw [h]
      conv => whnf
      exact ⟨(), trivial, Weaker.tidy [(2, .ptr 0 0), (3, .ptr 1 0), (4, .ptr 2 0), (15, .bool true)] [(0, entC a), (1, entC b), (2, zeroE ++ zeroE)] 3 21 rfl rfl rfl (by kernel_rfl) (by kernel_rfl)⟩
     ·conv => whnf
      repeat ((refine And.intro ?_ ?_; (focus (first | (simp [limB, lenB, offB]; done) | (simp [limB, lenB, offB]; omega)))); conv => whnf)
      refine ⟨x, ⟨by first | rfl | (simp [bys]; done) | exact whole_bys x, b1⟩, ?_⟩
      conv => whnf
      repeat ((refine And.intro ?_ ?_; (focus (first | (simp [limB, lenB, offB]; done) | (simp [limB, lenB, offB]; omega)))); conv => whnf)
      refine ⟨y, ⟨by first | rfl | (simp [bys]; done) | exact whole_bys y, b2⟩, ?_⟩
      conv => whnf
      rw [h]
      conv => whnf
      exact ⟨(), trivial, Weaker.tidy [(2, .ptr 0 0), (3, .ptr 1 0), (4, .ptr 2 0), (15, .bool true)] [(0, entC a), (1, entC b), (2, zeroE ++ zeroE)] 3 21 rfl rfl rfl (by kernel_rfl) (by kernel_rfl)⟩
  ·conv => whnf
   repeat ((first | refine ⟨entC_pure _, ?_⟩ | refine ⟨rfl, ?_⟩ | refine ⟨_, rfl, ?_⟩); conv => whnf)
   refine ⟨_, _, e2, by first | rfl | simp [noRoIf, noRoL, noRoV, noRoL_bys], ?_⟩
   conv => whnf
   refine ⟨?_, ?_⟩
   ·conv => whnf
    repeat ((refine And.intro ?_ ?_; (focus (first | (simp [limB, lenB, offB]; done) | (simp [limB, lenB, offB]; omega)))); conv => whnf)
    refine ⟨y, ⟨by first | rfl | (simp [bys]; done) | exact whole_bys y, b2⟩, ?_⟩
    conv => whnf
    repeat ((first | refine ⟨entC_pure _, ?_⟩ | refine ⟨rfl, ?_⟩); conv => whnf)
    refine ⟨_, _, e1, by first | rfl | simp [noRoIf, noRoL, noRoV, noRoL_bys], ?_⟩
    conv => whnf
    repeat ((refine And.intro ?_ ?_; (focus (first | (simp [limB, lenB, offB]; done) | (simp [limB, lenB, offB]; omega)))); conv => whnf)
    refine ⟨x, ⟨by first | rfl | (simp [bys]; done) | exact whole_bys x, b1⟩, ?_⟩
    conv => whnf
    rw [h]
    conv => whnf
    exact ⟨(), trivial, Weaker.tidy [(2, .ptr 0 0), (3, .ptr 1 0), (4, .ptr 2 0), (15, .bool true)] [(0, entC a), (1, entC b), (2, zeroE ++ zeroE)] 3 21 rfl rfl rfl (by kernel_rfl) (by kernel_rfl)⟩
   ·conv => whnf
    repeat ((first | refine ⟨entC_pure _, ?_⟩ | refine ⟨rfl, ?_⟩); conv => whnf)
    refine ⟨_, _, e1, by first | rfl | simp [noRoIf, noRoL, noRoV, noRoL_bys], ?_⟩
    conv => whnf
    refine ⟨?_, ?_⟩
    ·conv => whnf
     repeat ((refine And.intro ?_ ?_; (focus (first | (simp [limB, lenB, offB]; done) | (simp [limB, lenB, offB]; omega)))); conv => whnf)
     refine ⟨y, ⟨by first | rfl | (simp [bys]; done) | exact whole_bys y, b2⟩, ?_⟩
     conv => whnf
     repeat ((refine And.intro ?_ ?_; (focus (first | (simp [limB, lenB, offB]; done) | (simp [limB, lenB, offB]; omega)))); conv => whnf)
     refine ⟨x, ⟨by first | rfl | (simp [bys]; done) | exact whole_bys x, b1⟩, ?_⟩
     conv => whnf
     rw [h]
     conv => whnf
     exact ⟨(), trivial, Weaker.tidy [(2, .ptr 0 0), (3, .ptr 1 0), (4, .ptr 2 0), (15, .bool true)] [(0, entC a), (1, entC b), (2, zeroE ++ zeroE)] 3 21 rfl rfl rfl (by kernel_rfl) (by kernel_rfl)⟩
    ·conv => whnf
     repeat ((refine And.intro ?_ ?_; (focus (first | (simp [limB, lenB, offB]; done) | (simp [limB, lenB, offB]; omega)))); conv => whnf)
     refine ⟨x, ⟨by first | rfl | (simp [bys]; done) | exact whole_bys x, b1⟩, ?_⟩
     conv => whnf
     repeat ((refine And.intro ?_ ?_; (focus (first | (simp [limB, lenB, offB]; done) | (simp [limB, lenB, offB]; omega)))); conv => whnf)
     refine ⟨y, ⟨by first | rfl | (simp [bys]; done) | exact whole_bys y, b2⟩, ?_⟩
     conv => whnf
     rw [h]
     conv => whnf
     exact ⟨(), trivial, Weaker.tidy [(2, .ptr 0 0), (3, .ptr 1 0), (4, .ptr 2 0), (15, .bool true)] [(0, entC a), (1, entC b), (2, zeroE ++ zeroE)] 3 21 rfl rfl rfl (by kernel_rfl) (by kernel_rfl)⟩
 intro _ _
 refine wpc_sound (M := MRd) (PL := PLmk2) (CU := cutAt [100003, 100004, 99999]) TTok mixed _ _ _ ?_
 conv => whnf
 repeat ((refine ifB_t ?_); conv => whnf)
 refine wpc_sound (M := MRd) (PL := PLmk2) (CU := noCut) TTok mixed _ _ _ ?_
 conv => whnf
 refine ⟨entC b, by kernel_rfl, ?_⟩
 conv => whnf
 refine ⟨entC a, by kernel_rfl, ?_⟩
 conv => whnf
 repeat ((refine ⟨(⟨by kernel_rfl, by kernel_rfl, Nat.le_of_ble_eq_true (by kernel_rfl)⟩ : AV.ones _ = true ∧ _ ∧ _), ?_⟩); conv => whnf)
 refine Does.tidy [(2, .ptr 0 0), (3, .ptr 1 0), (4, .ptr 2 0)] [(0, entC b), (1, entC a), (2, zeroE ++ zeroE)] 3 21 rfl rfl rfl (by kernel_rfl) (by kernel_rfl) ?_
 refine wpc_sound (M := MRd) (PL := PLmk2) (CU := cutAt [99999]) TTok mixed _ _ _ ?_
 conv => whnf
 repeat ((first | refine ⟨(⟨by kernel_rfl, by kernel_rfl, Nat.le_of_ble_eq_true (by kernel_rfl)⟩ : AV.ones _ = true ∧ _ ∧ _), ?_⟩ | refine ⟨_, rfl, ?_⟩ | refine ⟨⟨rfl, rfl⟩, ?_⟩); conv => whnf)
 refine Does.tidy [(4, .ptr 2 0)] [(0, entC b), (1, entC a), (2, prfC ⟨b, a⟩)] 3 21 rfl rfl rfl (by kernel_rfl) (by kernel_rfl) ?_
 refine wpc_sound (M := MRd) (PL := PLmk2) (CU := noCut) TTok mixed _ _ _ ?_
 conv => whnf
 refine ⟨prfC ⟨b, a⟩, by kernel_rfl, ?_⟩
 conv => whnf
 refine pf_dems1 (by kernel_rfl) ?_
 rfl
set_option maxRecDepth 20000 in
set_option maxHeartbeats 2000000 in
theorem mkprf1_ok (a b : Ent) (ha : EntS a) (hb : EntS b) (h : bytesLt (encR validR (entTs b)).1 (encR validR (entTs a)).1 = false) : ACall Tryz.prog 17 [.agg (entC a), .agg (entC b)] (.agg (prfC ⟨a, b⟩)) [] := by
 have t1 := ktwin_ok a ha
 have t2 := ktwin_ok b hb
 have e1 := (refebytes_ok a ha).roRes
 have e2 := (refebytes_ok b hb).roRes
 have b1 := enc_byt ha
 have b2 := enc_byt hb
 generalize (encR validR (entTs a)).1 = x at h e1 b1
 generalize (encR validR (entTs b)).1 = y at h e2 b2
 refine ACall.of_does TTok Tryz.func17 rfl Tryz.call17 rfl (wpc_sound (M := MRd) (PL := PLmk2) (CU := cutAt [100001, 200002, 100003, 100004, 99999]) TTok mixed _ _ _ ?_)
 conv => whnf
 repeat ((refine ⟨rfl, ?_⟩); conv => whnf)
 refine Does.tidy [(2, .ptr 0 0), (3, .ptr 1 0), (4, .ptr 2 0)] [(0, entC a), (1, entC b), (2, zeroE ++ zeroE)] 3 21 rfl rfl rfl (by kernel_rfl) (by kernel_rfl) ?_
 refine Does.quiet TTok mixed (M := MRd) [4, 5] [0, 2] (takesTo [0, 2] (.all [(1, (.all [(3, (.all [(4, (.all [(5, .done)]))]))]))])) (by kernel_rfl) ?_
 conv => whnf
 refine ⟨entC a, by kernel_rfl, ?_⟩
 conv => whnf
 refine ⟨entC b, by kernel_rfl, ?_⟩
 conv => whnf
 repeat ((first | refine ⟨entC_pure _, ?_⟩ | refine ⟨rfl, ?_⟩); conv => whnf)
 refine ⟨_, _, t1, by first | rfl | simp [noRoIf, noRoL, noRoV, noRoL_bys], ?_⟩
 conv => whnf
 repeat ((first | refine ⟨entC_pure _, ?_⟩ | refine ⟨rfl, ?_⟩); conv => whnf)
 refine ⟨_, _, t2, by first | rfl | simp [noRoIf, noRoL, noRoV, noRoL_bys], ?_⟩
 conv => whnf
 repeat ((refine ⟨(⟨by kernel_rfl, by kernel_rfl, Nat.le_of_ble_eq_true (by kernel_rfl)⟩ : AV.ones _ = true ∧ _ ∧ _), ?_⟩); conv => whnf)
 refine Does.seqCut (fun _ : Unit => mkSt [(2, .ptr 0 0), (3, .ptr 1 0), (4, .ptr 2 0), (15, .bool false)] [(0, entC a), (1, entC b), (2, zeroE ++ zeroE)] 3 21) (fun _ => True) ?_ ?_
 ·refine Does.tidy [(2, .ptr 0 0), (3, .ptr 1 0), (4, .ptr 2 0)] [(0, entC a), (1, entC b), (2, zeroE ++ zeroE)] 3 21 rfl rfl rfl (by kernel_rfl) (by kernel_rfl) ?_
  refine wpc_sound (M := MRd) (PL := PLmk2) (CU := noCut) TTok mixed _ _ _ ?_
  conv => whnf
  refine ⟨by kernel_rfl, ?_⟩
  conv => whnf
  refine ⟨?_, ?_⟩
  ·conv => whnf
   repeat ((refine ⟨_, rfl, ?_⟩); conv => whnf)
   refine ⟨?_, ?_⟩
   ·conv => whnf
    repeat ((first | refine ⟨entC_pure _, ?_⟩ | refine ⟨rfl, ?_⟩); conv => whnf)
    refine ⟨_, _, e2, by first | rfl | simp [noRoIf, noRoL, noRoV, noRoL_bys], ?_⟩
    conv => whnf
    refine ⟨?_, ?_⟩
    ·conv => whnf
     repeat ((refine And.intro ?_ ?_; (focus (first | (simp [limB, lenB, offB]; done) | (simp [limB, lenB, offB]; omega)))); conv => whnf)
     refine ⟨y, ⟨by first | rfl | (simp [bys]; done) | exact whole_bys y, b2⟩, ?_⟩
     conv => whnf
     repeat ((first | refine ⟨entC_pure _, ?_⟩ | refine ⟨rfl, ?_⟩ | refine ⟨_, rfl, ?_⟩); conv => whnf)
     refine ⟨_, _, e1, by first | rfl | simp [noRoIf, noRoL, noRoV, noRoL_bys], ?_⟩
     conv => whnf
     repeat ((refine And.intro ?_ ?_; (focus (first | (simp [limB, lenB, offB]; done) | (simp [limB, lenB, offB]; omega)))); conv => whnf)
     refine ⟨x, ⟨by first | rfl | (simp [bys]; done) | exact whole_bys x, b1⟩, ?_⟩
     conv => whnf
     rw [h]
     conv => whnf
     exact ⟨(), trivial, Weaker.tidy [(2, .ptr 0 0), (3, .ptr 1 0), (4, .ptr 2 0), (15, .bool false)] [(0, entC a), (1, entC b), (2, zeroE ++ zeroE)] 3 21 rfl rfl rfl (by kernel_rfl) (by kernel_rfl)⟩
    ·conv => whnf
     repeat ((refine ⟨_, rfl, ?_⟩); conv => whnf)
     refine ⟨?_, ?_⟩
     ·conv => whnf
      repeat ((refine And.intro ?_ ?_; (focus (first | (simp [limB, lenB, offB]; done) | (simp [limB, lenB, offB]; omega)))); conv => whnf)
      refine ⟨y, ⟨by first | rfl | (simp [bys]; done) | exact whole_bys y, b2⟩, ?_⟩
      conv => whnf
      repeat ((first | refine ⟨entC_pure _, ?_⟩ | refine ⟨rfl, ?_⟩); conv => whnf)
      refine ⟨_, _, e1, by first | rfl | simp [noRoIf, noRoL, noRoV, noRoL_bys], ?_⟩
      conv => whnf
      repeat ((refine And.intro ?_ ?_; (focus (first | (simp [limB, lenB, offB]; done) | (simp [limB, lenB, offB]; omega)))); conv => whnf)
      refine ⟨x, ⟨by first | rfl | (simp [bys]; done) | exact whole_bys x, b1⟩, ?_⟩
      conv => whnf
      rw [h]
      conv => whnf
      exact ⟨(), trivial, Weaker.tidy [(2, .ptr 0 0), (3, .ptr 1 0), (4, .ptr 2 0), (15, .bool false)] [(0, entC a), (1, entC b), (2, zeroE ++ zeroE)] 3 21 rfl rfl rfl (by kernel_rfl) (by kernel_rfl)⟩
     ·conv => whnf
      repeat ((first | refine ⟨entC_pure _, ?_⟩ | refine ⟨rfl, ?_⟩); conv => whnf)
      refine ⟨_, _, e1, by first | rfl | simp [noRoIf, noRoL, noRoV, noRoL_bys], ?_⟩
      conv => whnf
      refine ⟨?_, ?_⟩
      ·conv => whnf
       repeat ((refine And.intro ?_ ?_; (focus (first | (simp [limB, lenB, offB]; done) | (simp [limB, lenB, offB]; omega)))); conv => whnf)
       refine ⟨y, ⟨by first | rfl | (simp [bys]; done) | exact whole_bys y, b2⟩, ?_⟩
       conv => whnf
       repeat ((refine And.intro ?_ ?_; (focus (first | (simp [limB, lenB, offB]; done) | (simp [limB, lenB, offB]; omega)))); conv => whnf)
       refine ⟨x, ⟨by first | rfl | (simp [bys]; done) | exact whole_bys x, b1⟩, ?_⟩
       conv => whnf
       rw [h]
       conv => whnf
       exact ⟨(), trivial, Weaker.tidy [(2, .ptr 0 0), (3, .ptr 1 0), (4, .ptr 2 0), (15, .bool false)] [(0, entC a), (1, entC b), (2, zeroE ++ zeroE)] 3 21 rfl rfl rfl (by kernel_rfl) (by kernel_rfl)⟩
      ·conv => whnf
       repeat ((refine And.intro ?_ ?_; (focus (first | (simp [limB, lenB, offB]; done) | (simp [limB, lenB, offB]; omega)))); conv => whnf)
       refine ⟨x, ⟨by first | rfl | (simp [bys]; done) | exact whole_bys x, b1⟩, ?_⟩
       conv => whnf
       repeat ((refine And.intro ?_ ?_; (focus (first | (simp [limB, lenB, offB]; done) | (simp [limB, lenB, offB]; omega)))); conv => whnf)
       refine ⟨y, ⟨by first | rfl | (simp [bys]; done) | exact whole_bys y, b2⟩, ?_⟩
       conv => whnf
       rw [h]
       conv => whnf
       exact ⟨(), trivial, Weaker.tidy [(2, .ptr 0 0), (3, .ptr 1 0), (4, .ptr 2 0), (15, .bool false)] [(0, entC a), (1, entC b), (2, zeroE ++ zeroE)] 3 21 rfl rfl rfl (by kernel_rfl) (by kernel_rfl)⟩
   ·conv => whnf
    repeat ((first | refine ⟨entC_pure _, ?_⟩ | refine ⟨rfl, ?_⟩ | refine ⟨_, rfl, ?_⟩); conv => whnf)
    refine ⟨_, _, e2, by first | rfl | simp [noRoIf, noRoL, noRoV, noRoL_bys], ?_⟩
    conv => whnf
    refine ⟨?_, ?_⟩
    ·conv => whnf
     repeat ((refine And.intro ?_ ?_; (focus (first | (simp [limB, lenB, offB]; done) | (simp [limB, lenB, offB]; omega)))); conv => whnf)
     refine ⟨y, ⟨by first | rfl | (simp [bys]; done) | exact whole_bys y, b2⟩, ?_⟩
     conv => whnf
     repeat ((first | refine ⟨entC_pure _, ?_⟩ | refine ⟨rfl, ?_⟩); conv => whnf)
     refine ⟨_, _, e1, by first | rfl | simp [noRoIf, noRoL, noRoV, noRoL_bys], ?_⟩
     conv => whnf
     repeat ((refine And.intro ?_ ?_; (focus (first | (simp [limB, lenB, offB]; done) | (simp [limB, lenB, offB]; omega)))); conv => whnf)
     refine ⟨x, ⟨by first | rfl | (simp [bys]; done) | exact whole_bys x, b1⟩, ?_⟩
     conv => whnf
     rw [h]
     conv => whnf
     exact ⟨(), trivial, Weaker.tidy [(2, .ptr 0 0), (3, .ptr 1 0), (4, .ptr 2 0), (15, .bool false)] [(0, entC a), (1, entC b), (2, zeroE ++ zeroE)] 3 21 rfl rfl rfl (by kernel_rfl) (by kernel_rfl)⟩
    ·conv => whnf
     repeat ((first | refine ⟨entC_pure _, ?_⟩ | refine ⟨rfl, ?_⟩); conv => whnf)
     refine ⟨_, _, e1, by first | rfl | simp [noRoIf, noRoL, noRoV, noRoL_bys], ?_⟩
     conv => whnf
     refine ⟨?_, ?_⟩
     ·conv => whnf
      repeat ((refine And.intro ?_ ?_; (focus (first | (simp [limB, lenB, offB]; done) | (simp [limB, lenB, offB]; omega)))); conv => whnf)
      refine ⟨y, ⟨by first | rfl | (simp [bys]; done) | exact whole_bys y, b2⟩, ?_⟩
      conv => whnf
      repeat ((refine And.intro ?_ ?_; (focus (first | (simp [limB, lenB, offB]; done) | (simp [limB, lenB, offB]; omega)))); conv => whnf)
      refine ⟨x, ⟨by first | rfl | (simp [bys]; done) | exact whole_bys x, b1⟩, ?_⟩
      conv => whnf
      rw [h]
      conv => whnf
      exact ⟨(), trivial, Weaker.tidy [(2, .ptr 0 0), (3, .ptr 1 0), (4, .ptr 2 0), (15, .bool false)] [(0, entC a), (1, entC b), (2, zeroE ++ zeroE)] 3 21 rfl rfl rfl (by kernel_rfl) (by kernel_rfl)⟩
     ·conv => whnf
      repeat ((refine And.intro ?_ ?_; (focus (first | (simp [limB, lenB, offB]; done) | (simp [limB, lenB, offB]; omega)))); conv => whnf)
      refine ⟨x, ⟨by first | rfl | (simp [bys]; done) | exact whole_bys x, b1⟩, ?_⟩
      conv => whnf
      repeat ((refine And.intro ?_ ?_; (focus (first | (simp [limB, lenB, offB]; done) | (simp [limB, lenB, offB]; omega)))); conv => whnf)
      refine ⟨y, ⟨by first | rfl | (simp [bys]; done) | exact whole_bys y, b2⟩, ?_⟩
      conv => whnf
      rw [h]
      conv => whnf
      exact ⟨(), trivial, Weaker.tidy [(2, .ptr 0 0), (3, .ptr 1 0), (4, .ptr 2 0), (15, .bool false)] [(0, entC a), (1, entC b), (2, zeroE ++ zeroE)] 3 21 rfl rfl rfl (by kernel_rfl) (by kernel_rfl)⟩
  ·conv => whnf
   repeat ((first | refine ⟨entC_pure _, ?_⟩ | refine ⟨rfl, ?_⟩ | refine ⟨_, rfl, ?_⟩); conv => whnf)
   refine ⟨_, _, e2, by first | rfl | simp [noRoIf, noRoL, noRoV, noRoL_bys], ?_⟩
   conv => whnf
   refine ⟨?_, ?_⟩
   ·conv => whnf
    repeat ((refine And.intro ?_ ?_; (focus (first | (simp [limB, lenB, offB]; done) | (simp [limB, lenB, offB]; omega)))); conv => whnf)
    refine ⟨y, ⟨by first | rfl | (simp [bys]; done) | exact whole_bys y, b2⟩, ?_⟩
    conv => whnf
    repeat ((first | refine ⟨entC_pure _, ?_⟩ | refine ⟨rfl, ?_⟩); conv => whnf)
    refine ⟨_, _, e1, by first | rfl | simp [noRoIf, noRoL, noRoV, noRoL_bys], ?_⟩
    conv => whnf
    repeat ((refine And.intro ?_ ?_; (focus (first | (simp [limB, lenB, offB]; done) | (simp [limB, lenB, offB]; omega)))); conv => whnf)
    refine ⟨x, ⟨by first | rfl | (simp [bys]; done) | exact whole_bys x, b1⟩, ?_⟩
    conv => whnf
    rw [h]
    conv => whnf
    exact ⟨(), trivial, Weaker.tidy [(2, .ptr 0 0), (3, .ptr 1 0), (4, .ptr 2 0), (15, .bool false)] [(0, entC a), (1, entC b), (2, zeroE ++ zeroE)] 3 21 rfl rfl rfl (by kernel_rfl) (by kernel_rfl)⟩
   ·conv => whnf
    repeat ((first | refine ⟨entC_pure _, ?_⟩ | refine ⟨rfl, ?_⟩); conv => whnf)
    refine ⟨_, _, e1, by first | rfl | simp [noRoIf, noRoL, noRoV, noRoL_bys], ?_⟩
    conv => whnf
    refine ⟨?_, ?_⟩
    ·conv => whnf
     repeat ((refine And.intro ?_ ?_; (focus (first | (simp [limB, lenB, offB]; done) | (simp [limB, lenB, offB]; omega)))); conv => whnf)
     refine ⟨y, ⟨by first | rfl | (simp [bys]; done) | exact whole_bys y, b2⟩, ?_⟩
     conv => whnf
     repeat ((refine And.intro ?_ ?_; (focus (first | (simp [limB, lenB, offB]; done) | (simp [limB, lenB, offB]; omega)))); conv => whnf)
     refine ⟨x, ⟨by first | rfl | (simp [bys]; done) | exact whole_bys x, b1⟩, ?_⟩
     conv => whnf
     rw [h]
     conv => whnf
     exact ⟨(), trivial, Weaker.tidy [(2, .ptr 0 0), (3, .ptr 1 0), (4, .ptr 2 0), (15, .bool false)] [(0, entC a), (1, entC b), (2, zeroE ++ zeroE)] 3 21 rfl rfl rfl (by kernel_rfl) (by kernel_rfl)⟩
    ·conv => whnf
     repeat ((refine And.intro ?_ ?_; (focus (first | (simp [limB, lenB, offB]; done) | (simp [limB, lenB, offB]; omega)))); conv => whnf)
     refine ⟨x, ⟨by first | rfl | (simp [bys]; done) | exact whole_bys x, b1⟩, ?_⟩
     conv => whnf
     repeat ((refine And.intro ?_ ?_; (focus (first | (simp [limB, lenB, offB]; done) | (simp [limB, lenB, offB]; omega)))); conv => whnf)
     refine ⟨y, ⟨by first | rfl | (simp [bys]; done) | exact whole_bys y, b2⟩, ?_⟩
     conv => whnf
     rw [h]
     conv => whnf
     exact ⟨(), trivial, Weaker.tidy [(2, .ptr 0 0), (3, .ptr 1 0), (4, .ptr 2 0), (15, .bool false)] [(0, entC a), (1, entC b), (2, zeroE ++ zeroE)] 3 21 rfl rfl rfl (by kernel_rfl) (by kernel_rfl)⟩
 intro _ _
 refine wpc_sound (M := MRd) (PL := PLmk2) (CU := cutAt [100003, 100004, 99999]) TTok mixed _ _ _ ?_
 conv => whnf
 repeat ((refine ifB_f ?_); conv => whnf)
 refine Does.tidy [(2, .ptr 0 0), (3, .ptr 1 0), (4, .ptr 2 0)] [(0, entC a), (1, entC b), (2, zeroE ++ zeroE)] 3 21 rfl rfl rfl (by kernel_rfl) (by kernel_rfl) ?_
 refine wpc_sound (M := MRd) (PL := PLmk2) (CU := cutAt [99999]) TTok mixed _ _ _ ?_
 conv => whnf
 repeat ((first | refine ⟨(⟨by kernel_rfl, by kernel_rfl, Nat.le_of_ble_eq_true (by kernel_rfl)⟩ : AV.ones _ = true ∧ _ ∧ _), ?_⟩ | refine ⟨_, rfl, ?_⟩ | refine ⟨⟨rfl, rfl⟩, ?_⟩); conv => whnf)
 refine Does.tidy [(4, .ptr 2 0)] [(0, entC a), (1, entC b), (2, prfC ⟨a, b⟩)] 3 21 rfl rfl rfl (by kernel_rfl) (by kernel_rfl) ?_
 refine wpc_sound (M := MRd) (PL := PLmk2) (CU := noCut) TTok mixed _ _ _ ?_
 conv => whnf
 refine ⟨prfC ⟨a, b⟩, by kernel_rfl, ?_⟩
 conv => whnf
 refine pf_dems1 (by kernel_rfl) ?_
 rfl
end
end
section
--KR
attribute [local irreducible] ifB fitP Does Weaker
def w2 (k : Int) : Ent := ⟨z32, 1, z32, 0, 1, [k], [], z64⟩
theorem w2_S {k : Int} (hk : 0 ≤ k ∧ k < 256) : EntS (w2 k) where
 au := ⟨fun x hx => by rw [show (w2 k).au = List.replicate 32 0 from rfl, List.mem_replicate] at hx; omega, rfl⟩
 seq := by simp [w2]
 prev := ⟨fun x hx => by rw [show (w2 k).prev = List.replicate 32 0 from rfl, List.mem_replicate] at hx; omega, rfl⟩
 stamp := by simp [w2]
 kind := by simp [w2]
 key := ⟨fun x hx => by rw [show (w2 k).key = [k] from rfl, List.mem_singleton] at hx; rw [hx]; exact hk, by simp [w2]⟩
 val := by simp [w2, Byt]
 sig := ⟨fun x hx => by rw [show (w2 k).sig = List.replicate 64 0 from rfl, List.mem_replicate] at hx; omega, rfl⟩
 key' := by simp [w2]
 val' := by simp [w2]
theorem w2_R1 : entR (w2 107) = true := by decide
theorem w2_R2 : entR (w2 108) = true := by decide
theorem w2_X (a s : List Int) (k : Int) : entX (sigE s (auE a (w2 k))) = [[1], putL 2 a.length ++ a, [1], [88, 32] ++ z32, [0], [131, 1, 97, k, 64]] := by
 show [putL 0 1, putL 2 a.length ++ a, putL 0 1, putL 2 z32.length ++ z32, putL 0 0, putL 4 3 ++ [putL 0 1, putL 3 ([k] : List Int).length ++ [k], putL 2 ([] : List Int).length ++ []].flatten] = _
 rw [show putL 0 1 = [1] by decide, show putL 2 (z32.length : Int) = [88, 32] by decide, show putL 0 0 = [0] by decide, show putL 4 3 = [131] by decide, show putL 3 (([k] : List Int).length : Int) = [97] from (by decide : putL 3 ((1 : Nat) : Int) = [97]), show putL 2 (([] : List Int).length : Int) = [64] by decide]
 rfl
theorem signE_au (s : List Int) (e : Ent) : (signE s e).au = shaL (1 :: s) := by unfold signE; rw [sigE_au, auE_au]
theorem sigE_seq (s : List Int) (e : Ent) : (sigE s e).seq = e.seq := rfl
theorem auE_seq (s : List Int) (e : Ent) : (auE s e).seq = e.seq := rfl
theorem signE_seq (s : List Int) (e : Ent) : (signE s e).seq = e.seq := by unfold signE; rw [sigE_seq, auE_seq]
def w2a : Ent := signE wkS (w2 107)
def w2b : Ent := signE wkS (w2 108)
theorem w2a_S : EntS w2a := signE_S wkS (w2_S (by omega))
theorem w2b_S : EntS w2b := signE_S wkS (w2_S (by omega))
theorem w2a_R : entR w2a = true := (signE_R _ _).trans w2_R1
theorem w2b_R : entR w2b = true := (signE_R _ _).trans w2_R2
theorem w2_au : w2a.au = w2b.au := by unfold w2a w2b; rw [signE_au, signE_au]
theorem w2_seq : w2a.seq = w2b.seq := by unfold w2a w2b; rw [signE_seq, signE_seq]; rfl
theorem lt_pre : ∀ (p a b : List Int), bytesLt (p ++ a) (p ++ b) = bytesLt a b
 | [], a, b => rfl
 | x :: p, a, b => by simp [bytesLt, lt_pre p a b]
theorem w2_bytes (k : Int) (h : entR (w2 k) = true) (hk : 0 ≤ k ∧ k < 256) : ∃ r, (entB (signE wkS (w2 k))).1 = (135 :: ([1] ++ ((putL 2 (shaL (1 :: wkS)).length ++ shaL (1 :: wkS)) ++ ([1] ++ (([88, 32] ++ z32) ++ ([0] ++ [131, 1, 97])))))) ++ k :: r := by
 rw [entB_yes' (signE_S wkS (w2_S hk)) (by rw [signE_R]; exact h)]
 unfold signE
 rw [w2_X]
 exact ⟨64 :: 88 :: 64 :: (sigE (openL (shaL (1 :: wkS)) (entBody (auE (shaL (1 :: wkS)) (w2 k))).1) (auE (shaL (1 :: wkS)) (w2 k))).sig, by simp only [List.flatten_cons, List.flatten_nil, List.append_assoc, List.cons_append, List.nil_append]⟩
theorem w2_lt : bytesLt (entB w2a).1 (entB w2b).1 = true := by
 obtain ⟨r, hr⟩ := w2_bytes 107 w2_R1 (by omega)
 obtain ⟨s, hs⟩ := w2_bytes 108 w2_R2 (by omega)
 unfold w2a w2b
 rw [hr, hs, lt_pre]
 simp [bytesLt]
theorem w2_gt : bytesLt (entB w2b).1 (entB w2a).1 = false := by
 obtain ⟨r, hr⟩ := w2_bytes 107 w2_R1 (by omega)
 obtain ⟨s, hs⟩ := w2_bytes 108 w2_R2 (by omega)
 unfold w2a w2b
 rw [hr, hs, lt_pre]
 simp [bytesLt]
theorem w2_ne : (entB w2b).1 ≠ (entB w2a).1 := fun h => by
 have := w2_lt
 rw [h] at this
 rw [show bytesLt (entB w2a).1 (entB w2a).1 = false by rw [← h]; rw [h]; have := w2_gt; rw [h] at this; exact this] at this
 cases this
theorem w2_ord1 : ordR w2a w2b = -1 := by
 unfold ordR
 rw [entB_ok0' w2a_S w2a_R, entB_ok0' w2b_S w2b_R]
 rw [if_neg (by simp), if_neg (by simp), if_neg (fun h => h w2_au), if_neg (fun h => h w2_seq)]
 unfold cmpI
 rw [w2_lt]
 rfl
theorem w2_ord2 : ordR w2b w2a = 1 := by
 unfold ordR
 rw [entB_ok0' w2a_S w2a_R, entB_ok0' w2b_S w2b_R]
 rw [if_neg (by simp), if_neg (by simp), if_neg (fun h => h w2_au.symm), if_neg (fun h => h w2_seq.symm)]
 unfold cmpI
 rw [w2_gt, if_neg w2_ne]
 rfl
set_option maxRecDepth 20000 in
set_option maxHeartbeats 4000000 in
theorem wakes12_of (a b : Ent) (h1 : ACall Tryz.prog 51 [.int .i64 2, .agg (c32 wkS []), .agg (entV (w2 107) .nil)] (.tuple [.agg (entC a), .int .i64 0]) [])
  (h2 : ACall Tryz.prog 51 [.int .i64 2, .agg (c32 wkS []), .agg (entV (w2 108) .nil)] (.tuple [.agg (entC b), .int .i64 0]) [])
  (h3 : ACall Tryz.prog 12 [.agg (entC b), .agg (entC a)] (.tuple [.agg (prfC ⟨a, b⟩), .int .i64 0]) [])
  (h4 : ACall Tryz.prog 13 [.agg (entC a), .agg (entC a)] (.bool true) []) (h5 : ACall Tryz.prog 13 [.agg (entC b), .agg (entC b)] (.bool true) [])
  (h6 : ACall Tryz.prog 52 [.int .i64 2, .agg (prfC ⟨a, b⟩)] (.bool true) []) (h7 : ACall Tryz.prog 18 [.agg (prfC ⟨a, b⟩)] (.int .i64 0) []) : ACall Tryz.prog 16 [] (.bool true) [] := by
 refine ACall.of_does TTok Tryz.func16 rfl Tryz.call16 rfl (wpc_sound (M := MRow) (PL := PL0) (CU := cutAt [100002, 100003, 100004]) TTok mixed _ _ _ ?_)
 conv => whnf
 repeat ((first | refine ⟨rfl, ?_⟩ | refine ⟨⟨rfl, rfl⟩, ?_⟩); conv => whnf)
 refine ⟨_, _, h1, by first | rfl | simp [noRoIf, noRoL, noRoV, noRoL_bys], ?_⟩
 conv => whnf
 repeat ((first | refine ⟨(⟨by kernel_rfl, by kernel_rfl, Nat.le_of_ble_eq_true (by kernel_rfl)⟩ : AV.ones _ = true ∧ _ ∧ _), ?_⟩ | refine ⟨rfl, ?_⟩); conv => whnf)
 refine Does.freeze 0 rfl (Does.tidy [(1, .rop (entC a)), (2, .int .i64 0)] [] 1 58 rfl rfl rfl (by kernel_rfl) (by kernel_rfl) ?_)
 refine wpc_sound (M := MRow) (PL := PL0) (CU := noCut) TTok mixed _ _ _ ?_
 conv => whnf
 repeat ((first | refine ⟨rfl, ?_⟩ | refine ⟨⟨rfl, rfl⟩, ?_⟩); conv => whnf)
 refine ⟨_, _, h2, by first | rfl | simp [noRoIf, noRoL, noRoV, noRoL_bys], ?_⟩
 conv => whnf
 repeat ((first | refine ⟨(⟨by kernel_rfl, by kernel_rfl, Nat.le_of_ble_eq_true (by kernel_rfl)⟩ : AV.ones _ = true ∧ _ ∧ _), ?_⟩ | refine ⟨rfl, ?_⟩); conv => whnf)
 refine Does.freeze 1 rfl (Does.tidy [(1, .rop (entC a)), (2, .int .i64 0), (3, .rop (entC b)), (4, .int .i64 0)] [] 2 58 rfl rfl rfl (by kernel_rfl) (by kernel_rfl) ?_)
 refine wpc_sound (M := MRow) (PL := PL0) (CU := noCut) TTok mixed _ _ _ ?_
 conv => whnf
 repeat ((first | refine ⟨entC_pure _, ?_⟩ | refine ⟨rfl, ?_⟩ | refine ⟨_, rfl, ?_⟩); conv => whnf)
 refine ⟨_, _, h3, by first | rfl | simp [noRoIf, noRoL, noRoV, noRoL_bys], ?_⟩
 conv => whnf
 repeat ((first | refine ⟨(⟨by kernel_rfl, by kernel_rfl, Nat.le_of_ble_eq_true (by kernel_rfl)⟩ : AV.ones _ = true ∧ _ ∧ _), ?_⟩ | refine ⟨rfl, ?_⟩); conv => whnf)
 refine Does.freeze 2 rfl (Does.tidy [(1, .rop (entC a)), (2, .int .i64 0), (3, .rop (entC b)), (4, .int .i64 0), (5, .rop (prfC ⟨a, b⟩)), (6, .int .i64 0)] [] 3 58 rfl rfl rfl (by kernel_rfl) (by kernel_rfl) ?_)
 refine wpc_sound (M := MRow) (PL := PL0) (CU := noCut) TTok mixed _ _ _ ?_
 conv => whnf
 repeat ((first | refine ifB_t ?_ | refine ⟨entC_pure _, ?_⟩ | refine ⟨rfl, ?_⟩ | refine ⟨_, rfl, ?_⟩); conv => whnf)
 refine ⟨_, _, h4, by first | rfl | simp [noRoIf, noRoL, noRoV, noRoL_bys], ?_⟩
 conv => whnf
 repeat ((first | refine ifB_t ?_ | refine ⟨entC_pure _, ?_⟩ | refine ⟨rfl, ?_⟩ | refine ⟨_, rfl, ?_⟩); conv => whnf)
 refine ⟨_, _, h5, by first | rfl | simp [noRoIf, noRoL, noRoV, noRoL_bys], ?_⟩
 conv => whnf
 repeat ((first | refine ifB_t ?_ | refine ⟨rfl, ?_⟩ | refine ⟨_, rfl, ?_⟩ | (refine And.intro ?_ ?_; (focus (first | (simp only [pureL, pureV, pureL_bys, Bool.and_true, Bool.and_self]; done) | (simp only [pureL, pureV, pureL_bys, pureL_toks, Bool.and_true, Bool.and_self]; done))))); conv => whnf)
 refine ⟨_, _, h6, by first | rfl | simp [noRoIf, noRoL, noRoV, noRoL_bys], ?_⟩
 conv => whnf
 repeat ((first | refine ifB_t ?_ | refine ⟨rfl, ?_⟩ | refine ⟨_, rfl, ?_⟩ | (refine And.intro ?_ ?_; (focus (first | (simp only [pureL, pureV, pureL_bys, Bool.and_true, Bool.and_self]; done) | (simp only [pureL, pureV, pureL_bys, pureL_toks, Bool.and_true, Bool.and_self]; done))))); conv => whnf)
 refine ⟨_, _, h7, by first | rfl | simp [noRoIf, noRoL, noRoV, noRoL_bys], ?_⟩
 conv => whnf
 repeat ((first | refine ifB_t ?_ | refine ⟨rfl, ?_⟩); conv => whnf)
 rfl
theorem wakes12_ok : ACall Tryz.prog 16 [] (.bool true) [] := by
 have h1 := wake_sign rfl (esign_ok wkS (w2 107) wkS_byt rfl (w2_S (by omega)) w2_R1)
 have h2 := wake_sign rfl (esign_ok wkS (w2 108) wkS_byt rfl (w2_S (by omega)) w2_R2)
 have ha := w2a_S
 have hb := w2b_S
 have o1 := w2_ord1
 have o2 := w2_ord2
 have va : verE w2a = true := (signE_ver wkS (w2 107)).trans w2_R1
 have vb : verE w2b = true := (signE_ver wkS (w2 108)).trans w2_R2
 unfold w2a w2b at *
 generalize signE wkS (w2 107) = a at *
 generalize signE wkS (w2 108) = b at *
 have hp : PrfS ⟨a, b⟩ := ⟨ha, hb⟩
 have hr : prfR ⟨a, b⟩ = true := by unfold prfR; rw [o1]; rfl
 have h3 := pmake_ok b a hb ha
 rw [show mkP b a = (⟨a, b⟩, 0) by unfold mkP; rw [o2]; rfl] at h3
 have h4 := kent_ok a a ha ha
 rw [dt rfl] at h4
 have h5 := kent_ok b b hb hb
 rw [dt rfl] at h5
 have h6 := pverify_ok ⟨a, b⟩ hp
 rw [hr, va, vb] at h6
 have h7 := check_proof_ok ⟨a, b⟩ hp
 rw [hr] at h7
 exact wakes12_of a b h1 h2 h3 h4 h5 h6 h7
end
section
--KR
attribute [local irreducible] ifB fitP Does Weaker
end
section
--KR
attribute [local irreducible] ifB fitP Does Weaker
end
section

end
section
--KR
attribute [local irreducible] ifB fitP Does Weaker
theorem ent0_S2 : EntS ent0 where
 au := ⟨fun x hx => by rw [show ent0.au = List.replicate 32 0 from rfl, List.mem_replicate] at hx; omega, rfl⟩
 seq := by simp [ent0]
 prev := ⟨fun x hx => by rw [show ent0.prev = List.replicate 32 0 from rfl, List.mem_replicate] at hx; omega, rfl⟩
 stamp := by simp [ent0]
 kind := by simp [ent0]
 key := by simp [ent0, Byt]
 val := by simp [ent0, Byt]
 sig := ⟨fun x hx => by rw [show ent0.sig = List.replicate 64 0 from rfl, List.mem_replicate] at hx; omega, rfl⟩
 key' := by simp [ent0]
 val' := by simp [ent0]
theorem prf0_args {g : FuncId} {m : Prf} {r : AV} (h : ACall Tryz.prog g [.agg (prfC m), .agg (prfC prf0)] r []) : ACall Tryz.prog g [.agg (prfC m), .agg (zeroE ++ zeroE)] r [] :=
 h.les (by simp [pureL, pureV, prfC_pure, pureL_app, zeroE, entV, c32_pure, c64_pure]) (by simp only [pureL, pureV, prfC_pure]; rfl) ⟨lesP_app'' (lesP_ent m.a rfl) (lesP_ent m.b rfl), lesP_app'' (entV_les rfl) (entV_les rfl), trivial⟩
end
section
--KR
attribute [local irreducible] ifB fitP Does Weaker
theorem lt_asym : ∀ {x y : List Int}, bytesLt x y = true → bytesLt y x = false
 | [], [], h => by simp [bytesLt] at h
 | [], _ :: _, _ => by simp [bytesLt]
 | _ :: _, [], h => by simp [bytesLt] at h
 | a :: x, b :: y, h => by
  have ih := @lt_asym x y
  simp only [bytesLt] at h ⊢
  by_cases h1 : a < b
  ·have h2 : ¬ b < a := by omega
   have h3 : ¬ b = a := by omega
   simp [h2, h3]
  ·by_cases h2 : a = b
   ·subst h2
    simp at h ⊢
    exact ih h
   ·simp [h1, h2] at h
theorem cmpI_swap (x y : List Int) : cmpI y x = - cmpI x y := by
 by_cases e : x = y
 ·subst e
  unfold cmpI
  cases h : bytesLt x x
  ·simp
  ·have := lt_asym h
   rw [h] at this
   cases this
 ·rcases cmpI_or e with ⟨h1, h2⟩ | ⟨h1, h2⟩
  ·rw [h1]
   unfold cmpI
   rw [lt_asym h2, if_neg (by simp), if_neg (fun h => e h.symm)]
   rfl
  ·rw [h1]
   unfold cmpI
   rw [lt_total e h2]
   simp
theorem ordR_swap (a b : Ent) : ordR b a = - ordR a b := by
 by_cases h1 : (entB a).2 ≠ 0
 ·have e1 : ordR a b = 0 := by unfold ordR; rw [if_pos h1]
  have e2 : ordR b a = 0 := by unfold ordR; rw [if_pos h1]; split <;> rfl
  rw [e1, e2]; rfl
 ·by_cases h2 : (entB b).2 ≠ 0
  ·have e1 : ordR b a = 0 := by unfold ordR; rw [if_pos h2]
   have e2 : ordR a b = 0 := by unfold ordR; rw [if_pos h2]; split <;> rfl
   rw [e1, e2]; rfl
  ·unfold ordR
   rw [if_neg h1, if_neg h2, if_neg h2, if_neg h1]
   by_cases h3 : a.au ≠ b.au
   ·rw [if_pos h3, if_pos (fun h => h3 h.symm)]; rfl
   ·rw [if_neg h3, if_neg (fun h => h3 (fun k => h k.symm))]
    by_cases h4 : a.seq ≠ b.seq
    ·rw [if_pos h4, if_pos (fun h => h4 h.symm)]; rfl
    ·rw [if_neg h4, if_neg (fun h => h4 (fun k => h k.symm))]
     exact cmpI_swap _ _
theorem mkP_swap (a b : Ent) : mkP b a = mkP a b := by
 unfold mkP
 rw [ordR_swap]
 generalize ordR a b = o
 by_cases h1 : o = -1
 ·subst h1; rfl
 ·by_cases h2 : o = 1
  ·subst h2; rfl
  ·rw [if_neg (by omega), if_neg (by omega), if_neg h1, if_neg h2]
theorem ord_no1 {a b : Ent} (h : entR a = false) : ordR a b = 0 := by
 unfold ordR
 rw [if_pos (by rw [entB_no h]; simp)]
theorem ord_no2 {a b : Ent} (h : entR b = false) : ordR a b = 0 := by
 rw [← Int.neg_neg (ordR a b), ← ordR_swap, ord_no1 h]; rfl
theorem ord_nau {a b : Ent} (h : a.au ≠ b.au) : ordR a b = 0 := by
 unfold ordR
 split
 ·rfl
 split
 ·rfl
 first | rfl | rw [if_pos h]
theorem ord_nseq {a b : Ent} (h : a.seq ≠ b.seq) : ordR a b = 0 := by
 unfold ordR
 split
 ·rfl
 split
 ·rfl
 split
 ·rfl
 first | rfl | rw [if_pos h]
theorem ord_same (a : Ent) : ordR a a = 0 := by
 have := ordR_swap a a
 omega
theorem mk_none {a b : Ent} (h : ordR a b = 0) : mkP a b = (prf0, 1) := by unfold mkP; rw [h]; rfl
theorem mkP_S {a b : Ent} (ha : EntS a) (hb : EntS b) : PrfS (mkP a b).1 := by
 unfold mkP
 split
 ·exact ⟨ha, hb⟩
 ·split
  ·exact ⟨hb, ha⟩
  ·exact ⟨ent0_S2, ent0_S2⟩
def PLpm : Nat → Bool × Plan := plans [(3, (false, (takesTo [0, 2] (.all [(1, (.all [(3, (.all [(4, (.all [(5, (.all [(6, (.all [(7, .done)]))]))])), (5, (.all [(4, (.all [(6, (.all [(7, .done)]))]))]))])), (4, (.all [(3, (.all [(5, (.all [(6, (.all [(7, .done)]))]))])), (5, (.all [(3, (.all [(6, (.all [(7, .done)]))]))]))])), (5, (.all [(3, (.all [(4, (.all [(6, (.all [(7, .done)]))]))])), (4, (.all [(3, (.all [(6, (.all [(7, .done)]))]))]))]))])), (4, (.all [(1, (.all [(3, (.all [(5, (.all [(6, (.all [(7, .done)]))]))])), (5, (.all [(3, (.all [(6, (.all [(7, .done)]))]))]))])), (5, (.all [(1, (.all [(3, (.all [(6, (.all [(7, .done)]))]))]))]))])), (5, (.all [(1, (.all [(3, (.all [(4, (.all [(6, (.all [(7, .done)]))]))])), (4, (.all [(3, (.all [(6, (.all [(7, .done)]))]))]))])), (4, (.all [(1, (.all [(3, (.all [(6, (.all [(7, .done)]))]))]))]))]))])))), (10, (false, (takesTo [0, 1, 2, 3, 4, 5] (.all [(6, (.all [(7, (takesTo [8, 9, 10] (.all [(11, (takesTo [12, 13, 14] (.all [(15, (takes [16, 17]))])))])))]))]))))]
set_option maxRecDepth 20000 in
set_option maxHeartbeats 12000000 in
theorem proofMakes_ok (a b : Ent) (oa : EntOk a) (ob : EntOk b) : ACall Tryz.prog 3 [.agg (entC a), .agg (entC b)] (.bool true) [] := by
 have v1 := heavy11_ok [a, b]
 refine ACall.of_does TTok Tryz.func3 rfl Tryz.call3 rfl (wpc_sound (M := MRd) (PL := PLpm) (CU := cutAt [100001, 200003, 100004, 100005, 100006, 100008, 100010]) TTok mixed _ _ _ ?_)
 conv => whnf
 repeat ((refine ⟨rfl, ?_⟩); conv => whnf)
 refine Does.freeze 0 rfl (Does.freeze 1 (zs := entC b) (by show some (frzL 0 _ (entC b)) = _; rw [entC_frz]) (Does.tidy [(2, .rop (entC a)), (3, .rop (entC b))] [] 2 106 rfl rfl rfl (by kernel_rfl) (by kernel_rfl) ?_))
 refine wpc_sound (M := MRd) (PL := PLpm) (CU := noCut) TTok mixed _ _ _ ?_
 conv => whnf
 repeat ((first | (refine Or.inl ⟨⟨rfl, ?_⟩, ?_⟩; (focus (first | rfl | (simp; done) | (rw [toksC_length]; omega)))) | refine ⟨rfl, ?_⟩ | refine ⟨_, rfl, ?_⟩ | refine ⟨⟨rfl, rfl⟩, ?_⟩ | (refine And.intro ?_ ?_; (focus (first | (simp only [pureL, pureV, pureL_bys, Bool.and_true, Bool.and_self]; done) | (simp only [pureL, pureV, pureL_bys, pureL_toks, Bool.and_true, Bool.and_self]; done))))); conv => whnf)
 cases hv : heavyEs [a, b] <;> rw [hv] at v1
 case true =>
  refine ⟨_, _, v1.arg1 rfl (by simp [rowsC]; rfl), by first | rfl | simp [noRoIf, noRoL, noRoV, noRoL_bys], ?_⟩
  conv => whnf
  repeat ((first | refine ifB_t ?_ | refine ⟨rfl, ?_⟩); conv => whnf)
  rfl
 refine ⟨_, _, v1.arg1 rfl (by simp [rowsC]; rfl), by first | rfl | simp [noRoIf, noRoL, noRoV, noRoL_bys], ?_⟩
 conv => whnf
 repeat ((refine ifB_f ?_); conv => whnf)
 obtain ⟨ha, hb⟩ := entS_of2 oa ob hv
 have t1 := ktwin_ok a ha
 have t2 := ktwin_ok b hb
 have ra := refentry_ok a ha
 have rb := refentry_ok b hb
 have ka := kent_ok a a ha ha
 have kb := kent_ok b b hb hb
 have kab := kent_ok a b ha hb
 rw [dt rfl] at ka kb
 have m1 := pmake_ok a b ha hb
 have m2 := pmake_ok b a hb ha
 rw [mkP_swap] at m2
 have hpS := mkP_S ha hb
 have kp := kprf_ok _ _ hpS hpS
 rw [dt rfl] at kp
 have k0 := kprf_ok prf0 prf0 ⟨ent0_S2, ent0_S2⟩ ⟨ent0_S2, ent0_S2⟩
 rw [dt rfl] at k0
 refine Does.seqCut (fun _ : Unit => mkSt [(2, .rop (entC a)), (3, .rop (entC b)), (5, .ptr 0 0), (6, .ptr 1 0)] [(0, entC a), (1, entC b)] 2 106) (fun _ => True) ?_ ?_
 ·refine Does.tidy [(2, .rop (entC a)), (3, .rop (entC b))] [(2, entC a ++ (entC b ++ []))] 3 106 rfl rfl rfl (by kernel_rfl) (by kernel_rfl) ?_
  refine wpc_sound (M := MRd) (PL := PLpm) (CU := noCut) TTok mixed _ _ _ ?_
  conv => whnf
  refine ⟨by kernel_rfl, ?_⟩
  conv => whnf
  repeat ((first | refine ⟨rfl, ?_⟩ | refine ⟨_, rfl, ?_⟩); conv => whnf)
  refine ⟨?_, ?_, ?_⟩
  ·conv => whnf
   repeat ((first | refine ⟨entC_pure _, ?_⟩ | refine ⟨rfl, ?_⟩); conv => whnf)
   refine ⟨_, _, t1, by first | rfl | simp [noRoIf, noRoL, noRoV, noRoL_bys], ?_⟩
   conv => whnf
   refine ⟨?_, ?_, ?_⟩
   ·conv => whnf
    repeat ((first | refine ⟨entC_pure _, ?_⟩ | refine ⟨rfl, ?_⟩); conv => whnf)
    refine ⟨_, _, t2, by first | rfl | simp [noRoIf, noRoL, noRoV, noRoL_bys], ?_⟩
    conv => whnf
    refine ⟨?_, ?_⟩
    ·conv => whnf
     repeat ((first | refine ⟨(⟨by kernel_rfl, by kernel_rfl, Nat.le_of_ble_eq_true (by kernel_rfl)⟩ : AV.ones _ = true ∧ _ ∧ _), ?_⟩ | refine ⟨rfl, ?_⟩); conv => whnf)
     exact ⟨(), trivial, Weaker.trans (Weaker.tidy [(2, .rop (entC a)), (3, .rop (entC b)), (5, .ptr 3 0), (6, .ptr 4 0)] [(2, entC a ++ (entC b ++ [])), (3, entC a), (4, entC b)] 5 106 rfl rfl rfl (by kernel_rfl) (by kernel_rfl)) (weaker_of [(0, 3), (1, 4)] rfl rfl ⟨⟨rfl, entC_pure _⟩, ⟨rfl, entC_pure _⟩, ⟨rfl, rfl⟩, ⟨rfl, rfl⟩, trivial⟩ ⟨entC_les a, entC_les b, trivial⟩)⟩
    ·conv => whnf
     repeat ((first | refine ⟨(⟨by kernel_rfl, by kernel_rfl, Nat.le_of_ble_eq_true (by kernel_rfl)⟩ : AV.ones _ = true ∧ _ ∧ _), ?_⟩ | refine ⟨rfl, ?_⟩); conv => whnf)
     exact ⟨(), trivial, Weaker.trans (Weaker.tidy [(2, .rop (entC a)), (3, .rop (entC b)), (5, .ptr 4 0), (6, .ptr 3 0)] [(2, entC a ++ (entC b ++ [])), (3, entC b), (4, entC a)] 5 106 rfl rfl rfl (by kernel_rfl) (by kernel_rfl)) (weaker_of [(0, 4), (1, 3)] rfl rfl ⟨⟨rfl, entC_pure _⟩, ⟨rfl, entC_pure _⟩, ⟨rfl, rfl⟩, ⟨rfl, rfl⟩, trivial⟩ ⟨entC_les a, entC_les b, trivial⟩)⟩
   ·conv => whnf
    repeat ((refine ⟨rfl, ?_⟩); conv => whnf)
    refine ⟨?_, ?_⟩
    ·conv => whnf
     repeat ((first | refine ⟨entC_pure _, ?_⟩ | refine ⟨rfl, ?_⟩); conv => whnf)
     refine ⟨_, _, t2, by first | rfl | simp [noRoIf, noRoL, noRoV, noRoL_bys], ?_⟩
     conv => whnf
     repeat ((first | refine ⟨(⟨by kernel_rfl, by kernel_rfl, Nat.le_of_ble_eq_true (by kernel_rfl)⟩ : AV.ones _ = true ∧ _ ∧ _), ?_⟩ | refine ⟨rfl, ?_⟩); conv => whnf)
     exact ⟨(), trivial, Weaker.trans (Weaker.tidy [(2, .rop (entC a)), (3, .rop (entC b)), (5, .ptr 3 0), (6, .ptr 4 0)] [(2, entC a ++ (entC b ++ [])), (3, entC a), (4, entC b)] 5 106 rfl rfl rfl (by kernel_rfl) (by kernel_rfl)) (weaker_of [(0, 3), (1, 4)] rfl rfl ⟨⟨rfl, entC_pure _⟩, ⟨rfl, entC_pure _⟩, ⟨rfl, rfl⟩, ⟨rfl, rfl⟩, trivial⟩ ⟨entC_les a, entC_les b, trivial⟩)⟩
    ·conv => whnf
     repeat ((first | refine ⟨entC_pure _, ?_⟩ | refine ⟨rfl, ?_⟩); conv => whnf)
     refine ⟨_, _, t2, by first | rfl | simp [noRoIf, noRoL, noRoV, noRoL_bys], ?_⟩
     conv => whnf
     repeat ((refine ⟨(⟨by kernel_rfl, by kernel_rfl, Nat.le_of_ble_eq_true (by kernel_rfl)⟩ : AV.ones _ = true ∧ _ ∧ _), ?_⟩); conv => whnf)
     exact ⟨(), trivial, Weaker.trans (Weaker.tidy [(2, .rop (entC a)), (3, .rop (entC b)), (5, .ptr 3 0), (6, .ptr 4 0)] [(2, entC a ++ (entC b ++ [])), (3, entC a), (4, entC b)] 5 106 rfl rfl rfl (by kernel_rfl) (by kernel_rfl)) (weaker_of [(0, 3), (1, 4)] rfl rfl ⟨⟨rfl, entC_pure _⟩, ⟨rfl, entC_pure _⟩, ⟨rfl, rfl⟩, ⟨rfl, rfl⟩, trivial⟩ ⟨entC_les a, entC_les b, trivial⟩)⟩
   ·conv => whnf
    repeat ((refine ⟨rfl, ?_⟩); conv => whnf)
    refine ⟨?_, ?_⟩
    ·conv => whnf
     repeat ((first | refine ⟨entC_pure _, ?_⟩ | refine ⟨rfl, ?_⟩); conv => whnf)
     refine ⟨_, _, t2, by first | rfl | simp [noRoIf, noRoL, noRoV, noRoL_bys], ?_⟩
     conv => whnf
     repeat ((first | refine ⟨(⟨by kernel_rfl, by kernel_rfl, Nat.le_of_ble_eq_true (by kernel_rfl)⟩ : AV.ones _ = true ∧ _ ∧ _), ?_⟩ | refine ⟨rfl, ?_⟩); conv => whnf)
     exact ⟨(), trivial, Weaker.trans (Weaker.tidy [(2, .rop (entC a)), (3, .rop (entC b)), (5, .ptr 4 0), (6, .ptr 3 0)] [(2, entC a ++ (entC b ++ [])), (3, entC b), (4, entC a)] 5 106 rfl rfl rfl (by kernel_rfl) (by kernel_rfl)) (weaker_of [(0, 4), (1, 3)] rfl rfl ⟨⟨rfl, entC_pure _⟩, ⟨rfl, entC_pure _⟩, ⟨rfl, rfl⟩, ⟨rfl, rfl⟩, trivial⟩ ⟨entC_les a, entC_les b, trivial⟩)⟩
    ·conv => whnf
     repeat ((first | refine ⟨entC_pure _, ?_⟩ | refine ⟨rfl, ?_⟩); conv => whnf)
     refine ⟨_, _, t2, by first | rfl | simp [noRoIf, noRoL, noRoV, noRoL_bys], ?_⟩
     conv => whnf
     repeat ((refine ⟨(⟨by kernel_rfl, by kernel_rfl, Nat.le_of_ble_eq_true (by kernel_rfl)⟩ : AV.ones _ = true ∧ _ ∧ _), ?_⟩); conv => whnf)
     exact ⟨(), trivial, Weaker.trans (Weaker.tidy [(2, .rop (entC a)), (3, .rop (entC b)), (5, .ptr 4 0), (6, .ptr 3 0)] [(2, entC a ++ (entC b ++ [])), (3, entC b), (4, entC a)] 5 106 rfl rfl rfl (by kernel_rfl) (by kernel_rfl)) (weaker_of [(0, 4), (1, 3)] rfl rfl ⟨⟨rfl, entC_pure _⟩, ⟨rfl, entC_pure _⟩, ⟨rfl, rfl⟩, ⟨rfl, rfl⟩, trivial⟩ ⟨entC_les a, entC_les b, trivial⟩)⟩
  ·conv => whnf
   repeat ((refine ⟨rfl, ?_⟩); conv => whnf)
   refine ⟨?_, ?_⟩
   ·conv => whnf
    repeat ((first | refine ⟨entC_pure _, ?_⟩ | refine ⟨rfl, ?_⟩); conv => whnf)
    refine ⟨_, _, t1, by first | rfl | simp [noRoIf, noRoL, noRoV, noRoL_bys], ?_⟩
    conv => whnf
    refine ⟨?_, ?_⟩
    ·conv => whnf
     repeat ((first | refine ⟨entC_pure _, ?_⟩ | refine ⟨rfl, ?_⟩); conv => whnf)
     refine ⟨_, _, t2, by first | rfl | simp [noRoIf, noRoL, noRoV, noRoL_bys], ?_⟩
     conv => whnf
     repeat ((first | refine ⟨(⟨by kernel_rfl, by kernel_rfl, Nat.le_of_ble_eq_true (by kernel_rfl)⟩ : AV.ones _ = true ∧ _ ∧ _), ?_⟩ | refine ⟨rfl, ?_⟩); conv => whnf)
     exact ⟨(), trivial, Weaker.trans (Weaker.tidy [(2, .rop (entC a)), (3, .rop (entC b)), (5, .ptr 3 0), (6, .ptr 4 0)] [(2, entC a ++ (entC b ++ [])), (3, entC a), (4, entC b)] 5 106 rfl rfl rfl (by kernel_rfl) (by kernel_rfl)) (weaker_of [(0, 3), (1, 4)] rfl rfl ⟨⟨rfl, entC_pure _⟩, ⟨rfl, entC_pure _⟩, ⟨rfl, rfl⟩, ⟨rfl, rfl⟩, trivial⟩ ⟨entC_les a, entC_les b, trivial⟩)⟩
    ·conv => whnf
     repeat ((first | refine ⟨entC_pure _, ?_⟩ | refine ⟨rfl, ?_⟩); conv => whnf)
     refine ⟨_, _, t2, by first | rfl | simp [noRoIf, noRoL, noRoV, noRoL_bys], ?_⟩
     conv => whnf
     repeat ((refine ⟨(⟨by kernel_rfl, by kernel_rfl, Nat.le_of_ble_eq_true (by kernel_rfl)⟩ : AV.ones _ = true ∧ _ ∧ _), ?_⟩); conv => whnf)
     exact ⟨(), trivial, Weaker.trans (Weaker.tidy [(2, .rop (entC a)), (3, .rop (entC b)), (5, .ptr 3 0), (6, .ptr 4 0)] [(2, entC a ++ (entC b ++ [])), (3, entC a), (4, entC b)] 5 106 rfl rfl rfl (by kernel_rfl) (by kernel_rfl)) (weaker_of [(0, 3), (1, 4)] rfl rfl ⟨⟨rfl, entC_pure _⟩, ⟨rfl, entC_pure _⟩, ⟨rfl, rfl⟩, ⟨rfl, rfl⟩, trivial⟩ ⟨entC_les a, entC_les b, trivial⟩)⟩
   ·conv => whnf
    repeat ((first | refine ⟨entC_pure _, ?_⟩ | refine ⟨rfl, ?_⟩); conv => whnf)
    refine ⟨_, _, t1, by first | rfl | simp [noRoIf, noRoL, noRoV, noRoL_bys], ?_⟩
    conv => whnf
    repeat ((first | refine ⟨entC_pure _, ?_⟩ | refine ⟨rfl, ?_⟩); conv => whnf)
    refine ⟨_, _, t2, by first | rfl | simp [noRoIf, noRoL, noRoV, noRoL_bys], ?_⟩
    conv => whnf
    repeat ((refine ⟨(⟨by kernel_rfl, by kernel_rfl, Nat.le_of_ble_eq_true (by kernel_rfl)⟩ : AV.ones _ = true ∧ _ ∧ _), ?_⟩); conv => whnf)
    exact ⟨(), trivial, Weaker.trans (Weaker.tidy [(2, .rop (entC a)), (3, .rop (entC b)), (5, .ptr 3 0), (6, .ptr 4 0)] [(2, entC a ++ (entC b ++ [])), (3, entC a), (4, entC b)] 5 106 rfl rfl rfl (by kernel_rfl) (by kernel_rfl)) (weaker_of [(0, 3), (1, 4)] rfl rfl ⟨⟨rfl, entC_pure _⟩, ⟨rfl, entC_pure _⟩, ⟨rfl, rfl⟩, ⟨rfl, rfl⟩, trivial⟩ ⟨entC_les a, entC_les b, trivial⟩)⟩
  ·conv => whnf
   repeat ((refine ⟨rfl, ?_⟩); conv => whnf)
   refine ⟨?_, ?_⟩
   ·conv => whnf
    repeat ((first | refine ⟨entC_pure _, ?_⟩ | refine ⟨rfl, ?_⟩); conv => whnf)
    refine ⟨_, _, t1, by first | rfl | simp [noRoIf, noRoL, noRoV, noRoL_bys], ?_⟩
    conv => whnf
    refine ⟨?_, ?_⟩
    ·conv => whnf
     repeat ((first | refine ⟨entC_pure _, ?_⟩ | refine ⟨rfl, ?_⟩); conv => whnf)
     refine ⟨_, _, t2, by first | rfl | simp [noRoIf, noRoL, noRoV, noRoL_bys], ?_⟩
     conv => whnf
     repeat ((first | refine ⟨(⟨by kernel_rfl, by kernel_rfl, Nat.le_of_ble_eq_true (by kernel_rfl)⟩ : AV.ones _ = true ∧ _ ∧ _), ?_⟩ | refine ⟨rfl, ?_⟩); conv => whnf)
     exact ⟨(), trivial, Weaker.trans (Weaker.tidy [(2, .rop (entC a)), (3, .rop (entC b)), (5, .ptr 4 0), (6, .ptr 3 0)] [(2, entC a ++ (entC b ++ [])), (3, entC b), (4, entC a)] 5 106 rfl rfl rfl (by kernel_rfl) (by kernel_rfl)) (weaker_of [(0, 4), (1, 3)] rfl rfl ⟨⟨rfl, entC_pure _⟩, ⟨rfl, entC_pure _⟩, ⟨rfl, rfl⟩, ⟨rfl, rfl⟩, trivial⟩ ⟨entC_les a, entC_les b, trivial⟩)⟩
    ·conv => whnf
     repeat ((first | refine ⟨entC_pure _, ?_⟩ | refine ⟨rfl, ?_⟩); conv => whnf)
     refine ⟨_, _, t2, by first | rfl | simp [noRoIf, noRoL, noRoV, noRoL_bys], ?_⟩
     conv => whnf
     repeat ((refine ⟨(⟨by kernel_rfl, by kernel_rfl, Nat.le_of_ble_eq_true (by kernel_rfl)⟩ : AV.ones _ = true ∧ _ ∧ _), ?_⟩); conv => whnf)
     exact ⟨(), trivial, Weaker.trans (Weaker.tidy [(2, .rop (entC a)), (3, .rop (entC b)), (5, .ptr 4 0), (6, .ptr 3 0)] [(2, entC a ++ (entC b ++ [])), (3, entC b), (4, entC a)] 5 106 rfl rfl rfl (by kernel_rfl) (by kernel_rfl)) (weaker_of [(0, 4), (1, 3)] rfl rfl ⟨⟨rfl, entC_pure _⟩, ⟨rfl, entC_pure _⟩, ⟨rfl, rfl⟩, ⟨rfl, rfl⟩, trivial⟩ ⟨entC_les a, entC_les b, trivial⟩)⟩
   ·conv => whnf
    repeat ((first | refine ⟨entC_pure _, ?_⟩ | refine ⟨rfl, ?_⟩); conv => whnf)
    refine ⟨_, _, t1, by first | rfl | simp [noRoIf, noRoL, noRoV, noRoL_bys], ?_⟩
    conv => whnf
    repeat ((first | refine ⟨entC_pure _, ?_⟩ | refine ⟨rfl, ?_⟩); conv => whnf)
    refine ⟨_, _, t2, by first | rfl | simp [noRoIf, noRoL, noRoV, noRoL_bys], ?_⟩
    conv => whnf
    repeat ((refine ⟨(⟨by kernel_rfl, by kernel_rfl, Nat.le_of_ble_eq_true (by kernel_rfl)⟩ : AV.ones _ = true ∧ _ ∧ _), ?_⟩); conv => whnf)
    exact ⟨(), trivial, Weaker.trans (Weaker.tidy [(2, .rop (entC a)), (3, .rop (entC b)), (5, .ptr 4 0), (6, .ptr 3 0)] [(2, entC a ++ (entC b ++ [])), (3, entC b), (4, entC a)] 5 106 rfl rfl rfl (by kernel_rfl) (by kernel_rfl)) (weaker_of [(0, 4), (1, 3)] rfl rfl ⟨⟨rfl, entC_pure _⟩, ⟨rfl, entC_pure _⟩, ⟨rfl, rfl⟩, ⟨rfl, rfl⟩, trivial⟩ ⟨entC_les a, entC_les b, trivial⟩)⟩
 intro _ _
 have hmk : mkP a b = ((mkP a b).1, (mkP a b).2) := rfl
 generalize hP : (mkP a b).1 = P at *
 generalize hE : (mkP a b).2 = E at *
 refine Does.freeze 0 rfl (Does.freeze 1 (zs := entC b) (by show some (frzL 0 _ (entC b)) = _; rw [entC_frz]) (Does.tidy [(2, .rop (entC a)), (3, .rop (entC b)), (5, .rop (entC a)), (6, .rop (entC b))] [] 2 106 rfl rfl rfl (by kernel_rfl) (by kernel_rfl) ?_))
 refine wpc_sound (M := MRd) (PL := PLpm) (CU := cutAt [100005, 100006, 100008, 100010]) TTok mixed _ _ _ ?_
 conv => whnf
 repeat ((first | refine ⟨entC_pure _, ?_⟩ | refine ⟨rfl, ?_⟩ | refine ⟨_, rfl, ?_⟩); conv => whnf)
 refine ⟨_, _, m1, by first | rfl | simp [noRoIf, noRoL, noRoV, noRoL_bys], ?_⟩
 conv => whnf
 repeat ((first | refine ⟨(⟨by kernel_rfl, by kernel_rfl, Nat.le_of_ble_eq_true (by kernel_rfl)⟩ : AV.ones _ = true ∧ _ ∧ _), ?_⟩ | refine ⟨rfl, ?_⟩); conv => whnf)
 refine Does.tidy [(2, .rop (entC a)), (3, .rop (entC b)), (5, .rop (entC a)), (6, .rop (entC b)), (7, .ptr 2 0), (8, .int .i64 E)] [(2, prfC P)] 3 106 rfl rfl rfl (by kernel_rfl) (by kernel_rfl) ?_
 refine Does.freeze 2 rfl (Does.tidy [(2, .rop (entC a)), (3, .rop (entC b)), (5, .rop (entC a)), (6, .rop (entC b)), (7, .rop (prfC P)), (8, .int .i64 E)] [] 3 106 rfl rfl rfl (by kernel_rfl) (by kernel_rfl) ?_)
 refine wpc_sound (M := MRd) (PL := PLpm) (CU := cutAt [100006, 100008, 100010]) TTok mixed _ _ _ ?_
 conv => whnf
 repeat ((first | refine ⟨entC_pure _, ?_⟩ | refine ⟨rfl, ?_⟩ | refine ⟨_, rfl, ?_⟩); conv => whnf)
 refine ⟨_, _, m2, by first | rfl | simp [noRoIf, noRoL, noRoV, noRoL_bys], ?_⟩
 conv => whnf
 repeat ((first | refine ⟨(⟨by kernel_rfl, by kernel_rfl, Nat.le_of_ble_eq_true (by kernel_rfl)⟩ : AV.ones _ = true ∧ _ ∧ _), ?_⟩ | refine ⟨rfl, ?_⟩); conv => whnf)
 refine Does.tidy [(2, .rop (entC a)), (3, .rop (entC b)), (5, .rop (entC a)), (6, .rop (entC b)), (7, .rop (prfC P)), (8, .int .i64 E), (9, .ptr 3 0), (10, .int .i64 E)] [(3, prfC P)] 4 106 rfl rfl rfl (by kernel_rfl) (by kernel_rfl) ?_
 refine Does.freeze 3 rfl (Does.tidy [(2, .rop (entC a)), (3, .rop (entC b)), (5, .rop (entC a)), (6, .rop (entC b)), (7, .rop (prfC P)), (8, .int .i64 E), (9, .rop (prfC P)), (10, .int .i64 E)] [] 4 106 rfl rfl rfl (by kernel_rfl) (by kernel_rfl) ?_)
 refine wpc_sound (M := MRd) (PL := PLpm) (CU := cutAt [100008, 100010]) TTok mixed _ _ _ ?_
 conv => whnf
 repeat ((first | refine ⟨entC_pure _, ?_⟩ | refine ⟨rfl, ?_⟩ | refine ⟨_, rfl, ?_⟩); conv => whnf)
 refine ⟨_, _, ka, by first | rfl | simp [noRoIf, noRoL, noRoV, noRoL_bys], ?_⟩
 conv => whnf
 repeat ((first | refine ifB_f ?_ | refine ⟨entC_pure _, ?_⟩ | refine ⟨rfl, ?_⟩ | refine ⟨_, rfl, ?_⟩); conv => whnf)
 refine ⟨_, _, kb, by first | rfl | simp [noRoIf, noRoL, noRoV, noRoL_bys], ?_⟩
 conv => whnf
 repeat ((first | refine ifB_f ?_ | (refine ifB_neg (decide_eq_false (by first | omega | rfl | (dsimp only; omega))) ?_) | refine ⟨rfl, ?_⟩ | refine ⟨_, rfl, ?_⟩ | (refine And.intro ?_ ?_; (focus (first | (simp only [pureL, pureV, pureL_bys, Bool.and_true, Bool.and_self]; done) | (simp only [pureL, pureV, pureL_bys, pureL_toks, Bool.and_true, Bool.and_self]; done))))); conv => whnf)
 refine ⟨_, _, kp, by first | rfl | simp [noRoIf, noRoL, noRoV, noRoL_bys], ?_⟩
 conv => whnf
 repeat ((refine ifB_f ?_); conv => whnf)
 refine wpc_sound (M := MRd) (PL := PLpm) (CU := cutAt [100010]) TTok mixed _ _ _ ?_
 have none : ordR a b = 0 → P = prf0 ∧ E = 1 := fun h => by
  rw [mk_none h] at hP hE
  exact ⟨hP.symm, hE.symm⟩
 cases hra : entR a <;> rw [hra] at ra
 ·obtain ⟨rfl, rfl⟩ := none (ord_no1 hra)
  conv => whnf
  repeat ((first | refine ⟨entC_pure _, ?_⟩ | refine ⟨rfl, ?_⟩ | refine ⟨_, rfl, ?_⟩); conv => whnf)
  refine ⟨_, _, ra, by first | rfl | simp [noRoIf, noRoL, noRoV, noRoL_bys], ?_⟩
  conv => whnf
  repeat ((first | refine ifB_t ?_ | refine ⟨entC_pure _, ?_⟩ | refine ⟨rfl, ?_⟩ | refine ⟨_, rfl, ?_⟩); conv => whnf)
  refine ⟨_, _, prf0_args k0, by first | rfl | simp [noRoIf, noRoL, noRoV, noRoL_bys], ?_⟩
  conv => whnf
  repeat ((first | refine ifB_t ?_ | refine ⟨rfl, ?_⟩); conv => whnf)
  refine ⟨_, _, wakes12_ok, by first | rfl | simp [noRoIf, noRoL, noRoV, noRoL_bys], ?_⟩
  conv => whnf
  repeat ((first | refine ifB_t ?_ | refine ⟨rfl, ?_⟩); conv => whnf)
  rfl
 cases hrb : entR b <;> rw [hrb] at rb
 ·obtain ⟨rfl, rfl⟩ := none (ord_no2 hrb)
  conv => whnf
  repeat ((first | refine ⟨entC_pure _, ?_⟩ | refine ⟨rfl, ?_⟩ | refine ⟨_, rfl, ?_⟩); conv => whnf)
  refine ⟨_, _, ra, by first | rfl | simp [noRoIf, noRoL, noRoV, noRoL_bys], ?_⟩
  conv => whnf
  repeat ((first | refine ifB_f ?_ | refine ⟨entC_pure _, ?_⟩ | refine ⟨rfl, ?_⟩ | refine ⟨_, rfl, ?_⟩); conv => whnf)
  refine ⟨_, _, rb, by first | rfl | simp [noRoIf, noRoL, noRoV, noRoL_bys], ?_⟩
  conv => whnf
  repeat ((first | refine ifB_t ?_ | refine ifB_f ?_ | refine ⟨entC_pure _, ?_⟩ | refine ⟨rfl, ?_⟩ | refine ⟨_, rfl, ?_⟩); conv => whnf)
  refine ⟨_, _, prf0_args k0, by first | rfl | simp [noRoIf, noRoL, noRoV, noRoL_bys], ?_⟩
  conv => whnf
  repeat ((first | refine ifB_t ?_ | refine ⟨rfl, ?_⟩); conv => whnf)
  refine ⟨_, _, wakes12_ok, by first | rfl | simp [noRoIf, noRoL, noRoV, noRoL_bys], ?_⟩
  conv => whnf
  repeat ((first | refine ifB_t ?_ | refine ⟨rfl, ?_⟩); conv => whnf)
  rfl
 conv => whnf
 repeat ((first | refine ⟨entC_pure _, ?_⟩ | refine ⟨rfl, ?_⟩ | refine ⟨_, rfl, ?_⟩); conv => whnf)
 refine ⟨_, _, ra, by first | rfl | simp [noRoIf, noRoL, noRoV, noRoL_bys], ?_⟩
 conv => whnf
 repeat ((first | refine ifB_f ?_ | refine ⟨entC_pure _, ?_⟩ | refine ⟨rfl, ?_⟩ | refine ⟨_, rfl, ?_⟩); conv => whnf)
 refine ⟨_, _, rb, by first | rfl | simp [noRoIf, noRoL, noRoV, noRoL_bys], ?_⟩
 conv => whnf
 repeat ((first | refine ifB_f ?_ | refine ⟨_, rfl, ?_⟩); conv => whnf)
 refine ⟨a.au, b.au, ⟨rfl, c32_map ha.au.2, c32_map hb.au.2, ha.au.2, hb.au.2⟩, ?_⟩
 by_cases h1 : a.au = b.au
 case neg =>
  rw [df h1]
  obtain ⟨rfl, rfl⟩ := none (ord_nau h1)
  conv => whnf
  repeat ((first | refine ifB_t ?_ | refine ifB_f ?_ | refine ⟨entC_pure _, ?_⟩ | refine ⟨rfl, ?_⟩ | refine ⟨_, rfl, ?_⟩); conv => whnf)
  refine ⟨_, _, prf0_args k0, by first | rfl | simp [noRoIf, noRoL, noRoV, noRoL_bys], ?_⟩
  conv => whnf
  repeat ((first | refine ifB_t ?_ | refine ⟨rfl, ?_⟩); conv => whnf)
  refine ⟨_, _, wakes12_ok, by first | rfl | simp [noRoIf, noRoL, noRoV, noRoL_bys], ?_⟩
  conv => whnf
  repeat ((first | refine ifB_t ?_ | refine ⟨rfl, ?_⟩); conv => whnf)
  rfl
 rw [dt h1]
 by_cases h2 : a.seq = b.seq
 case neg =>
  obtain ⟨rfl, rfl⟩ := none (ord_nseq h2)
  conv => whnf
  repeat ((first | refine ifB_t ?_ | refine ifB_f ?_ | (refine ifB_pos (decide_eq_true (by first | omega | rfl | (dsimp only; omega))) ?_) | refine ⟨entC_pure _, ?_⟩ | refine ⟨rfl, ?_⟩ | refine ⟨_, rfl, ?_⟩); conv => whnf)
  refine ⟨_, _, prf0_args k0, by first | rfl | simp [noRoIf, noRoL, noRoV, noRoL_bys], ?_⟩
  conv => whnf
  repeat ((first | refine ifB_t ?_ | refine ⟨rfl, ?_⟩); conv => whnf)
  refine ⟨_, _, wakes12_ok, by first | rfl | simp [noRoIf, noRoL, noRoV, noRoL_bys], ?_⟩
  conv => whnf
  repeat ((first | refine ifB_t ?_ | refine ⟨rfl, ?_⟩); conv => whnf)
  rfl
 by_cases h3 : a = b
 ·rw [dt h3] at kab
  obtain ⟨rfl, rfl⟩ := none (by rw [← h3]; exact ord_same a)
  conv => whnf
  repeat ((first | refine ifB_f ?_ | (refine ifB_neg (decide_eq_false (by first | omega | rfl | (dsimp only; omega))) ?_) | refine ⟨entC_pure _, ?_⟩ | refine ⟨rfl, ?_⟩ | refine ⟨_, rfl, ?_⟩); conv => whnf)
  refine ⟨_, _, kab, by first | rfl | simp [noRoIf, noRoL, noRoV, noRoL_bys], ?_⟩
  conv => whnf
  repeat ((first | refine ifB_t ?_ | refine ifB_f ?_ | refine ⟨entC_pure _, ?_⟩ | refine ⟨rfl, ?_⟩ | refine ⟨_, rfl, ?_⟩); conv => whnf)
  refine ⟨_, _, prf0_args k0, by first | rfl | simp [noRoIf, noRoL, noRoV, noRoL_bys], ?_⟩
  conv => whnf
  repeat ((first | refine ifB_t ?_ | refine ⟨rfl, ?_⟩); conv => whnf)
  refine ⟨_, _, wakes12_ok, by first | rfl | simp [noRoIf, noRoL, noRoV, noRoL_bys], ?_⟩
  conv => whnf
  repeat ((first | refine ifB_t ?_ | refine ⟨rfl, ?_⟩); conv => whnf)
  rfl
 rw [df h3] at kab
 obtain ⟨x, y, e, hl, hxy⟩ := mkP_two ha hb hra hrb h1 h2 h3
 rw [e] at hP hE
 dsimp only at hP hE
 subst hE
 have qa : (encR validR (entTs a)).1 = (entB a).1 := by unfold entB; rw [hra]; rfl
 have qb : (encR validR (entTs b)).1 = (entB b).1 := by unfold entB; rw [hrb]; rfl
 have hm : ACall Tryz.prog 17 [.agg (entC a), .agg (entC b)] (.agg (prfC P)) [] ∧ prfR P = true := by
  rcases hxy with ⟨rfl, rfl⟩ | ⟨rfl, rfl⟩
  ·subst hP
   refine ⟨mkprf1_ok x y ha hb (by rw [qa, qb]; exact lt_asym hl), ?_⟩
   rw [prfR_eq ⟨ha, hb⟩]
   dsimp only
   rw [qa, qb, hra, hrb, hl, decide_eq_true h1, decide_eq_true h2]
   rfl
  ·subst hP
   refine ⟨mkprf2_ok y x ha hb (by rw [qa, qb]; exact hl), ?_⟩
   rw [prfR_eq ⟨hb, ha⟩]
   dsimp only
   rw [qa, qb, hra, hrb, hl, decide_eq_true h1.symm, decide_eq_true h2.symm]
   rfl
 obtain ⟨hmk2, hpr⟩ := hm
 have hck := check_proof_ok P hpS
 rw [hpr] at hck
 clear hP hl hxy e hmk
 conv => whnf
 repeat ((first | refine ifB_f ?_ | (refine ifB_neg (decide_eq_false (by first | omega | rfl | (dsimp only; omega))) ?_) | refine ⟨entC_pure _, ?_⟩ | refine ⟨rfl, ?_⟩ | refine ⟨_, rfl, ?_⟩); conv => whnf)
 refine ⟨_, _, kab, by first | rfl | simp [noRoIf, noRoL, noRoV, noRoL_bys], ?_⟩
 conv => whnf
 repeat ((refine ifB_f ?_); conv => whnf)
 refine wpc_sound (M := MRd) (PL := PLpm) (CU := noCut) TTok mixed _ _ _ ?_
 conv => whnf
 refine ⟨by kernel_rfl, ?_⟩
 conv => whnf
 repeat ((first | refine ifB_t ?_ | refine ⟨entC_pure _, ?_⟩ | refine ⟨rfl, ?_⟩ | refine ⟨_, rfl, ?_⟩); conv => whnf)
 refine ⟨_, _, hmk2, by first | rfl | simp [noRoIf, noRoL, noRoV, noRoL_bys], ?_⟩
 conv => whnf
 repeat ((first | refine ifB_t ?_ | refine ⟨rfl, ?_⟩ | (refine And.intro ?_ ?_; (focus (first | (simp only [pureL, pureV, pureL_bys, Bool.and_true, Bool.and_self]; done) | (simp only [pureL, pureV, pureL_bys, pureL_toks, Bool.and_true, Bool.and_self]; done))))); conv => whnf)
 refine ⟨_, _, kp, by first | rfl | simp [noRoIf, noRoL, noRoV, noRoL_bys], ?_⟩
 conv => whnf
 repeat ((first | refine ifB_t ?_ | refine ⟨rfl, ?_⟩ | refine ⟨_, rfl, ?_⟩ | (refine And.intro ?_ ?_; (focus (first | (simp only [pureL, pureV, pureL_bys, Bool.and_true, Bool.and_self]; done) | (simp only [pureL, pureV, pureL_bys, pureL_toks, Bool.and_true, Bool.and_self]; done))))); conv => whnf)
 refine ⟨_, _, hck, by first | rfl | simp [noRoIf, noRoL, noRoV, noRoL_bys], ?_⟩
 conv => whnf
 repeat ((first | refine ifB_t ?_ | refine ⟨rfl, ?_⟩); conv => whnf)
 refine ⟨_, _, wakes12_ok, by first | rfl | simp [noRoIf, noRoL, noRoV, noRoL_bys], ?_⟩
 conv => whnf
 repeat ((first | refine ifB_t ?_ | refine ⟨rfl, ?_⟩); conv => whnf)
 rfl
end
end Go.Proofs.YtgcmddhdnfmdnaaGreatDoor.Abs
