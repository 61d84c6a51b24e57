/- Texts ET to GL, merged. -/
import Derived.Test.YtbkclacjamlebaaGreatDoorV13
set_option linter.unusedVariables false
set_option linter.unusedSimpArgs false
namespace Go.Proofs.YtbkclacjamlebaaGreatDoor.Abs
open Go
section
--KR
attribute [local irreducible] ifB fitP Does Weaker
theorem cmp_neg (x y : List Int) : decide (cmpI x y < 0) = bytesLt x y := by
 unfold cmpI
 cases h : bytesLt x y
 ·simp; split <;> omega
 ·simp
theorem prfR_eq {p : Prf} (hp : PrfS p) : prfR p = (entR p.a && entR p.b && decide (p.a.au = p.b.au) && decide (p.a.seq = p.b.seq) && bytesLt (encR validR (entTs p.a)).1 (encR validR (entTs p.b)).1) := by
 unfold prfR ordR
 rw [← entB_err hp.a, ← entB_err hp.b]
 by_cases c1 : (entB p.a).2 = 0
 ·by_cases c2 : (entB p.b).2 = 0
  ·rw [if_neg (by omega), if_neg (by omega), dt c1, dt c2]
   have x1 : (encR validR (entTs p.a)).1 = (entB p.a).1 := by rw [(entB_right c1).2]
   have x2 : (encR validR (entTs p.b)).1 = (entB p.b).1 := by rw [(entB_right c2).2]
   rw [x1, x2]
   by_cases c3 : p.a.au = p.b.au
   ·by_cases c4 : p.a.seq = p.b.seq
    ·rw [if_neg (fun h => h c3), if_neg (fun h => h c4), dt c3, dt c4, cmp_neg]; rfl
    ·rw [if_neg (fun h => h c3), if_pos c4, dt c3, df c4]; rfl
   ·rw [if_pos c3, df c3]; rfl
  ·rw [if_neg (by omega), if_pos c2, dt c1, df c2]; rfl
 ·rw [if_pos c1, df c1]; rfl
theorem enc_byt {e : Ent} (he : EntS e) : Byt (encR validR (entTs e)).1 := encR_byt _ (entTs_ok e he).1
def PLrp : Nat → Bool × Plan := plans [(1, (false, (takesTo [0, 1] (.all [(2, (takesTo [3, 4, 5] (.all [(6, (takesTo [7, 8, 9, 10, 11, 12, 13, 14, 15, 16, 17, 18, 19, 20, 21, 22, 23, 24, 25, 26, 27, 28, 31, 32] (.all [(29, (.all [(30, (.all [(33, (.all [(34, (takes [35, 36, 37]))]))])), (33, (.all [(30, (.all [(34, (takes [35, 36, 37]))])), (34, (.all [(30, (takes [35, 36, 37]))]))]))]))])))])))]))))]
set_option maxRecDepth 20000 in
set_option maxHeartbeats 4000000 in
theorem refproof_ok (p : Prf) (hp : PrfS p) : ACall Tryz.prog 37 [.agg (prfC p)] (.bool (prfR p)) [] := by
 rw [prfR_eq hp]
 have h1 := refentry_ok p.a hp.a
 have h2 := refentry_ok p.b hp.b
 have h3 := refebytes_ok p.a hp.a
 have h4 := refebytes_ok p.b hp.b
 have b1 := enc_byt hp.a
 have b2 := enc_byt hp.b
 generalize (encR validR (entTs p.a)).1 = x at h3 b1 ⊢
 generalize (encR validR (entTs p.b)).1 = y at h4 b2 ⊢
 refine ACall.of_does TTok Tryz.func37 rfl Tryz.call37 rfl (wpc_sound (M := MF) (PL := PLrp) (CU := cutAt [100001]) TTok mixed _ _ _ ?_)
 conv => whnf
 repeat ((refine ⟨rfl, ?_⟩); conv => whnf)
 refine Does.freeze 0 rfl (Does.tidy [(1, .rop (prfC p))] [] 1 40 rfl rfl rfl (by kernel_rfl) (by kernel_rfl) ?_)
 refine wpc_sound (M := MF) (PL := PLrp) (CU := noCut) TTok mixed _ _ _ ?_
 conv => whnf
 refine ⟨by kernel_rfl, ?_⟩
 cases c1 : entR p.a <;> rw [c1] at h1
 ·conv => whnf
  repeat ((first | refine ⟨entC_pure _, ?_⟩ | refine ⟨rfl, ?_⟩ | refine ⟨_, rfl, ?_⟩); conv => whnf)
  refine ⟨_, _, h1, by first | rfl | simp [noRoIf, noRoL, noRoV, noRoL_bys], ?_⟩
  conv => whnf
  repeat ((first | refine ifB_f ?_ | refine ⟨rfl, ?_⟩); conv => whnf)
  conv => whnf
  repeat' (first | (refine ifB_f ?_; (conv => whnf)) | (refine ⟨rfl, ?_⟩; (conv => whnf)) | (rfl) | (refine ⟨_, rfl, ?_⟩; conv => whnf) | (refine And.intro ?_ ?_ <;> conv => whnf))
 cases c2 : entR p.b <;> rw [c2] at h2
 ·conv => whnf
  repeat ((first | refine ⟨entC_pure _, ?_⟩ | refine ⟨rfl, ?_⟩ | refine ⟨_, rfl, ?_⟩); conv => whnf)
  refine ⟨_, _, h1, by first | rfl | simp [noRoIf, noRoL, noRoV, noRoL_bys], ?_⟩
  conv => whnf
  repeat ((first | refine ifB_t ?_ | refine ⟨entC_pure _, ?_⟩ | refine ⟨rfl, ?_⟩ | refine ⟨_, rfl, ?_⟩); conv => whnf)
  refine ⟨_, _, h2, by first | rfl | simp [noRoIf, noRoL, noRoV, noRoL_bys], ?_⟩
  conv => whnf
  repeat ((first | refine ifB_t ?_ | refine ifB_f ?_ | refine ⟨rfl, ?_⟩); conv => whnf)
  conv => whnf
  repeat' (first | (refine ifB_f ?_; (conv => whnf)) | (refine ⟨rfl, ?_⟩; (conv => whnf)) | (rfl) | (refine ⟨_, rfl, ?_⟩; conv => whnf) | (refine And.intro ?_ ?_ <;> conv => whnf))
 by_cases c3 : p.a.au = p.b.au
 ·rw [dt c3]
  by_cases c4 : p.a.seq = p.b.seq
  ·rw [dt c4]
   conv => whnf
   repeat ((first | refine ⟨entC_pure _, ?_⟩ | refine ⟨rfl, ?_⟩ | refine ⟨_, rfl, ?_⟩); conv => whnf)
   refine ⟨_, _, h1, by first | rfl | simp [noRoIf, noRoL, noRoV, noRoL_bys], ?_⟩
   conv => whnf
   repeat ((first | refine ifB_t ?_ | refine ⟨entC_pure _, ?_⟩ | refine ⟨rfl, ?_⟩ | refine ⟨_, rfl, ?_⟩); conv => whnf)
   refine ⟨_, _, h2, by first | rfl | simp [noRoIf, noRoL, noRoV, noRoL_bys], ?_⟩
   conv => whnf
   repeat ((first | refine ifB_t ?_ | refine ⟨rfl, ?_⟩ | refine ⟨_, rfl, ?_⟩); conv => whnf)
   refine ⟨p.a.au, p.b.au, ⟨rfl, c32_map hp.a.au.2, c32_map hp.b.au.2, hp.a.au.2, hp.b.au.2⟩, ?_⟩
   conv => whnf
   repeat ((first | refine ifB_t ?_ | (refine ifB_pos (decide_eq_true (by first | omega | rfl | (dsimp only; omega))) ?_) | refine ⟨entC_pure _, ?_⟩ | refine ⟨rfl, ?_⟩ | refine ⟨_, rfl, ?_⟩); conv => whnf)
   rw [dt c3]
   conv => whnf
   refine ⟨_, _, h3, by first | rfl | simp [noRoIf, noRoL, noRoV, noRoL_bys], ?_⟩
   conv => whnf
   refine ⟨?_, ?_⟩
   ·conv => whnf
    repeat ((first | refine ifB_t ?_ | (refine Or.inl ⟨⟨rfl, ?_⟩, ?_⟩; (focus (first | rfl | (simp; done) | (rw [toksC_length]; omega))))); conv => whnf)
    refine ⟨x, ⟨by first | rfl | (simp [bys]; done) | exact whole_bys x, b1⟩, ?_⟩
    conv => whnf
    repeat ((first | refine ifB_t ?_ | refine ⟨entC_pure _, ?_⟩ | refine ⟨rfl, ?_⟩); conv => whnf)
    refine ⟨_, _, h4, by first | rfl | simp [noRoIf, noRoL, noRoV, noRoL_bys], ?_⟩
    conv => whnf
    repeat ((first | refine ifB_t ?_ | (refine Or.inl ⟨⟨rfl, ?_⟩, ?_⟩; (focus (first | rfl | (simp; done) | (rw [toksC_length]; omega))))); conv => whnf)
    refine ⟨y, ⟨by first | rfl | (simp [bys]; done) | exact whole_bys y, b2⟩, ?_⟩
    conv => whnf
    repeat ((first | refine ifB_t ?_ | refine ⟨rfl, ?_⟩); conv => whnf)
    rfl
   ·conv => whnf
    repeat ((first | refine ifB_t ?_ | refine ⟨entC_pure _, ?_⟩ | refine ⟨rfl, ?_⟩); conv => whnf)
    refine ⟨_, _, h4, by first | rfl | simp [noRoIf, noRoL, noRoV, noRoL_bys], ?_⟩
    conv => whnf
    refine ⟨?_, ?_⟩
    ·conv => whnf
     repeat ((first | refine ifB_t ?_ | (refine Or.inl ⟨⟨rfl, ?_⟩, ?_⟩; (focus (first | rfl | (simp; done) | (rw [toksC_length]; omega))))); conv => whnf)
     refine ⟨x, ⟨by first | rfl | (simp [bys]; done) | exact whole_bys x, b1⟩, ?_⟩
     conv => whnf
     repeat ((first | refine ifB_t ?_ | (refine Or.inl ⟨⟨rfl, ?_⟩, ?_⟩; (focus (first | rfl | (simp; done) | (rw [toksC_length]; omega))))); conv => whnf)
     refine ⟨y, ⟨by first | rfl | (simp [bys]; done) | exact whole_bys y, b2⟩, ?_⟩
     conv => whnf
     repeat ((first | refine ifB_t ?_ | refine ⟨rfl, ?_⟩); conv => whnf)
     rfl
    ·conv => whnf
     repeat ((first | refine ifB_t ?_ | (refine Or.inl ⟨⟨rfl, ?_⟩, ?_⟩; (focus (first | rfl | (simp; done) | (rw [toksC_length]; omega))))); conv => whnf)
     refine ⟨y, ⟨by first | rfl | (simp [bys]; done) | exact whole_bys y, b2⟩, ?_⟩
     conv => whnf
     repeat ((first | refine ifB_t ?_ | (refine Or.inl ⟨⟨rfl, ?_⟩, ?_⟩; (focus (first | rfl | (simp; done) | (rw [toksC_length]; omega))))); conv => whnf)
     refine ⟨x, ⟨by first | rfl | (simp [bys]; done) | exact whole_bys x, b1⟩, ?_⟩
     conv => whnf
     repeat ((first | refine ifB_t ?_ | refine ⟨rfl, ?_⟩); conv => whnf)
     rfl
  ·rw [df c4]
   conv => whnf
   repeat ((first | refine ⟨entC_pure _, ?_⟩ | refine ⟨rfl, ?_⟩ | refine ⟨_, rfl, ?_⟩); conv => whnf)
   refine ⟨_, _, h1, by first | rfl | simp [noRoIf, noRoL, noRoV, noRoL_bys], ?_⟩
   conv => whnf
   repeat ((first | refine ifB_t ?_ | refine ⟨entC_pure _, ?_⟩ | refine ⟨rfl, ?_⟩ | refine ⟨_, rfl, ?_⟩); conv => whnf)
   refine ⟨_, _, h2, by first | rfl | simp [noRoIf, noRoL, noRoV, noRoL_bys], ?_⟩
   conv => whnf
   repeat ((first | refine ifB_t ?_ | refine ⟨rfl, ?_⟩ | refine ⟨_, rfl, ?_⟩); conv => whnf)
   refine ⟨p.a.au, p.b.au, ⟨rfl, c32_map hp.a.au.2, c32_map hp.b.au.2, hp.a.au.2, hp.b.au.2⟩, ?_⟩
   conv => whnf
   repeat ((first | refine ifB_t ?_ | refine ifB_f ?_ | (refine ifB_neg (decide_eq_false (by first | omega | rfl | (dsimp only; omega))) ?_) | (refine ifB_pos (decide_eq_true (by first | omega | rfl | (dsimp only; omega))) ?_) | refine ⟨rfl, ?_⟩ | refine ⟨_, rfl, ?_⟩); conv => whnf)
   rw [dt c3]
   conv => whnf
   conv => whnf
   repeat' (first | (refine ifB_f ?_; (conv => whnf)) | (refine ⟨rfl, ?_⟩; (conv => whnf)) | (rfl) | (refine ⟨_, rfl, ?_⟩; conv => whnf) | (refine And.intro ?_ ?_ <;> conv => whnf))
 ·rw [df c3]
  conv => whnf
  repeat ((first | refine ⟨entC_pure _, ?_⟩ | refine ⟨rfl, ?_⟩ | refine ⟨_, rfl, ?_⟩); conv => whnf)
  refine ⟨_, _, h1, by first | rfl | simp [noRoIf, noRoL, noRoV, noRoL_bys], ?_⟩
  conv => whnf
  repeat ((first | refine ifB_t ?_ | refine ⟨entC_pure _, ?_⟩ | refine ⟨rfl, ?_⟩ | refine ⟨_, rfl, ?_⟩); conv => whnf)
  refine ⟨_, _, h2, by first | rfl | simp [noRoIf, noRoL, noRoV, noRoL_bys], ?_⟩
  conv => whnf
  repeat ((first | refine ifB_t ?_ | refine ⟨rfl, ?_⟩ | refine ⟨_, rfl, ?_⟩); conv => whnf)
  refine ⟨p.a.au, p.b.au, ⟨rfl, c32_map hp.a.au.2, c32_map hp.b.au.2, hp.a.au.2, hp.b.au.2⟩, ?_⟩
  conv => whnf
  repeat ((first | refine ifB_t ?_ | refine ifB_f ?_ | (refine ifB_neg (decide_eq_false (by first | omega | rfl | (dsimp only; omega))) ?_) | refine ⟨rfl, ?_⟩); conv => whnf)
  rw [df c3]
  conv => whnf
  conv => whnf
  repeat' (first | (refine ifB_f ?_; (conv => whnf)) | (refine ⟨rfl, ?_⟩; (conv => whnf)) | (rfl) | (refine ⟨_, rfl, ?_⟩; conv => whnf) | (refine And.intro ?_ ?_ <;> conv => whnf))
end
section
--KR
attribute [local irreducible] ifB fitP Does Weaker
end
section
--KR
attribute [local irreducible] ifB fitP Does Weaker demsP
end
section

theorem entB_inj {m k : Ent} (hm : EntS m) (hk : EntS k) (h1 : (entB m).2 = 0) (h2 : (entB k).2 = 0) : decide ((entB m).1 = (entB k).1) = decide (m = k) := by
 have a := rdEnt_bytes hm h1
 have b := rdEnt_bytes hk h2
 by_cases c : m = k
 ·rw [c]; simp
 ·rw [decide_eq_false c, decide_eq_false]
  intro e
  rw [e, b] at a
  exact c (by injection a with a _; exact a.symm)
end
section

theorem arr32_of_ty {n : Nat} {y : List AV} (h : TyL TT (n + 2) 22 y) : ∃ l : List Int, y = bys l ∧ Byt l ∧ l.length = 32 := by
 obtain ⟨es, rfl, hl, he⟩ := h
 obtain ⟨l, h1, h2, h3⟩ := bytes_of_ty ⟨_, show TT 5 = some _ from rfl, rfl⟩ es he
 exact ⟨l, h1, h3, by rw [h2, hl]⟩
theorem arr64_of_ty {n : Nat} {y : List AV} (h : TyL TT (n + 2) 26 y) : ∃ l : List Int, y = bys l ∧ Byt l ∧ l.length = 64 := by
 obtain ⟨es, rfl, hl, he⟩ := h
 obtain ⟨l, h1, h2, h3⟩ := bytes_of_ty ⟨_, show TT 5 = some _ from rfl, rfl⟩ es he
 exact ⟨l, h1, h3, by rw [h2, hl]⟩
theorem ent_of_ty {n : Nat} {y : List AV} (h : TyL TT (n + 4) 28 y) : ∃ e : Ent, y = entC e ∧ EntOk e := by
 obtain ⟨ys, rfl, a, r, rfl, ha, b, r', rfl, ⟨sq, rfl, s1, s2⟩, c, r2, rfl, hc, d, r3, rfl, ⟨st, rfl, t1, t2⟩, o, r4, rfl, ⟨os, rfl, o1, q1, rfl, ⟨kd, rfl, k1, k2⟩, o2, q2, rfl, ⟨ky, rfl, y1, y2⟩, o3, q3, rfl, hv, rfl⟩, g, r5, rfl, hg, rfl⟩ := h
 obtain ⟨au, rfl, u1, u2⟩ := arr32_of_ty ha
 obtain ⟨pv, rfl, v1, v2⟩ := arr32_of_ty hc
 obtain ⟨sg, rfl, g1, g2⟩ := arr64_of_ty hg
 obtain ⟨vl, rfl, w1, w2⟩ := bytes_of_slice hv
 simp only [IntKind.lo, IntKind.hi] at s1 s2 t1 t2 k1 k2
 refine ⟨⟨au, sq, pv, st, kd, ky, vl, sg⟩, ?_, { au := ⟨u1, u2⟩, seq := ⟨s1, by dsimp only; omega⟩, prev := ⟨v1, v2⟩, stamp := ⟨t1, by dsimp only; omega⟩, kind := ⟨k1, by dsimp only; omega⟩, key := ⟨y1, y2⟩, val := ⟨w1, w2⟩, sig := ⟨g1, g2⟩ }⟩
 unfold entC
 rw [c32_eq u2, c32_eq v2, c64_eq g2]
 simp
def PrfO (p : Prf) : Prop := EntOk p.a ∧ EntOk p.b
theorem prf_of_ty {n : Nat} {y : List AV} (h : TyL TT (n + 5) 32 y) : ∃ e : Prf, y = prfC e ∧ PrfO e := by
 obtain ⟨ys, rfl, a, r, rfl, ha, b, r', rfl, hb, rfl⟩ := h
 obtain ⟨e, rfl, h1⟩ := ent_of_ty ha
 obtain ⟨f, rfl, h2⟩ := ent_of_ty hb
 exact ⟨⟨e, f⟩, by simp [prfC], h1, h2⟩
end
section

theorem mod_len (cut : Int) {n : Nat} (hn : 0 < n) : ∃ c : Nat, (cut % 18446744073709551616).tmod (n : Int) = c ∧ c < n := by
 have h0 : 0 ≤ cut % 18446744073709551616 := by omega
 have a := Int.tmod_nonneg (n : Int) h0
 have b := Int.tmod_lt_of_pos (cut % 18446744073709551616) (show (0 : Int) < n by omega)
 exact ⟨((cut % 18446744073709551616).tmod (n : Int)).toNat, by omega, by omega⟩
theorem entS_of1 {e : Ent} (h : EntOk e) (hv : heavyEs [e] = false) : EntS e := by
 have := (heavyEs_no hv).2 e (by simp)
 exact { h with key' := by omega, val' := by omega }
theorem entS_of2 {a b : Ent} (ha : EntOk a) (hb : EntOk b) (hv : heavyEs [a, b] = false) : EntS a ∧ EntS b := by
 have h1 := (heavyEs_no hv).2 a (by simp)
 have h2 := (heavyEs_no hv).2 b (by simp)
 exact ⟨{ ha with key' := by omega, val' := by omega }, { hb with key' := by omega, val' := by omega }⟩
theorem entB_no {e : Ent} (h : entR e = false) : entB e = ([], 1) := by unfold entB; rw [h]; rfl
theorem entB_ok0 {e : Ent} (he : EntS e) (h : entR e = true) : (entB e).2 = 0 := by rw [entB_yes' he h]
theorem c32_of {l : List Int} (h : l.length = 32) : bys l = c32 l [] := by rw [c32_eq h, List.append_nil]
theorem a32_of_ty {n : Nat} {y : List AV} (h : TyL TT (n + 2) 22 y) : ∃ l : List Int, y = c32 l [] ∧ (Byt l ∧ l.length = 32) := by
 obtain ⟨l, h1, h2, h3⟩ := arr32_of_ty h
 exact ⟨l, by rw [h1, c32_of h3], h2, h3⟩
end
section
--KR
attribute [local irreducible] ifB fitP Does Weaker
end
section
--KR
attribute [local irreducible] ifB fitP Does Weaker
theorem c32_one_dems {H : Heap} {x : List Int} {zs : List AV} {K : List Nat → Prop} (hz : zs = c32 x []) (h : K []) : demsP H [.agg (c32 x [])] [.agg zs] K := by
 subst hz
 simp only [demsP, demP]
 refine c32_dems ?_
 simpa only [demsP, and_self, true_and, List.nil_append] using h
def MRd : FuncId → List Mode := orElse [(28, [.rd]), (27, [.rd]), (71, [.rd]), (26, [.rd])] MRow
section
attribute [local irreducible] demsP
set_option maxRecDepth 20000 in
set_option maxHeartbeats 1000000 in
theorem refid_ok (e : Ent) (he : EntS e) (hr : entR e = true) : ACall Tryz.prog 28 [.agg (entC e)] (.agg (c32 (shaL (entB e).1) [])) [] := by
 have hb := (refebytes_ok e he).roRes
 have hB := entB_yes' he hr
 have y1 := entB_byt he
 have hq : entB e = encR validR (entTs e) := by unfold entB; rw [hr]; rfl
 rw [← hq] at hb
 have hs := rsha_ok (entB e).1 y1.1 (by omega)
 have ls := shaL_len (entB e).1
 clear hB y1 hq
 generalize (entB e).1 = x at hb hs ls ⊢
 generalize shaL x = i at hs ls ⊢
 refine ACall.of_does TTok Tryz.func28 rfl Tryz.call28 rfl (wpc_sound (M := MRd) (PL := PL0) (CU := cutAt [100001, 99999]) TTok mixed _ _ _ ?_)
 conv => whnf
 repeat ((refine ⟨rfl, ?_⟩); conv => whnf)
 refine Does.freeze 0 rfl (Does.tidy [(1, .rop (entC e)), (2, .ptr 1 0)] [(1, c32 z32 [])] 2 6 rfl rfl rfl (by kernel_rfl) (by kernel_rfl) ?_)
 refine wpc_sound (M := MRd) (PL := PL0) (CU := noCut) TTok mixed _ _ _ ?_
 conv => whnf
 repeat ((first | refine ⟨entC_pure _, ?_⟩ | refine ⟨rfl, ?_⟩ | refine ⟨_, rfl, ?_⟩); conv => whnf)
 refine ⟨_, _, hb, by first | rfl | simp [noRoIf, noRoL, noRoV, noRoL_bys], ?_⟩
 conv => whnf
 repeat ((first | refine ⟨pureL_bys _, ?_⟩ | refine ⟨rfl, ?_⟩); conv => whnf)
 refine ⟨_, _, hs, by first | rfl | simp [noRoIf, noRoL, noRoV, noRoL_bys], ?_⟩
 conv => whnf
 repeat ((refine ⟨(⟨by kernel_rfl, by kernel_rfl, Nat.le_of_ble_eq_true (by kernel_rfl)⟩ : AV.ones _ = true ∧ _ ∧ _), ?_⟩); conv => whnf)
 refine Does.tidy [(2, .ptr 1 0)] [(1, c32 i [])] 2 6 rfl rfl rfl (by kernel_rfl) (by kernel_rfl) ?_
 refine wpc_sound (M := MRd) (PL := PL0) (CU := noCut) TTok mixed _ _ _ ?_
 conv => whnf
 refine ⟨c32 i [], by kernel_rfl, ?_⟩
 conv => whnf
 exact c32_one_dems rfl rfl
end
end
section
--KR
attribute [local irreducible] ifB fitP Does Weaker
theorem pf_dems1 {H : Heap} {p : Prf} {zs : List AV} {K : List Nat → Prop} (hz : zs = prfC p) (h : K []) : demsP H [.agg (prfC p)] [.agg zs] K := by
 subst hz
 simp only [demsP, demP]
 refine ent_dems' p.a ?_
 refine ent_dems p.b ?_
 simpa only [and_self, true_and, List.nil_append] using h
def PLpt : Nat → Bool × Plan := plans [(1, (false, (takesTo [0, 1, 3, 4] (.all [(2, (.all [(5, (takesTo [6] (.all [(7, .done)])))]))]))))]
section
attribute [local irreducible] demsP
set_option maxRecDepth 20000 in
set_option maxHeartbeats 4000000 in
theorem ptwin_ok (p : Prf) (hp : PrfS p) : ACall Tryz.prog 47 [.agg (prfC p)] (.agg (prfC p)) [] := by
 have h1 := etwin_ok p.a hp.a
 have h2 := etwin_ok p.b hp.b
 refine ACall.of_does TTok Tryz.func47 rfl Tryz.call47 rfl (wpc_sound (M := MRow) (PL := PLpt) (CU := cutAt [100001, 99999]) TTok mixed _ _ _ ?_)
 conv => whnf
 repeat ((refine ⟨rfl, ?_⟩); conv => whnf)
 refine Does.freeze 0 rfl (Does.tidy [(1, .rop (prfC p)), (2, .ptr 1 0)] [(1, zeroE ++ zeroE)] 2 10 rfl rfl rfl (by kernel_rfl) (by kernel_rfl) ?_)
 refine wpc_sound (M := MRow) (PL := PLpt) (CU := noCut) TTok mixed _ _ _ ?_
 conv => whnf
 refine ⟨by kernel_rfl, ?_⟩
 conv => whnf
 repeat ((first | refine ⟨entC_pure _, ?_⟩ | refine ⟨rfl, ?_⟩ | refine ⟨_, rfl, ?_⟩); conv => whnf)
 refine ⟨_, _, h1, by first | rfl | simp [noRoIf, noRoL, noRoV, noRoL_bys], ?_⟩
 conv => whnf
 repeat ((first | refine ⟨entC_pure _, ?_⟩ | refine ⟨rfl, ?_⟩); conv => whnf)
 refine ⟨_, _, h2, by first | rfl | simp [noRoIf, noRoL, noRoV, noRoL_bys], ?_⟩
 conv => whnf
 repeat ((first | refine ⟨(⟨by kernel_rfl, by kernel_rfl, Nat.le_of_ble_eq_true (by kernel_rfl)⟩ : AV.ones _ = true ∧ _ ∧ _), ?_⟩ | refine ⟨⟨rfl, rfl⟩, ?_⟩); conv => whnf)
 refine Does.tidy [(2, .ptr 1 0)] [(1, prfC p)] 2 10 rfl rfl rfl (by kernel_rfl) (by kernel_rfl) ?_
 refine wpc_sound (M := MRow) (PL := PLpt) (CU := noCut) TTok mixed _ _ _ ?_
 conv => whnf
 refine ⟨prfC p, by kernel_rfl, ?_⟩
 conv => whnf
 refine pf_dems1 (by kernel_rfl) ?_
 rfl
end
end
section
--KR
attribute [local irreducible] ifB fitP Does Weaker
def w2 (k : Int) : Ent := ⟨z32, 1, z32, 0, 1, [k], [], z64⟩
theorem signE_au (s : List Int) (e : Ent) : (signE s e).au = shaL (1 :: s) := by unfold signE; rw [sigE_au, auE_au]
theorem sigE_seq (s : List Int) (e : Ent) : (sigE s e).seq = e.seq := rfl
theorem auE_seq (s : List Int) (e : Ent) : (auE s e).seq = e.seq := rfl
theorem signE_seq (s : List Int) (e : Ent) : (signE s e).seq = e.seq := by unfold signE; rw [sigE_seq, auE_seq]
end
section
--KR
attribute [local irreducible] ifB fitP Does Weaker
end
section
--KR
attribute [local irreducible] ifB fitP Does Weaker
end
section

end
section
--KR
attribute [local irreducible] ifB fitP Does Weaker
theorem ent0_S2 : EntS ent0 where
 au := ⟨fun x hx => by rw [show ent0.au = List.replicate 32 0 from rfl, List.mem_replicate] at hx; omega, rfl⟩
 seq := by simp [ent0]
 prev := ⟨fun x hx => by rw [show ent0.prev = List.replicate 32 0 from rfl, List.mem_replicate] at hx; omega, rfl⟩
 stamp := by simp [ent0]
 kind := by simp [ent0]
 key := by simp [ent0, Byt]
 val := by simp [ent0, Byt]
 sig := ⟨fun x hx => by rw [show ent0.sig = List.replicate 64 0 from rfl, List.mem_replicate] at hx; omega, rfl⟩
 key' := by simp [ent0]
 val' := by simp [ent0]
theorem prf0_args {g : FuncId} {m : Prf} {r : AV} (h : ACall Tryz.prog g [.agg (prfC m), .agg (prfC prf0)] r []) : ACall Tryz.prog g [.agg (prfC m), .agg (zeroE ++ zeroE)] r [] :=
 h.les (by simp [pureL, pureV, prfC_pure, pureL_app, zeroE, entV, c32_pure, c64_pure]) (by simp only [pureL, pureV, prfC_pure]; rfl) ⟨lesP_app'' (lesP_ent m.a rfl) (lesP_ent m.b rfl), lesP_app'' (entV_les rfl) (entV_les rfl), trivial⟩
end
section
--KR
attribute [local irreducible] ifB fitP Does Weaker
structure Fd where
 au : List Int
 es : List Ent
 shut : Bool
 pf : Prf
 deriving DecidableEq
def fdC (f : Fd) : List AV := c32 f.au (.ro f.es.length (rowsC entC f.es) :: .bool f.shut :: prfC f.pf)
structure FdS (f : Fd) : Prop where
 au : Byt f.au ∧ f.au.length = 32
 es : ∀ e ∈ f.es, EntS e
 pf : PrfS f.pf
 el : f.es.length ≤ 1000000000
def okE (au : List Int) (i : Nat) (last : List Int) (e : Ent) : Bool := entR e && decide (e.au = au) && decide (e.seq = (i : Int) + 1) && decide (e.prev = last)
def folGo (au : List Int) : Nat → List Int → List Ent → List Int × Bool
 | _, last, [] => (last, true)
 | i, last, e :: r => if okE au i last e = true then folGo au (i + 1) (shaL (entB e).1) r else (last, false)
def folL (au : List Int) (l : List Ent) : List Int × Bool := if 200 < l.length then (z32, false) else folGo au 0 z32 l
theorem c32_bool_dems {H : Heap} {x : List Int} {n : Bool} {zs : List AV} {K : List Nat → Prop} (hz : zs = c32 x []) (h : K []) : demsP H [.tuple [.agg (c32 x []), .bool n]] [.tuple [.agg zs, .bool n]] K := by
 subst hz
 simp only [demsP, demP]
 refine c32_dems ?_
 simpa only [demsP, and_self, true_and, List.nil_append] using h
def MFd : FuncId → List Mode := orElse [(98, [.rd]), (97, [.rd, .rd]), (75, [.rd]), (31, [.rd]), (40, [.rd]), (41, [.rd, .rd]), (73, [.rd]), (29, [.rd, .rd]), (72, [.rd, .rd]),
 (35, [.rd]), (36, [.rd]), (42, [.rd, .rd]), (30, [.rd, .rd]), (38, [.rd]), (32, [.rd, .rd]), (76, [.rd]), (96, [.rd]), (34, [.rd]), (33, []), (95, [.rd, .rd])] MRd
section
attribute [local irreducible] demsP
set_option maxRecDepth 20000 in
set_option maxHeartbeats 2000000 in
theorem follows_ok (au : List Int) (l : List Ent) (ha : Byt au ∧ au.length = 32) (hl : ∀ e ∈ l, EntS e) (hn : l.length ≤ 1000000000) : ACall Tryz.prog 97 [.agg (c32 au []), .ro l.length (rowsC entC l)] (.tuple [.agg (c32 (folL au l).1 []), .bool (folL au l).2]) [] := by
 refine ACall.of_does TTok Tryz.func97 rfl Tryz.call97 rfl (wpc_sound (M := MFd) (PL := PL0) (CU := cutAt [100002, 99999]) TTok mixed _ _ _ ?_)
 conv => whnf
 repeat ((refine ⟨rfl, ?_⟩); conv => whnf)
 refine Does.freeze 0 rfl (Does.tidy [(1, .ro l.length (rowsC entC l)), (2, .rop (c32 au [])), (4, .ptr 1 0), (6, .ptr 2 0)] [(1, c32 z32 []), (2, c32 z32 [])] 3 52 rfl rfl rfl (by kernel_rfl) (by kernel_rfl) ?_)
 refine wpc_sound (M := MFd) (PL := PL0) (CU := cutAt [99999]) TTok mixed _ _ _ ?_
 by_cases c0 : 200 < l.length
 ·have hF : folL au l = (z32, false) := by unfold folL; rw [if_pos c0]
  rw [hF]
  conv => whnf
  repeat ((first | (refine ifB_pos (decide_eq_true (by first | omega | rfl | (dsimp only; omega))) ?_) | refine ⟨(⟨by kernel_rfl, by kernel_rfl, Nat.le_of_ble_eq_true (by kernel_rfl)⟩ : AV.ones _ = true ∧ _ ∧ _), ?_⟩ | refine ⟨_, rfl, ?_⟩); conv => whnf)
  refine Does.tidy [(4, .ptr 1 0), (5, .bool false)] [(1, c32 z32 []), (2, c32 z32 [])] 3 52 rfl rfl rfl (by kernel_rfl) (by kernel_rfl) ?_
  refine wpc_sound (M := MFd) (PL := PL0) (CU := noCut) TTok mixed _ _ _ ?_
  conv => whnf
  refine ⟨c32 z32 [], by kernel_rfl, ?_⟩
  conv => whnf
  refine c32_bool_dems (by kernel_rfl) ?_
  rfl
 have hF : folL au l = folGo au 0 z32 l := by unfold folL; rw [if_neg c0]
 rw [hF]
 clear hF
 conv => whnf
 repeat ((refine ifB_neg (decide_eq_false (by first | omega | rfl | (dsimp only; omega))) ?_); conv => whnf)
 refine Does.loop (fun g : Nat × List Int => mkSt [(2, .rop (c32 au [])), (4, .ptr 0 0), (6, .ptr 1 0), (15, .ro l.length (rowsC entC l)), (16, .int .i64 l.length), (17, .int .i64 g.1)] [(0, c32 z32 []), (1, c32 g.2 [])] 2 52)
  (fun g => g.1 ≤ l.length ∧ (Byt g.2 ∧ g.2.length = 32) ∧ folGo au g.1 g.2 (l.drop g.1) = folGo au 0 z32 l) (fun g => l.length - g.1) ?_ (0, z32) ⟨Nat.zero_le _, ⟨fun x hx => by simp only [z32, List.mem_replicate] at hx; omega, rfl⟩, rfl⟩ ?_
 ·rintro ⟨c, w⟩ ⟨hc, hw, hgo⟩
  dsimp only at hc hw hgo
  rw [← hgo]
  rcases Nat.lt_or_ge c l.length with c1 | c1
  ·have he := hl _ (List.getElem_mem c1)
   have hid := eid_ok l[c] he
   have hd : l.drop c = l[c] :: l.drop (c + 1) := List.drop_eq_getElem_cons c1
   rw [hd] at hgo ⊢
   have hx : folGo au c w (l[c] :: l.drop (c + 1)) = if okE au c w l[c] = true then folGo au (c + 1) (shaL (entB l[c]).1) (l.drop (c + 1)) else (w, false) := rfl
   rw [hx] at hgo ⊢
   clear hx hd
   refine wpc_sound (M := MFd) (PL := PL0) (CU := cutAt [100007, 100008, 100009, 100010, 99999]) TTok mixed _ _ _ ?_
   conv => whnf
   repeat ((first | (refine ifB_pos (decide_eq_true (by first | omega | rfl | (dsimp only; omega))) ?_) | (refine ⟨⟨?_, ?_, ?_⟩, ?_⟩; (focus omega); (focus (first | omega | (simp; done) | (simp; omega))); (focus (first | (rw [prfs_len]; simp; omega) | (rw [ents_len]; simp; omega) | (rw [hds_len]; simp; omega) | (rw [lets_len]; simp; omega))))); conv => whnf)
   refine ⟨_, takeN_row entC_length c1 (by simp; omega) rfl, ?_⟩
   conv => whnf
   repeat ((first | refine ⟨(⟨by kernel_rfl, by kernel_rfl, Nat.le_of_ble_eq_true (by kernel_rfl)⟩ : AV.ones _ = true ∧ _ ∧ _), ?_⟩ | refine ⟨rfl, ?_⟩); conv => whnf)
   generalize l[c] = e at he hid hgo ⊢
   refine Does.tidy [(2, .rop (c32 au [])), (4, .ptr 0 0), (6, .ptr 1 0), (7, .int .i64 c), (8, .ptr 2 0), (15, .ro l.length (rowsC entC l)), (16, .int .i64 l.length), (17, .int .i64 c)] [(0, c32 z32 []), (1, c32 w []), (2, entC e)] 3 52 rfl rfl rfl (by kernel_rfl) (by kernel_rfl) ?_
   refine Does.freeze 2 rfl (Does.tidy [(2, .rop (c32 au [])), (4, .ptr 0 0), (6, .ptr 1 0), (7, .int .i64 c), (8, .rop (entC e)), (15, .ro l.length (rowsC entC l)), (16, .int .i64 l.length), (17, .int .i64 c)] [(0, c32 z32 []), (1, c32 w [])] 3 52 rfl rfl rfl (by kernel_rfl) (by kernel_rfl) ?_)
   refine wpc_sound (M := MFd) (PL := PL0) (CU := cutAt [100008, 100009, 100010, 99999]) TTok mixed _ _ _ ?_
   conv => whnf
   repeat ((first | refine ⟨entC_pure _, ?_⟩ | refine ⟨rfl, ?_⟩ | refine ⟨_, rfl, ?_⟩); conv => whnf)
   cases hr : entR e
   ·rw [show idE e = (z32, 1) by unfold idE; rw [hr]; rfl] at hid
    rw [show okE au c w e = false by unfold okE; rw [hr]; rfl, if_neg (by decide)]
    refine ⟨_, _, hid, by first | rfl | simp [noRoIf, noRoL, noRoV, noRoL_bys], ?_⟩
    conv => whnf
    repeat ((first | refine ⟨(⟨by kernel_rfl, by kernel_rfl, Nat.le_of_ble_eq_true (by kernel_rfl)⟩ : AV.ones _ = true ∧ _ ∧ _), ?_⟩ | refine ⟨rfl, ?_⟩); conv => whnf)
    refine Does.tidy [(2, .rop (c32 au [])), (4, .ptr 0 0), (6, .ptr 1 0), (7, .int .i64 c), (8, .rop (entC e)), (15, .ro l.length (rowsC entC l)), (16, .int .i64 l.length), (17, .int .i64 c), (9, .ptr 3 0), (10, .int .i64 1)] [(0, c32 z32 []), (1, c32 w []), (3, c32 z32 [])] 4 52 rfl rfl rfl (by kernel_rfl) (by kernel_rfl) ?_
    refine wpc_sound (M := MFd) (PL := PL0) (CU := cutAt [100009, 100010, 99999]) TTok mixed _ _ _ ?_
    conv => whnf
    repeat ((refine ifB_t ?_); conv => whnf)
    refine Does.tidy [(4, .ptr 0 0), (6, .ptr 1 0)] [(0, c32 z32 []), (1, c32 w []), (3, c32 z32 [])] 4 52 rfl rfl rfl (by kernel_rfl) (by kernel_rfl) ?_
    refine wpc_sound (M := MFd) (PL := PL0) (CU := cutAt [99999]) TTok mixed _ _ _ ?_
    conv => whnf
    repeat ((first | refine ⟨(⟨by kernel_rfl, by kernel_rfl, Nat.le_of_ble_eq_true (by kernel_rfl)⟩ : AV.ones _ = true ∧ _ ∧ _), ?_⟩ | refine ⟨_, rfl, ?_⟩); conv => whnf)
    refine Does.tidy [(4, .ptr 0 0), (5, .bool false)] [(0, c32 w []), (1, c32 w []), (3, c32 z32 [])] 4 52 rfl rfl rfl (by kernel_rfl) (by kernel_rfl) ?_
    refine wpc_sound (M := MFd) (PL := PL0) (CU := noCut) TTok mixed _ _ _ ?_
    conv => whnf
    refine ⟨c32 w [], by kernel_rfl, ?_⟩
    conv => whnf
    refine c32_bool_dems (by kernel_rfl) ?_
    rfl
   ·rw [show idE e = (shaL (entB e).1, 0) by unfold idE; rw [hr]; rfl] at hid
    have ls := shaL_len (entB e).1
    have lb := shaL_byt (entB e).1
    generalize shaL (entB e).1 = i at hid ls lb hgo ⊢
    refine ⟨_, _, hid, by first | rfl | simp [noRoIf, noRoL, noRoV, noRoL_bys], ?_⟩
    conv => whnf
    repeat ((first | refine ⟨(⟨by kernel_rfl, by kernel_rfl, Nat.le_of_ble_eq_true (by kernel_rfl)⟩ : AV.ones _ = true ∧ _ ∧ _), ?_⟩ | refine ⟨rfl, ?_⟩); conv => whnf)
    refine Does.tidy [(2, .rop (c32 au [])), (4, .ptr 0 0), (6, .ptr 1 0), (7, .int .i64 c), (8, .rop (entC e)), (15, .ro l.length (rowsC entC l)), (16, .int .i64 l.length), (17, .int .i64 c), (9, .ptr 3 0), (10, .int .i64 0)] [(0, c32 z32 []), (1, c32 w []), (3, c32 i [])] 4 52 rfl rfl rfl (by kernel_rfl) (by kernel_rfl) ?_
    refine wpc_sound (M := MFd) (PL := PL0) (CU := cutAt [100009, 100010, 99999]) TTok mixed _ _ _ ?_
    conv => whnf
    repeat ((first | refine ifB_f ?_ | refine ⟨_, rfl, ?_⟩); conv => whnf)
    refine ⟨e.au, au, ⟨rfl, c32_map he.au.2, c32_map ha.2, he.au.2, ha.2⟩, ?_⟩
    by_cases h1 : e.au = au
    case neg =>
     rw [df h1, show okE au c w e = false by unfold okE; rw [hr, df h1]; rfl, if_neg (by decide)]
     conv => whnf
     repeat ((first | refine ifB_t ?_ | refine ifB_f ?_); conv => whnf)
     refine Does.tidy [(4, .ptr 0 0), (6, .ptr 1 0)] [(0, c32 z32 []), (1, c32 w []), (3, c32 i [])] 4 52 rfl rfl rfl (by kernel_rfl) (by kernel_rfl) ?_
     refine wpc_sound (M := MFd) (PL := PL0) (CU := cutAt [99999]) TTok mixed _ _ _ ?_
     conv => whnf
     repeat ((first | refine ⟨(⟨by kernel_rfl, by kernel_rfl, Nat.le_of_ble_eq_true (by kernel_rfl)⟩ : AV.ones _ = true ∧ _ ∧ _), ?_⟩ | refine ⟨_, rfl, ?_⟩); conv => whnf)
     refine Does.tidy [(4, .ptr 0 0), (5, .bool false)] [(0, c32 w []), (1, c32 w []), (3, c32 i [])] 4 52 rfl rfl rfl (by kernel_rfl) (by kernel_rfl) ?_
     refine wpc_sound (M := MFd) (PL := PL0) (CU := noCut) TTok mixed _ _ _ ?_
     conv => whnf
     refine ⟨c32 w [], by kernel_rfl, ?_⟩
     conv => whnf
     refine c32_bool_dems (by kernel_rfl) ?_
     rfl
    rw [dt h1]
    by_cases h2 : e.seq = (c : Int) + 1
    case neg =>
     rw [show okE au c w e = false by unfold okE; rw [df h2]; simp, if_neg (by decide)]
     conv => whnf
     repeat ((first | refine ifB_t ?_ | refine ifB_f ?_ | (refine ifB_pos (decide_eq_true (by first | omega | rfl | (dsimp only; omega))) ?_) | (refine fit_i64 ⟨by first | omega | rfl | (dsimp only; omega), by first | omega | rfl | (dsimp only; omega)⟩ ?_) | refine ⟨_, rfl, ?_⟩); conv => whnf)
     refine Does.tidy [(4, .ptr 0 0), (6, .ptr 1 0)] [(0, c32 z32 []), (1, c32 w []), (3, c32 i [])] 4 52 rfl rfl rfl (by kernel_rfl) (by kernel_rfl) ?_
     refine wpc_sound (M := MFd) (PL := PL0) (CU := cutAt [99999]) TTok mixed _ _ _ ?_
     conv => whnf
     repeat ((first | refine ⟨(⟨by kernel_rfl, by kernel_rfl, Nat.le_of_ble_eq_true (by kernel_rfl)⟩ : AV.ones _ = true ∧ _ ∧ _), ?_⟩ | refine ⟨_, rfl, ?_⟩); conv => whnf)
     refine Does.tidy [(4, .ptr 0 0), (5, .bool false)] [(0, c32 w []), (1, c32 w []), (3, c32 i [])] 4 52 rfl rfl rfl (by kernel_rfl) (by kernel_rfl) ?_
     refine wpc_sound (M := MFd) (PL := PL0) (CU := noCut) TTok mixed _ _ _ ?_
     conv => whnf
     refine ⟨c32 w [], by kernel_rfl, ?_⟩
     conv => whnf
     refine c32_bool_dems (by kernel_rfl) ?_
     rfl
    conv => whnf
    repeat ((first | refine ifB_f ?_ | (refine ifB_neg (decide_eq_false (by first | omega | rfl | (dsimp only; omega))) ?_) | (refine fit_i64 ⟨by first | omega | rfl | (dsimp only; omega), by first | omega | rfl | (dsimp only; omega)⟩ ?_) | refine ⟨_, rfl, ?_⟩); conv => whnf)
    refine ⟨e.prev, w, ⟨rfl, c32_map he.prev.2, c32_map hw.2, he.prev.2, hw.2⟩, ?_⟩
    by_cases h3 : e.prev = w
    case neg =>
     rw [df h3, show okE au c w e = false by unfold okE; rw [df h3]; simp, if_neg (by decide)]
     conv => whnf
     repeat ((first | refine ifB_t ?_ | refine ifB_f ?_); conv => whnf)
     refine Does.tidy [(4, .ptr 0 0), (6, .ptr 1 0)] [(0, c32 z32 []), (1, c32 w []), (3, c32 i [])] 4 52 rfl rfl rfl (by kernel_rfl) (by kernel_rfl) ?_
     refine wpc_sound (M := MFd) (PL := PL0) (CU := cutAt [99999]) TTok mixed _ _ _ ?_
     conv => whnf
     repeat ((first | refine ⟨(⟨by kernel_rfl, by kernel_rfl, Nat.le_of_ble_eq_true (by kernel_rfl)⟩ : AV.ones _ = true ∧ _ ∧ _), ?_⟩ | refine ⟨_, rfl, ?_⟩); conv => whnf)
     refine Does.tidy [(4, .ptr 0 0), (5, .bool false)] [(0, c32 w []), (1, c32 w []), (3, c32 i [])] 4 52 rfl rfl rfl (by kernel_rfl) (by kernel_rfl) ?_
     refine wpc_sound (M := MFd) (PL := PL0) (CU := noCut) TTok mixed _ _ _ ?_
     conv => whnf
     refine ⟨c32 w [], by kernel_rfl, ?_⟩
     conv => whnf
     refine c32_bool_dems (by kernel_rfl) ?_
     rfl
    have ho : okE au c w e = true := by unfold okE; rw [hr, dt h1, dt h2, dt h3]; rfl
    rw [dt h3]
    rw [ho, if_pos rfl] at hgo ⊢
    conv => whnf
    repeat ((refine ifB_f ?_); conv => whnf)
    refine Does.tidy [(2, .rop (c32 au [])), (4, .ptr 0 0), (6, .ptr 1 0), (7, .int .i64 c), (8, .rop (entC e)), (15, .ro l.length (rowsC entC l)), (16, .int .i64 l.length), (17, .int .i64 c), (9, .ptr 3 0)] [(0, c32 z32 []), (1, c32 w []), (3, c32 i [])] 4 52 rfl rfl rfl (by kernel_rfl) (by kernel_rfl) ?_
    refine wpc_sound (M := MFd) (PL := PL0) (CU := noCut) TTok mixed _ _ _ ?_
    conv => whnf
    repeat ((first | (refine fit_i64 ⟨by first | omega | rfl | (dsimp only; omega), by first | omega | rfl | (dsimp only; omega)⟩ ?_) | refine ⟨(⟨by kernel_rfl, by kernel_rfl, Nat.le_of_ble_eq_true (by kernel_rfl)⟩ : AV.ones _ = true ∧ _ ∧ _), ?_⟩ | refine ⟨_, rfl, ?_⟩); conv => whnf)
    exact ⟨(c + 1, i), ⟨by dsimp only; omega, ⟨lb, ls⟩, rfl⟩, by dsimp only; omega, Weaker.trans (Weaker.tidy [(2, .rop (c32 au [])), (4, .ptr 0 0), (6, .ptr 1 0), (15, .ro l.length (rowsC entC l)), (16, .int .i64 l.length), (17, .int .i64 ((c : Int) + 1))] [(0, c32 z32 []), (1, c32 i []), (3, c32 i [])] 4 52 rfl rfl rfl (by kernel_rfl) (by kernel_rfl)) (weaker_of [(0, 0), (1, 1)] rfl rfl ⟨⟨rfl, by simp [c32_pure, pureL]⟩, ⟨rfl, rfl⟩, ⟨rfl, rfl⟩, ⟨rfl, rfl, ents_pure _⟩, ⟨rfl, rfl⟩, ⟨rfl, rfl⟩, trivial⟩ ⟨c32_les trivial, c32_les trivial, trivial⟩)⟩
  ·obtain rfl : c = l.length := by omega
   rw [List.drop_length]
   refine wpc_sound (M := MFd) (PL := PL0) (CU := noCut) TTok mixed _ _ _ ?_
   conv => whnf
   repeat ((first | (refine ifB_neg (decide_eq_false (by first | omega | rfl | (dsimp only; omega))) ?_) | refine ⟨(⟨by kernel_rfl, by kernel_rfl, Nat.le_of_ble_eq_true (by kernel_rfl)⟩ : AV.ones _ = true ∧ _ ∧ _), ?_⟩ | refine ⟨_, rfl, ?_⟩); conv => whnf)
   refine Does.tidy [(4, .ptr 0 0), (5, .bool true)] [(0, c32 w []), (1, c32 w [])] 2 52 rfl rfl rfl (by kernel_rfl) (by kernel_rfl) ?_
   refine wpc_sound (M := MFd) (PL := PL0) (CU := noCut) TTok mixed _ _ _ ?_
   conv => whnf
   refine ⟨c32 w [], by kernel_rfl, ?_⟩
   conv => whnf
   refine c32_bool_dems (by kernel_rfl) ?_
   rfl
 ·exact weaker_of [(0, 1), (1, 2)] rfl rfl ⟨⟨rfl, by simp [c32_pure, pureL]⟩, ⟨rfl, rfl⟩, ⟨rfl, rfl⟩, ⟨rfl, rfl, ents_pure _⟩, ⟨rfl, rfl⟩, ⟨rfl, rfl⟩, trivial⟩ ⟨c32_les trivial, c32_les trivial, trivial⟩
end
end
section
--KR
attribute [local irreducible] ifB fitP Does Weaker
def noneR (e : Ent) : Bool := decide (e.au = z32) && decide (e.seq = 0) && decide (e.prev = z32) && decide (e.stamp = 0) && decide (e.sig = z64) && decide (e.kind = 0) && decide (e.key = []) && decide (e.val = [])
set_option maxRecDepth 20000 in
set_option maxHeartbeats 2000000 in
theorem fnone_ok (e : Ent) (he : EntS e) : ACall Tryz.prog 98 [.agg (entC e)] (.bool (noneR e)) [] := by
 refine ACall.of_does TTok Tryz.func98 rfl Tryz.call98 rfl (wpc_sound (M := MFd) (PL := PL0) (CU := cutAt [100001, 100002]) TTok mixed _ _ _ ?_)
 conv => whnf
 repeat ((refine ⟨rfl, ?_⟩); conv => whnf)
 refine Does.freeze 0 rfl (Does.tidy [(1, .rop (entC e))] [] 1 48 rfl rfl rfl (by kernel_rfl) (by kernel_rfl) ?_)
 refine wpc_sound (M := MFd) (PL := PL0) (CU := cutAt [100002]) TTok mixed _ _ _ ?_
 conv => whnf
 repeat ((first | refine ⟨(⟨by kernel_rfl, by kernel_rfl, Nat.le_of_ble_eq_true (by kernel_rfl)⟩ : AV.ones _ = true ∧ _ ∧ _), ?_⟩ | refine ⟨rfl, ?_⟩ | refine ⟨_, rfl, ?_⟩); conv => whnf)
 refine Does.tidy [(1, .rop (entC e)), (3, .ptr 1 0)] [(1, [.int .i64 e.kind, .str e.key, .ro e.val.length (bys e.val)])] 2 48 rfl rfl rfl (by kernel_rfl) (by kernel_rfl) ?_
 refine wpc_sound (M := MFd) (PL := PL0) (CU := noCut) TTok mixed _ _ _ ?_
 conv => whnf
 repeat ((refine ⟨_, rfl, ?_⟩); conv => whnf)
 refine ⟨e.au, z32, ⟨rfl, c32_map he.au.2, by kernel_rfl, he.au.2, rfl⟩, ?_⟩
 by_cases h1 : e.au = z32
 case neg =>
  rw [show noneR e = false by unfold noneR; rw [df h1]; simp]
  rw [df h1]
  conv => whnf
  repeat ((first | refine ifB_f ?_ | refine ⟨rfl, ?_⟩); conv => whnf)
  rfl
 rw [dt h1]
 by_cases h2 : e.seq = 0
 case neg =>
  rw [show noneR e = false by unfold noneR; rw [df h2]; simp]
  conv => whnf
  repeat ((first | refine ifB_t ?_ | refine ifB_f ?_ | (refine ifB_neg (decide_eq_false (by first | omega | rfl | (dsimp only; omega))) ?_) | refine ⟨rfl, ?_⟩ | refine ⟨_, rfl, ?_⟩); conv => whnf)
  rfl
 conv => whnf
 repeat ((first | refine ifB_t ?_ | (refine ifB_pos (decide_eq_true (by first | omega | rfl | (dsimp only; omega))) ?_) | refine ⟨_, rfl, ?_⟩); conv => whnf)
 refine ⟨e.prev, z32, ⟨rfl, c32_map he.prev.2, by kernel_rfl, he.prev.2, rfl⟩, ?_⟩
 by_cases h3 : e.prev = z32
 case neg =>
  rw [show noneR e = false by unfold noneR; rw [df h3]; simp]
  rw [df h3]
  conv => whnf
  repeat ((first | refine ifB_t ?_ | refine ifB_f ?_ | refine ⟨rfl, ?_⟩); conv => whnf)
  rfl
 rw [dt h3]
 by_cases h4 : e.stamp = 0
 case neg =>
  rw [show noneR e = false by unfold noneR; rw [df h4]; simp]
  conv => whnf
  repeat ((first | refine ifB_t ?_ | refine ifB_f ?_ | (refine ifB_neg (decide_eq_false (by first | omega | rfl | (dsimp only; omega))) ?_) | refine ⟨rfl, ?_⟩ | refine ⟨_, rfl, ?_⟩); conv => whnf)
  rfl
 conv => whnf
 repeat ((first | refine ifB_t ?_ | (refine ifB_pos (decide_eq_true (by first | omega | rfl | (dsimp only; omega))) ?_) | refine ⟨_, rfl, ?_⟩); conv => whnf)
 refine ⟨e.sig, z64, ⟨rfl, c64_map he.sig.2, by kernel_rfl, he.sig.2, rfl⟩, ?_⟩
 by_cases h5 : e.sig = z64
 case neg =>
  rw [show noneR e = false by unfold noneR; rw [df h5]; simp]
  rw [df h5]
  conv => whnf
  repeat ((first | refine ifB_t ?_ | refine ifB_f ?_ | refine ⟨rfl, ?_⟩); conv => whnf)
  rfl
 rw [dt h5]
 by_cases h6 : e.kind = 0
 case neg =>
  rw [show noneR e = false by unfold noneR; rw [df h6]; simp]
  conv => whnf
  repeat ((first | refine ifB_t ?_ | refine ifB_f ?_ | (refine ifB_neg (decide_eq_false (by first | omega | rfl | (dsimp only; omega))) ?_) | refine ⟨rfl, ?_⟩ | refine ⟨_, rfl, ?_⟩); conv => whnf)
  rfl
 conv => whnf
 repeat ((first | refine ifB_t ?_ | (refine ifB_pos (decide_eq_true (by first | omega | rfl | (dsimp only; omega))) ?_) | refine ⟨_, rfl, ?_⟩); conv => whnf)
 by_cases h7 : e.key = []
 case neg =>
  rw [show noneR e = false by unfold noneR; rw [df h7]; simp]
  refine ifB_neg (decide_eq_false h7) ?_
  conv => whnf
  repeat ((first | refine ifB_f ?_ | refine ⟨rfl, ?_⟩); conv => whnf)
  rfl
 refine ifB_pos (decide_eq_true h7) ?_
 by_cases h8 : e.val = []
 case neg =>
  rw [show noneR e = false by unfold noneR; rw [df h8]; simp]
  have hv : e.val.length ≠ 0 := fun h => h8 (List.length_eq_zero_iff.1 h)
  conv => whnf
  repeat ((first | refine ifB_t ?_ | refine ⟨_, rfl, ?_⟩ | (refine And.intro ?_ ?_; (focus (first | (simp [limB, lenB, offB]; done) | (simp [limB, lenB, offB]; omega))))); conv => whnf)
  rfl
 have hv : e.val.length = 0 := by rw [h8]; rfl
 rw [show noneR e = true by unfold noneR; rw [dt h1, dt h2, dt h3, dt h4, dt h5, dt h6, dt h7, dt h8]; rfl]
 conv => whnf
 repeat ((first | refine ifB_t ?_ | refine ⟨_, rfl, ?_⟩ | (refine And.intro ?_ ?_; (focus (first | (simp [limB, lenB, offB]; done) | (simp [limB, lenB, offB]; omega))))); conv => whnf)
 rfl
theorem noneR_iff (e : Ent) : noneR e = decide (e = ent0) := by
 cases h : noneR e
 ·symm
  rw [decide_eq_false_iff_not]
  rintro rfl
  rw [show noneR ent0 = true by decide] at h
  cases h
 ·symm
  rw [decide_eq_true_iff]
  unfold noneR at h
  simp only [Bool.and_eq_true, decide_eq_true_eq] at h
  obtain ⟨⟨⟨⟨⟨⟨⟨h1, h2⟩, h3⟩, h4⟩, h5⟩, h6⟩, h7⟩, h8⟩ := h
  cases e
  dsimp only at h1 h2 h3 h4 h5 h6 h7 h8
  subst h1 h2 h3 h4 h5 h6 h7 h8
  rfl
def lookR (f : Fd) : Bool := (folL f.au f.es).2 && if f.shut = true then prfR f.pf && decide (f.pf.a.au = f.au) else decide (f.pf = prf0)
theorem fdC_pure (f : Fd) : pureL (fdC f) = true := by simp [fdC, c32_pure, pureL, pureV, ents_pure, prfC_pure]
theorem fdC_frz (i : Nat) (zs : List AV) (f : Fd) : frzL i zs (fdC f) = fdC f := by simp [fdC, c32_frz, frzL, frzV, prfC_frz]
section
attribute [local irreducible] demsP
set_option maxRecDepth 20000 in
set_option maxHeartbeats 2000000 in
theorem flook_ok (f : Fd) (hf : FdS f) : ACall Tryz.prog 75 [.agg (fdC f)] (.tuple [.agg (c32 (folL f.au f.es).1 []), .bool (lookR f)]) [] := by
 have h1 := follows_ok f.au f.es hf.au hf.es hf.el
 refine ACall.of_does TTok Tryz.func75 rfl Tryz.call75 rfl (wpc_sound (M := MFd) (PL := PL0) (CU := cutAt [100001, 100002, 100003, 100004, 100005, 99999]) TTok mixed _ _ _ ?_)
 conv => whnf
 repeat ((refine ⟨rfl, ?_⟩); conv => whnf)
 refine Does.freeze 0 rfl (Does.tidy [(1, .rop (fdC f)), (2, .ptr 1 0)] [(1, c32 z32 [])] 2 47 rfl rfl rfl (by kernel_rfl) (by kernel_rfl) ?_)
 refine wpc_sound (M := MFd) (PL := PL0) (CU := noCut) TTok mixed _ _ _ ?_
 conv => whnf
 repeat ((first | refine ⟨rfl, ?_⟩ | refine ⟨_, rfl, ?_⟩ | refine ⟨(show pureL (rowsC _ _) = true from by first | exact prfs_pure _ | exact ents_pure _ | exact hds_pure _ | exact lets_pure _), ?_⟩); conv => whnf)
 refine ⟨_, _, h1, by first | rfl | simp [noRoIf, noRoL, noRoV, noRoL_bys], ?_⟩
 conv => whnf
 repeat ((first | refine ⟨(⟨by kernel_rfl, by kernel_rfl, Nat.le_of_ble_eq_true (by kernel_rfl)⟩ : AV.ones _ = true ∧ _ ∧ _), ?_⟩ | refine ⟨rfl, ?_⟩); conv => whnf)
 have n1 := fnone_ok f.pf.a hf.pf.1
 have n2 := fnone_ok f.pf.b hf.pf.2
 have hck := check_proof_ok f.pf hf.pf
 rw [noneR_iff] at n1 n2
 have hp0 : decide (f.pf = prf0) = (decide (f.pf.a = ent0) && decide (f.pf.b = ent0)) := by
  by_cases e1 : f.pf.a = ent0
  ·by_cases e2 : f.pf.b = ent0
   ·rw [dt e1, dt e2, dt (show f.pf = prf0 from by
     cases hq : f.pf with
     | mk a b => rw [hq] at e1 e2; dsimp only at e1 e2; rw [e1, e2]; rfl)]
    rfl
   ·rw [df e2, df (fun h => e2 (by rw [h]; rfl)), Bool.and_false]
  ·rw [df e1, df (fun h => e1 (by rw [h]; rfl))]; rfl
 have hlk : lookR f = ((folL f.au f.es).2 && if f.shut = true then prfR f.pf && decide (f.pf.a.au = f.au) else (decide (f.pf.a = ent0) && decide (f.pf.b = ent0))) := by unfold lookR; rw [hp0]
 rw [hlk]
 clear hlk hp0 h1
 generalize folL f.au f.es = q
 obtain ⟨w, ok⟩ := q
 dsimp only
 refine Does.tidy [(1, .rop (fdC f)), (2, .ptr 1 0), (4, .ptr 2 0), (5, .bool ok)] [(1, c32 z32 []), (2, c32 w [])] 3 47 rfl rfl rfl (by kernel_rfl) (by kernel_rfl) ?_
 cases hs : f.shut
 ·rw [if_neg (by decide)]
  cases ok
  ·refine wpc_sound (M := MFd) (PL := PL0) (CU := noCut) TTok mixed _ _ _ ?_
   conv => whnf
   repeat ((refine ⟨_, rfl, ?_⟩); conv => whnf)
   rw [hs]
   conv => whnf
   repeat ((refine ifB_f ?_); conv => whnf)
   refine wpc_sound (M := MFd) (PL := PL0) (CU := noCut) TTok mixed _ _ _ ?_
   conv => whnf
   repeat ((refine ifB_f ?_); conv => whnf)
   refine Does.tidy [(2, .ptr 1 0), (4, .ptr 2 0), (5, .bool false)] [(1, c32 z32 []), (2, c32 w [])] 3 47 rfl rfl rfl (by kernel_rfl) (by kernel_rfl) ?_
   refine wpc_sound (M := MFd) (PL := PL0) (CU := cutAt [99999]) TTok mixed _ _ _ ?_
   conv => whnf
   repeat ((first | refine ⟨(⟨by kernel_rfl, by kernel_rfl, Nat.le_of_ble_eq_true (by kernel_rfl)⟩ : AV.ones _ = true ∧ _ ∧ _), ?_⟩ | refine ⟨_, rfl, ?_⟩); conv => whnf)
   refine Does.tidy [(2, .ptr 1 0), (3, .bool false)] [(1, c32 w []), (2, c32 w [])] 3 47 rfl rfl rfl (by kernel_rfl) (by kernel_rfl) ?_
   refine wpc_sound (M := MFd) (PL := PL0) (CU := noCut) TTok mixed _ _ _ ?_
   conv => whnf
   refine ⟨c32 w [], by kernel_rfl, ?_⟩
   conv => whnf
   refine c32_bool_dems (by kernel_rfl) ?_
   rfl
  ·refine wpc_sound (M := MFd) (PL := PL0) (CU := noCut) TTok mixed _ _ _ ?_
   conv => whnf
   repeat ((refine ⟨_, rfl, ?_⟩); conv => whnf)
   rw [hs]
   conv => whnf
   repeat ((refine ifB_f ?_); conv => whnf)
   refine wpc_sound (M := MFd) (PL := PL0) (CU := noCut) TTok mixed _ _ _ ?_
   conv => whnf
   repeat ((first | refine ifB_t ?_ | refine ⟨entC_pure _, ?_⟩ | refine ⟨rfl, ?_⟩ | refine ⟨_, rfl, ?_⟩); conv => whnf)
   generalize decide (f.pf.a = ent0) = b1 at n1 ⊢
   generalize decide (f.pf.b = ent0) = b2 at n2 ⊢
   cases b1
   ·refine ⟨_, _, n1, by first | rfl | simp [noRoIf, noRoL, noRoV, noRoL_bys], ?_⟩
    conv => whnf
    repeat ((first | refine ifB_t ?_ | refine ifB_f ?_); conv => whnf)
    refine Does.tidy [(2, .ptr 1 0), (4, .ptr 2 0), (5, .bool false)] [(1, c32 z32 []), (2, c32 w [])] 3 47 rfl rfl rfl (by kernel_rfl) (by kernel_rfl) ?_
    refine wpc_sound (M := MFd) (PL := PL0) (CU := cutAt [99999]) TTok mixed _ _ _ ?_
    conv => whnf
    repeat ((first | refine ⟨(⟨by kernel_rfl, by kernel_rfl, Nat.le_of_ble_eq_true (by kernel_rfl)⟩ : AV.ones _ = true ∧ _ ∧ _), ?_⟩ | refine ⟨_, rfl, ?_⟩); conv => whnf)
    refine Does.tidy [(2, .ptr 1 0), (3, .bool false)] [(1, c32 w []), (2, c32 w [])] 3 47 rfl rfl rfl (by kernel_rfl) (by kernel_rfl) ?_
    refine wpc_sound (M := MFd) (PL := PL0) (CU := noCut) TTok mixed _ _ _ ?_
    conv => whnf
    refine ⟨c32 w [], by kernel_rfl, ?_⟩
    conv => whnf
    refine c32_bool_dems (by kernel_rfl) ?_
    rfl
   refine ⟨_, _, n1, by first | rfl | simp [noRoIf, noRoL, noRoV, noRoL_bys], ?_⟩
   conv => whnf
   repeat ((first | refine ifB_t ?_ | refine ⟨entC_pure _, ?_⟩ | refine ⟨rfl, ?_⟩ | refine ⟨_, rfl, ?_⟩); conv => whnf)
   cases b2
   ·refine ⟨_, _, n2, by first | rfl | simp [noRoIf, noRoL, noRoV, noRoL_bys], ?_⟩
    conv => whnf
    repeat ((refine ifB_t ?_); conv => whnf)
    refine Does.tidy [(2, .ptr 1 0), (4, .ptr 2 0), (5, .bool false)] [(1, c32 z32 []), (2, c32 w [])] 3 47 rfl rfl rfl (by kernel_rfl) (by kernel_rfl) ?_
    refine wpc_sound (M := MFd) (PL := PL0) (CU := cutAt [99999]) TTok mixed _ _ _ ?_
    conv => whnf
    repeat ((first | refine ⟨(⟨by kernel_rfl, by kernel_rfl, Nat.le_of_ble_eq_true (by kernel_rfl)⟩ : AV.ones _ = true ∧ _ ∧ _), ?_⟩ | refine ⟨_, rfl, ?_⟩); conv => whnf)
    refine Does.tidy [(2, .ptr 1 0), (3, .bool false)] [(1, c32 w []), (2, c32 w [])] 3 47 rfl rfl rfl (by kernel_rfl) (by kernel_rfl) ?_
    refine wpc_sound (M := MFd) (PL := PL0) (CU := noCut) TTok mixed _ _ _ ?_
    conv => whnf
    refine ⟨c32 w [], by kernel_rfl, ?_⟩
    conv => whnf
    refine c32_bool_dems (by kernel_rfl) ?_
    rfl
   refine ⟨_, _, n2, by first | rfl | simp [noRoIf, noRoL, noRoV, noRoL_bys], ?_⟩
   conv => whnf
   repeat ((refine ifB_t ?_); conv => whnf)
   refine Does.tidy [(2, .ptr 1 0), (4, .ptr 2 0), (5, .bool true)] [(1, c32 z32 []), (2, c32 w [])] 3 47 rfl rfl rfl (by kernel_rfl) (by kernel_rfl) ?_
   refine wpc_sound (M := MFd) (PL := PL0) (CU := cutAt [99999]) TTok mixed _ _ _ ?_
   conv => whnf
   repeat ((first | refine ⟨(⟨by kernel_rfl, by kernel_rfl, Nat.le_of_ble_eq_true (by kernel_rfl)⟩ : AV.ones _ = true ∧ _ ∧ _), ?_⟩ | refine ⟨_, rfl, ?_⟩); conv => whnf)
   refine Does.tidy [(2, .ptr 1 0), (3, .bool true)] [(1, c32 w []), (2, c32 w [])] 3 47 rfl rfl rfl (by kernel_rfl) (by kernel_rfl) ?_
   refine wpc_sound (M := MFd) (PL := PL0) (CU := noCut) TTok mixed _ _ _ ?_
   conv => whnf
   refine ⟨c32 w [], by kernel_rfl, ?_⟩
   conv => whnf
   refine c32_bool_dems (by kernel_rfl) ?_
   rfl
 ·rw [if_pos rfl]
  cases ok
  ·refine wpc_sound (M := MFd) (PL := PL0) (CU := noCut) TTok mixed _ _ _ ?_
   conv => whnf
   repeat ((refine ⟨_, rfl, ?_⟩); conv => whnf)
   rw [hs]
   conv => whnf
   repeat ((refine ifB_t ?_); conv => whnf)
   refine wpc_sound (M := MFd) (PL := PL0) (CU := noCut) TTok mixed _ _ _ ?_
   conv => whnf
   repeat ((refine ifB_f ?_); conv => whnf)
   refine Does.tidy [(2, .ptr 1 0), (4, .ptr 2 0), (5, .bool false)] [(1, c32 z32 []), (2, c32 w [])] 3 47 rfl rfl rfl (by kernel_rfl) (by kernel_rfl) ?_
   refine wpc_sound (M := MFd) (PL := PL0) (CU := cutAt [99999]) TTok mixed _ _ _ ?_
   conv => whnf
   repeat ((first | refine ⟨(⟨by kernel_rfl, by kernel_rfl, Nat.le_of_ble_eq_true (by kernel_rfl)⟩ : AV.ones _ = true ∧ _ ∧ _), ?_⟩ | refine ⟨_, rfl, ?_⟩); conv => whnf)
   refine Does.tidy [(2, .ptr 1 0), (3, .bool false)] [(1, c32 w []), (2, c32 w [])] 3 47 rfl rfl rfl (by kernel_rfl) (by kernel_rfl) ?_
   refine wpc_sound (M := MFd) (PL := PL0) (CU := noCut) TTok mixed _ _ _ ?_
   conv => whnf
   refine ⟨c32 w [], by kernel_rfl, ?_⟩
   conv => whnf
   refine c32_bool_dems (by kernel_rfl) ?_
   rfl
  ·refine wpc_sound (M := MFd) (PL := PL0) (CU := noCut) TTok mixed _ _ _ ?_
   conv => whnf
   repeat ((refine ⟨_, rfl, ?_⟩); conv => whnf)
   rw [hs]
   conv => whnf
   repeat ((refine ifB_t ?_); conv => whnf)
   refine wpc_sound (M := MFd) (PL := PL0) (CU := noCut) TTok mixed _ _ _ ?_
   conv => whnf
   repeat ((first | refine ifB_t ?_ | refine ⟨rfl, ?_⟩ | refine ⟨_, rfl, ?_⟩ | (refine And.intro ?_ ?_; (focus (first | (simp only [pureL, pureV, pureL_bys, Bool.and_true, Bool.and_self]; done) | (simp only [pureL, pureV, pureL_bys, pureL_toks, Bool.and_true, Bool.and_self]; done))))); conv => whnf)
   cases hp : prfR f.pf <;> rw [hp] at hck
   ·refine ⟨_, _, hck, by first | rfl | simp [noRoIf, noRoL, noRoV, noRoL_bys], ?_⟩
    conv => whnf
    repeat ((first | refine ifB_t ?_ | refine ifB_f ?_); conv => whnf)
    refine Does.tidy [(2, .ptr 1 0), (4, .ptr 2 0), (5, .bool false)] [(1, c32 z32 []), (2, c32 w [])] 3 47 rfl rfl rfl (by kernel_rfl) (by kernel_rfl) ?_
    refine wpc_sound (M := MFd) (PL := PL0) (CU := cutAt [99999]) TTok mixed _ _ _ ?_
    conv => whnf
    repeat ((first | refine ⟨(⟨by kernel_rfl, by kernel_rfl, Nat.le_of_ble_eq_true (by kernel_rfl)⟩ : AV.ones _ = true ∧ _ ∧ _), ?_⟩ | refine ⟨_, rfl, ?_⟩); conv => whnf)
    refine Does.tidy [(2, .ptr 1 0), (3, .bool false)] [(1, c32 w []), (2, c32 w [])] 3 47 rfl rfl rfl (by kernel_rfl) (by kernel_rfl) ?_
    refine wpc_sound (M := MFd) (PL := PL0) (CU := noCut) TTok mixed _ _ _ ?_
    conv => whnf
    refine ⟨c32 w [], by kernel_rfl, ?_⟩
    conv => whnf
    refine c32_bool_dems (by kernel_rfl) ?_
    rfl
   refine ⟨_, _, hck, by first | rfl | simp [noRoIf, noRoL, noRoV, noRoL_bys], ?_⟩
   conv => whnf
   repeat ((first | refine ifB_t ?_ | refine ⟨_, rfl, ?_⟩); conv => whnf)
   refine ⟨f.pf.a.au, f.au, ⟨rfl, c32_map hf.pf.1.au.2, c32_map hf.au.2, hf.pf.1.au.2, hf.au.2⟩, ?_⟩
   by_cases h : f.pf.a.au = f.au
   ·rw [dt h]
    conv => whnf
    repeat ((refine ifB_t ?_); conv => whnf)
    refine Does.tidy [(2, .ptr 1 0), (4, .ptr 2 0), (5, .bool true)] [(1, c32 z32 []), (2, c32 w [])] 3 47 rfl rfl rfl (by kernel_rfl) (by kernel_rfl) ?_
    refine wpc_sound (M := MFd) (PL := PL0) (CU := cutAt [99999]) TTok mixed _ _ _ ?_
    conv => whnf
    repeat ((first | refine ⟨(⟨by kernel_rfl, by kernel_rfl, Nat.le_of_ble_eq_true (by kernel_rfl)⟩ : AV.ones _ = true ∧ _ ∧ _), ?_⟩ | refine ⟨_, rfl, ?_⟩); conv => whnf)
    refine Does.tidy [(2, .ptr 1 0), (3, .bool true)] [(1, c32 w []), (2, c32 w [])] 3 47 rfl rfl rfl (by kernel_rfl) (by kernel_rfl) ?_
    refine wpc_sound (M := MFd) (PL := PL0) (CU := noCut) TTok mixed _ _ _ ?_
    conv => whnf
    refine ⟨c32 w [], by kernel_rfl, ?_⟩
    conv => whnf
    refine c32_bool_dems (by kernel_rfl) ?_
    rfl
   ·rw [df h]
    conv => whnf
    repeat ((refine ifB_t ?_); conv => whnf)
    refine Does.tidy [(2, .ptr 1 0), (4, .ptr 2 0), (5, .bool false)] [(1, c32 z32 []), (2, c32 w [])] 3 47 rfl rfl rfl (by kernel_rfl) (by kernel_rfl) ?_
    refine wpc_sound (M := MFd) (PL := PL0) (CU := cutAt [99999]) TTok mixed _ _ _ ?_
    conv => whnf
    repeat ((first | refine ⟨(⟨by kernel_rfl, by kernel_rfl, Nat.le_of_ble_eq_true (by kernel_rfl)⟩ : AV.ones _ = true ∧ _ ∧ _), ?_⟩ | refine ⟨_, rfl, ?_⟩); conv => whnf)
    refine Does.tidy [(2, .ptr 1 0), (3, .bool false)] [(1, c32 w []), (2, c32 w [])] 3 47 rfl rfl rfl (by kernel_rfl) (by kernel_rfl) ?_
    refine wpc_sound (M := MFd) (PL := PL0) (CU := noCut) TTok mixed _ _ _ ?_
    conv => whnf
    refine ⟨c32 w [], by kernel_rfl, ?_⟩
    conv => whnf
    refine c32_bool_dems (by kernel_rfl) ?_
    rfl
end
end
section
--KR
attribute [local irreducible] ifB fitP Does Weaker
theorem int_c32_int_dems {H : Heap} {x : List Int} {m n : Int} {zs : List AV} {K : List Nat → Prop} (hz : zs = c32 x []) (h : K []) : demsP H [.tuple [.int .i64 m, .agg (c32 x []), .int .i64 n]] [.tuple [.int .i64 m, .agg zs, .int .i64 n]] K := by
 subst hz
 simp only [demsP, demP, and_self, true_and]
 refine c32_dems ?_
 simpa only [demsP, demP, and_self, true_and, List.nil_append] using h
set_option maxRecDepth 20000 in
set_option maxHeartbeats 1000000 in
theorem fcheck_ok (f : Fd) (hf : FdS f) : ACall Tryz.prog 31 [.agg (fdC f)] (.int .i64 (if lookR f then 0 else 1)) [] := by
 have h1 := flook_ok f hf
 generalize (folL f.au f.es).1 = w at h1
 refine ACall.of_does TTok Tryz.func31 rfl Tryz.call31 rfl (wpc_sound (M := MFd) (PL := PL0) (CU := cutAt [100001, 100002]) TTok mixed _ _ _ ?_)
 conv => whnf
 repeat ((refine ⟨rfl, ?_⟩); conv => whnf)
 refine Does.freeze 0 rfl (Does.tidy [(1, .rop (fdC f))] [] 1 12 rfl rfl rfl (by kernel_rfl) (by kernel_rfl) ?_)
 refine wpc_sound (M := MFd) (PL := PL0) (CU := noCut) TTok mixed _ _ _ ?_
 cases hl : lookR f <;> rw [hl] at h1
 ·conv => whnf
  repeat ((refine ⟨_, rfl, ?_⟩); conv => whnf)
  refine ⟨(show pureL _ = true from fdC_pure f), ?_⟩
  conv => whnf
  repeat ((refine ⟨rfl, ?_⟩); conv => whnf)
  refine ⟨_, _, h1, by first | rfl | simp [noRoIf, noRoL, noRoV, noRoL_bys], ?_⟩
  conv => whnf
  repeat ((first | refine ⟨(⟨by kernel_rfl, by kernel_rfl, Nat.le_of_ble_eq_true (by kernel_rfl)⟩ : AV.ones _ = true ∧ _ ∧ _), ?_⟩ | refine ⟨rfl, ?_⟩); conv => whnf)
  refine wpc_sound (M := MFd) (PL := PL0) (CU := noCut) TTok mixed _ _ _ ?_
  conv => whnf
  repeat ((first | refine ifB_t ?_ | refine ⟨⟨rfl, rfl⟩, ?_⟩); conv => whnf)
  rfl
 ·conv => whnf
  repeat ((refine ⟨_, rfl, ?_⟩); conv => whnf)
  refine ⟨(show pureL _ = true from fdC_pure f), ?_⟩
  conv => whnf
  repeat ((refine ⟨rfl, ?_⟩); conv => whnf)
  refine ⟨_, _, h1, by first | rfl | simp [noRoIf, noRoL, noRoV, noRoL_bys], ?_⟩
  conv => whnf
  repeat ((first | refine ⟨(⟨by kernel_rfl, by kernel_rfl, Nat.le_of_ble_eq_true (by kernel_rfl)⟩ : AV.ones _ = true ∧ _ ∧ _), ?_⟩ | refine ⟨rfl, ?_⟩); conv => whnf)
  refine wpc_sound (M := MFd) (PL := PL0) (CU := noCut) TTok mixed _ _ _ ?_
  conv => whnf
  repeat ((first | refine ifB_f ?_ | refine ⟨⟨rfl, rfl⟩, ?_⟩); conv => whnf)
  rfl
section
attribute [local irreducible] demsP
set_option maxRecDepth 20000 in
set_option maxHeartbeats 1000000 in
theorem flast_ok (f : Fd) (hf : FdS f) : ACall Tryz.prog 40 [.agg (fdC f)] (.tuple [.int .i64 (if lookR f then (f.es.length : Int) else 0), .agg (c32 (if lookR f then (folL f.au f.es).1 else z32) []), .int .i64 (if lookR f then 0 else 1)]) [] := by
 have h1 := flook_ok f hf
 generalize (folL f.au f.es).1 = w at h1 ⊢
 refine ACall.of_does TTok Tryz.func40 rfl Tryz.call40 rfl (wpc_sound (M := MFd) (PL := PL0) (CU := cutAt [100001, 100002, 100003, 100004, 99999]) TTok mixed _ _ _ ?_)
 conv => whnf
 repeat ((refine ⟨rfl, ?_⟩); conv => whnf)
 refine Does.freeze 0 rfl (Does.tidy [(1, .rop (fdC f)), (3, .ptr 1 0)] [(1, c32 z32 [])] 2 18 rfl rfl rfl (by kernel_rfl) (by kernel_rfl) ?_)
 refine wpc_sound (M := MFd) (PL := PL0) (CU := noCut) TTok mixed _ _ _ ?_
 cases hl : lookR f <;> rw [hl] at h1
 ·rw [if_neg (by decide), if_neg (by decide), if_neg (by decide)]
  conv => whnf
  repeat ((refine ⟨_, rfl, ?_⟩); conv => whnf)
  refine ⟨(show pureL _ = true from fdC_pure f), ?_⟩
  conv => whnf
  repeat ((refine ⟨rfl, ?_⟩); conv => whnf)
  refine ⟨_, _, h1, by first | rfl | simp [noRoIf, noRoL, noRoV, noRoL_bys], ?_⟩
  conv => whnf
  repeat ((refine ⟨(⟨by kernel_rfl, by kernel_rfl, Nat.le_of_ble_eq_true (by kernel_rfl)⟩ : AV.ones _ = true ∧ _ ∧ _), ?_⟩); conv => whnf)
  refine Does.tidy [(1, .rop (fdC f)), (3, .ptr 1 0), (5, .bool false)] [(1, c32 w [])] 2 18 rfl rfl rfl (by kernel_rfl) (by kernel_rfl) ?_
  refine wpc_sound (M := MFd) (PL := PL0) (CU := noCut) TTok mixed _ _ _ ?_
  conv => whnf
  repeat ((refine ifB_t ?_); conv => whnf)
  refine wpc_sound (M := MFd) (PL := PL0) (CU := noCut) TTok mixed _ _ _ ?_
  conv => whnf
  repeat ((refine ⟨(⟨by kernel_rfl, by kernel_rfl, Nat.le_of_ble_eq_true (by kernel_rfl)⟩ : AV.ones _ = true ∧ _ ∧ _), ?_⟩); conv => whnf)
  refine Does.tidy [(2, .int .i64 0), (3, .ptr 1 0), (4, .int .i64 1)] [(1, c32 z32 [])] 2 18 rfl rfl rfl (by kernel_rfl) (by kernel_rfl) ?_
  refine wpc_sound (M := MFd) (PL := PL0) (CU := noCut) TTok mixed _ _ _ ?_
  conv => whnf
  refine ⟨c32 z32 [], by kernel_rfl, ?_⟩
  conv => whnf
  refine int_c32_int_dems (by kernel_rfl) ?_
  rfl
 ·rw [if_pos rfl, if_pos rfl, if_pos rfl]
  conv => whnf
  repeat ((refine ⟨_, rfl, ?_⟩); conv => whnf)
  refine ⟨(show pureL _ = true from fdC_pure f), ?_⟩
  conv => whnf
  repeat ((refine ⟨rfl, ?_⟩); conv => whnf)
  refine ⟨_, _, h1, by first | rfl | simp [noRoIf, noRoL, noRoV, noRoL_bys], ?_⟩
  conv => whnf
  repeat ((refine ⟨(⟨by kernel_rfl, by kernel_rfl, Nat.le_of_ble_eq_true (by kernel_rfl)⟩ : AV.ones _ = true ∧ _ ∧ _), ?_⟩); conv => whnf)
  refine Does.tidy [(1, .rop (fdC f)), (3, .ptr 1 0), (5, .bool true)] [(1, c32 w [])] 2 18 rfl rfl rfl (by kernel_rfl) (by kernel_rfl) ?_
  refine wpc_sound (M := MFd) (PL := PL0) (CU := noCut) TTok mixed _ _ _ ?_
  conv => whnf
  repeat ((refine ifB_f ?_); conv => whnf)
  refine Does.quiet TTok mixed (M := MFd) [5] [1, 3] (takesTo [0, 1, 2, 3, 4] (.all [(5, (takes [6]))])) (by kernel_rfl) ?_
  conv => whnf
  repeat ((first | refine ⟨(⟨by kernel_rfl, by kernel_rfl, Nat.le_of_ble_eq_true (by kernel_rfl)⟩ : AV.ones _ = true ∧ _ ∧ _), ?_⟩ | refine ⟨_, rfl, ?_⟩); conv => whnf)
  refine Does.tidy [(2, .int .i64 f.es.length), (3, .ptr 1 0), (4, .int .i64 0)] [(1, c32 w [])] 2 18 rfl rfl rfl (by kernel_rfl) (by kernel_rfl) ?_
  refine wpc_sound (M := MFd) (PL := PL0) (CU := noCut) TTok mixed _ _ _ ?_
  conv => whnf
  refine ⟨c32 w [], by kernel_rfl, ?_⟩
  conv => whnf
  refine int_c32_int_dems (by kernel_rfl) ?_
  rfl
end
def PLeq : Nat → Bool × Plan := plans [(6, (true, takes [0, 1, 2, 3, 4, 5, 6, 7, 8]))]
set_option maxHeartbeats 1000000 in
theorem sequal_ok (x y : List Int) (lx : x.length ≤ 1000000000) (ly : y.length ≤ 1000000000) : ACall Tryz.prog 95 [.ro x.length (bys x), .ro y.length (bys y)] (.bool (decide (x = y))) [] := by
 refine ACall.of_does TTok Tryz.func95 rfl Tryz.call95 rfl (wpc_sound (M := MFd) (PL := PLeq) (CU := noCut) TTok mixed _ _ _ ?_)
 by_cases c0 : x.length = y.length
 case neg =>
  rw [df (show ¬ x = y from fun e => c0 (by rw [e]))]
  conv => whnf
  repeat ((first | (refine ifB_pos (decide_eq_true (by first | omega | rfl | (dsimp only; omega))) ?_) | refine ⟨rfl, ?_⟩); conv => whnf)
  rfl
 conv => whnf
 repeat ((refine ifB_neg (decide_eq_false (by first | omega | rfl | (dsimp only; omega))) ?_); conv => whnf)
 refine Does.loop (fun c : Nat => mkSt [(0, .ro x.length (bys x)), (1, .ro y.length (bys y)), (12, .int .i64 x.length), (13, .int .i64 c)] [] 0 26) (fun c => c ≤ x.length ∧ x.take c = y.take c) (fun c => x.length - c) ?_ 0 ⟨Nat.zero_le _, by simp⟩ ?_
 ·rintro c ⟨hc, ht⟩
  refine wpc_sound (M := MFd) (PL := PLeq) (CU := noCut) TTok mixed _ _ _ ?_
  rcases Nat.lt_or_ge c x.length with c1 | c1
  ·have c2 : c < y.length := by omega
   conv => whnf
   repeat ((refine ifB_pos (decide_eq_true (by first | omega | rfl | (dsimp only; omega))) ?_); conv => whnf)
   refine ⟨by kernel_rfl, ?_⟩
   conv => whnf
   repeat ((refine ⟨⟨?_, ?_, ?_⟩, ?_⟩; (focus omega); (focus (first | omega | (simp; done) | (simp; omega))); (focus (first | (simp; done) | (simp; omega) | (rw [toksC_length]; simp; omega)))); conv => whnf)
   refine ⟨_, get_bysM c1 (by simp), ?_⟩
   conv => whnf
   repeat ((refine ⟨⟨?_, ?_, ?_⟩, ?_⟩; (focus omega); (focus (first | omega | (simp; done) | (simp; omega))); (focus (first | (simp; done) | (simp; omega) | (rw [toksC_length]; simp; omega)))); conv => whnf)
   refine ⟨_, get_bysM c2 (by simp), ?_⟩
   conv => whnf
   by_cases c3 : x[c] = y[c]
   ·conv => whnf
    repeat ((first | (refine ifB_neg (decide_eq_false (by first | omega | rfl | (dsimp only; omega))) ?_) | (refine fit_i64 ⟨by first | omega | rfl | (dsimp only; omega), by first | omega | rfl | (dsimp only; omega)⟩ ?_)); conv => whnf)
    refine ⟨c + 1, ⟨by omega, ?_⟩, by omega, weaker_of [] rfl rfl ⟨⟨rfl, rfl, pureL_bys _⟩, ⟨rfl, rfl, pureL_bys _⟩, ⟨rfl, rfl⟩, ⟨rfl, rfl⟩, trivial⟩ trivial⟩
    rw [List.take_succ_eq_append_getElem c1, List.take_succ_eq_append_getElem c2, ht, c3]
   ·rw [df (show ¬ x = y from fun e => c3 (by subst e; rfl))]
    conv => whnf
    repeat ((first | (refine ifB_pos (decide_eq_true (by first | omega | rfl | (dsimp only; omega))) ?_) | refine ⟨rfl, ?_⟩); conv => whnf)
    rfl
  ·obtain rfl : c = x.length := by omega
   rw [dt (show x = y by rw [List.take_of_length_le (by omega), List.take_of_length_le (by omega)] at ht; exact ht)]
   conv => whnf
   repeat ((first | (refine ifB_neg (decide_eq_false (by first | omega | rfl | (dsimp only; omega))) ?_) | refine ⟨rfl, ?_⟩); conv => whnf)
   rfl
 ·exact weaker_of [] rfl rfl ⟨⟨rfl, rfl, pureL_bys _⟩, ⟨rfl, rfl, pureL_bys _⟩, ⟨rfl, rfl⟩, ⟨rfl, rfl⟩, trivial⟩ trivial
set_option maxRecDepth 20000 in
set_option maxHeartbeats 1000000 in
theorem fsame_ok (a b : Ent) (ha : EntS a) (hb : EntS b) (ra : entR a = true) (rb : entR b = true) : ACall Tryz.prog 72 [.agg (entC a), .agg (entC b)] (.bool (decide (a = b))) [] := by
 have h1 := (ebytes_ok a ha).roRes2 (.inl ⟨_, _, rfl⟩)
 have h2 := (ebytes_ok b hb).roRes2 (.inl ⟨_, _, rfl⟩)
 have inj := entB_inj ha hb (entB_ok0 ha ra) (entB_ok0 hb rb)
 rw [show entB a = ((entB a).1, 0) by rw [entB_yes' ha ra]] at h1
 rw [show entB b = ((entB b).1, 0) by rw [entB_yes' hb rb]] at h2
 rw [← inj]
 refine ACall.of_does TTok Tryz.func72 rfl Tryz.call72 rfl (wpc_sound (M := MFd) (PL := PL0) (CU := cutAt [100001]) TTok mixed _ _ _ ?_)
 conv => whnf
 repeat ((refine ⟨rfl, ?_⟩); conv => whnf)
 refine Does.freeze 0 rfl (Does.freeze 1 (zs := entC b) (by show some (frzL 0 _ (entC b)) = _; rw [entC_frz]) (Does.tidy [(2, .rop (entC a)), (3, .rop (entC b))] [] 2 30 rfl rfl rfl (by kernel_rfl) (by kernel_rfl) ?_))
 refine wpc_sound (M := MFd) (PL := PL0) (CU := noCut) TTok mixed _ _ _ ?_
 conv => whnf
 repeat ((first | refine ⟨entC_pure _, ?_⟩ | refine ⟨rfl, ?_⟩ | refine ⟨_, rfl, ?_⟩); conv => whnf)
 refine ⟨_, _, h1, by first | rfl | simp [noRoIf, noRoL, noRoV, noRoL_bys], ?_⟩
 conv => whnf
 repeat ((first | refine ⟨entC_pure _, ?_⟩ | refine ⟨rfl, ?_⟩ | refine ⟨_, rfl, ?_⟩); conv => whnf)
 refine ⟨_, _, h2, by first | rfl | simp [noRoIf, noRoL, noRoV, noRoL_bys], ?_⟩
 conv => whnf
 repeat ((first | refine ifB_t ?_ | refine ⟨pureL_bys _, ?_⟩ | refine ⟨rfl, ?_⟩); conv => whnf)
 refine ⟨_, _, sequal_ok (entB a).1 (entB b).1 (by have := (entB_byt ha).2; omega) (by have := (entB_byt hb).2; omega), by first | rfl | simp [noRoIf, noRoL, noRoV, noRoL_bys], ?_⟩
 conv => whnf
 repeat ((first | refine ifB_t ?_ | refine ⟨rfl, ?_⟩); conv => whnf)
 rfl
end
section
--KR
attribute [local irreducible] ifB fitP Does Weaker
set_option maxRecDepth 20000 in
set_option maxHeartbeats 1000000 in
theorem etwins_ok (l : List Ent) (hl : ∀ e ∈ l, EntS e) (hn : l.length ≤ 100000) : ACall Tryz.prog 96 [.ro l.length (rowsC entC l)] (.own l.length 133 (rowsC entC l)) [] := by
 refine ACall.of_does TTok Tryz.func96 rfl Tryz.call96 rfl (wpc_sound (M := MFd) (PL := PL0) (CU := noCut) TTok mixed _ _ _ ?_)
 conv => whnf
 refine Does.loop (fun c : Nat => mkSt [(3, .sl 0 0 c 133 false), (6, .ro l.length (rowsC entC l)), (7, .int .i64 l.length), (8, .int .i64 c)] [(0, rowsC entC (l.take c))] 1 19) (fun c => c ≤ l.length) (fun c => l.length - c) ?_ 0 (Nat.zero_le _) ?_
 ·intro c hc
  have hL : (rowsC entC (l.take c)).length = 133 * c := by rw [ents_len, List.length_take, Nat.min_eq_left hc]
  rcases Nat.lt_or_ge c l.length with c1 | c1
  ·have he := hl _ (List.getElem_mem c1)
   have ht := etwin_ok l[c] he
   have hs : l.take (c + 1) = l.take c ++ [l[c]] := List.take_succ_eq_append_getElem c1
   refine wpc_sound (M := MFd) (PL := PL0) (CU := cutAt [100005]) TTok mixed _ _ _ ?_
   conv => whnf
   repeat ((first | (refine ifB_pos (decide_eq_true (by first | omega | rfl | (dsimp only; omega))) ?_) | (refine ⟨⟨?_, ?_, ?_⟩, ?_⟩; (focus omega); (focus (first | omega | (simp; done) | (simp; omega))); (focus (first | (rw [prfs_len]; simp; omega) | (rw [ents_len]; simp; omega) | (rw [hds_len]; simp; omega) | (rw [lets_len]; simp; omega))))); conv => whnf)
   refine ⟨_, takeN_row entC_length c1 (by simp; omega) rfl, ?_⟩
   conv => whnf
   repeat ((first | refine ⟨(⟨by kernel_rfl, by kernel_rfl, Nat.le_of_ble_eq_true (by kernel_rfl)⟩ : AV.ones _ = true ∧ _ ∧ _), ?_⟩ | refine ⟨rfl, ?_⟩); conv => whnf)
   generalize l[c] = e at ht hs ⊢
   refine Does.tidy [(3, .sl 0 0 c 133 false), (5, .ptr 1 0), (6, .ro l.length (rowsC entC l)), (7, .int .i64 l.length), (8, .int .i64 c)] [(0, rowsC entC (l.take c)), (1, entC e)] 2 19 rfl rfl rfl (by kernel_rfl) (by kernel_rfl) ?_
   refine wpc_sound (M := MFd) (PL := PL0) (CU := noCut) TTok mixed _ _ _ ?_
   conv => whnf
   repeat ((first | refine ⟨entC_pure _, ?_⟩ | refine ⟨rfl, ?_⟩ | refine ⟨_, rfl, ?_⟩); conv => whnf)
   refine ⟨_, _, ht, by first | rfl | simp [noRoIf, noRoL, noRoV, noRoL_bys], ?_⟩
   conv => whnf
   repeat ((first | (refine fit_i64 ⟨by first | omega | rfl | (dsimp only; omega), by first | omega | rfl | (dsimp only; omega)⟩ ?_) | (refine Or.inl ⟨⟨rfl, ?_⟩, ?_⟩; (focus (first | rfl | (simp; done) | (rw [toksC_length]; omega)))) | refine ⟨rfl, ?_⟩ | refine ⟨⟨rfl, rfl⟩, ?_⟩ | (refine And.intro ?_ ?_; (focus (first | (simp [limB, lenB, offB]; done) | (simp [limB, lenB, offB]; omega))))); conv => whnf)
   refine ⟨c + 1, by omega, by omega, weaker_of [(0, 3)] rfl rfl ⟨⟨rfl, rfl, rfl, rfl, fun h => h⟩, ⟨rfl, rfl, ents_pure _⟩, ⟨rfl, rfl⟩, ⟨rfl, rfl⟩, trivial⟩ ⟨rowsC_les entC_les ?_, trivial⟩⟩
   rw [hs, rowsC_append]
   simp only [rowsC, List.append_nil]
   rfl
  ·obtain rfl : c = l.length := by omega
   rw [List.take_length] at hL
   refine wpc_sound (M := MFd) (PL := PL0) (CU := noCut) TTok mixed _ _ _ ?_
   conv => whnf
   repeat ((refine ifB_neg (decide_eq_false (by first | omega | rfl | (dsimp only; omega))) ?_); conv => whnf)
   exact ⟨⟨rfl, rfl, by rw [List.take_length], by rw [hL, Nat.mul_comm], ents_pure _⟩, rfl⟩
 ·exact weaker_of [] rfl rfl ⟨rfl, ⟨rfl, rfl, ents_pure _⟩, ⟨rfl, rfl⟩, ⟨rfl, rfl⟩, trivial⟩ ⟨rfl, trivial⟩
def zeroF : List AV := c32 z32 (.nil :: .bool false :: (zeroE ++ zeroE))
theorem fd_dems1 {H : Heap} {f : Fd} {zs : List AV} {K : List Nat → Prop} (hz : zs = fdC f) (h : K []) : demsP H [.agg (fdC f)] [.agg zs] K := by
 subst hz
 simp only [demsP, demP]
 unfold fdC
 refine c32_dems ?_
 simp only [demsP, demP, and_self, true_and, List.nil_append]
 refine ⟨ents_pure _, ?_⟩
 unfold prfC
 refine ent_dems' f.pf.a ?_
 refine ent_dems f.pf.b ?_
 simpa only [demsP, and_self, true_and, List.nil_append, List.append_nil] using h
section
attribute [local irreducible] demsP
end
end
section
--KR
attribute [local irreducible] ifB fitP Does Weaker
theorem prf_dems1 {H : Heap} {p : Prf} {zs : List AV} {K : List Nat → Prop} (hz : zs = prfC p) (h : K []) : demsP H [.agg (prfC p)] [.agg zs] K := by
 subst hz
 simp only [demsP, demP]
 refine ent_dems' p.a ?_
 refine ent_dems p.b ?_
 simpa only [and_self, true_and, List.nil_append] using h
def PLtp : Nat → Bool × Plan := plans [(1, (false, (takesTo [0, 1, 3, 4] (.all [(2, (.all [(5, (takesTo [6] (.all [(7, .done)])))]))]))))]
section
attribute [local irreducible] demsP
set_option maxRecDepth 20000 in
set_option maxHeartbeats 1000000 in
theorem ktwinp_ok (p : Prf) (hp : PrfS p) : ACall Tryz.prog 39 [.agg (prfC p)] (.agg (prfC p)) [] := by
 have h1 := ktwin_ok p.a hp.a
 have h2 := ktwin_ok p.b hp.b
 refine ACall.of_does TTok Tryz.func39 rfl Tryz.call39 rfl (wpc_sound (M := MK) (PL := PLtp) (CU := cutAt [100001, 99999]) TTok mixed _ _ _ ?_)
 conv => whnf
 repeat ((refine ⟨rfl, ?_⟩); conv => whnf)
 refine Does.freeze 0 rfl (Does.tidy [(1, .rop (prfC p)), (2, .ptr 1 0)] [(1, zeroE ++ zeroE)] 2 10 rfl rfl rfl (by kernel_rfl) (by kernel_rfl) ?_)
 refine wpc_sound (M := MK) (PL := PLtp) (CU := noCut) TTok mixed _ _ _ ?_
 conv => whnf
 refine ⟨by kernel_rfl, ?_⟩
 conv => whnf
 repeat ((first | refine ⟨entC_pure _, ?_⟩ | refine ⟨rfl, ?_⟩ | refine ⟨_, rfl, ?_⟩); conv => whnf)
 refine ⟨_, _, h1, by first | rfl | simp [noRoIf, noRoL, noRoV, noRoL_bys], ?_⟩
 conv => whnf
 repeat ((first | refine ⟨entC_pure _, ?_⟩ | refine ⟨rfl, ?_⟩); conv => whnf)
 refine ⟨_, _, h2, by first | rfl | simp [noRoIf, noRoL, noRoV, noRoL_bys], ?_⟩
 conv => whnf
 repeat ((first | refine ⟨(⟨by kernel_rfl, by kernel_rfl, Nat.le_of_ble_eq_true (by kernel_rfl)⟩ : AV.ones _ = true ∧ _ ∧ _), ?_⟩ | refine ⟨⟨rfl, rfl⟩, ?_⟩); conv => whnf)
 refine Does.tidy [(2, .ptr 1 0)] [(1, prfC p)] 2 10 rfl rfl rfl (by kernel_rfl) (by kernel_rfl) ?_
 refine wpc_sound (M := MK) (PL := PLtp) (CU := noCut) TTok mixed _ _ _ ?_
 conv => whnf
 refine ⟨prfC p, by kernel_rfl, ?_⟩
 conv => whnf
 refine prf_dems1 (by kernel_rfl) ?_
 rfl
end
set_option maxRecDepth 20000 in
set_option maxHeartbeats 1000000 in
theorem ktwins_ok (l : List Ent) (hl : ∀ e ∈ l, EntS e) (hn : l.length ≤ 1000000) : ACall Tryz.prog 76 [.ro l.length (rowsC entC l)] (.own l.length 133 (rowsC entC l)) [] := by
 refine ACall.of_does TTok Tryz.func76 rfl Tryz.call76 rfl (wpc_sound (M := MK) (PL := PL0) (CU := noCut) TTok mixed _ _ _ ?_)
 conv => whnf
 refine Does.loop (fun c : Nat => mkSt [(0, .ro l.length (rowsC entC l)), (3, .sl 1 0 c 133 false), (4, .int .i64 c)] [(1, rowsC entC (l.take c))] 2 20) (fun c => c ≤ l.length) (fun c => l.length - c) ?_ 0 (Nat.zero_le _) ?_
 ·intro c hc
  rcases Nat.lt_or_ge c l.length with c1 | c1
  ·have ht := ktwin_ok l[c] (hl _ (List.getElem_mem c1))
   have hlt : (rowsC entC (l.take c)).length = c * 133 := by rw [ents_len]; simp; omega
   refine wpc_sound (M := MK) (PL := PL0) (CU := noCut) TTok mixed _ _ _ ?_
   conv => whnf
   repeat ((first | (refine ifB_pos (decide_eq_true (by first | omega | rfl | (dsimp only; omega))) ?_) | (refine ⟨⟨?_, ?_, ?_⟩, ?_⟩; (focus omega); (focus (first | omega | (simp; done) | (simp; omega))); (focus (first | (rw [prfs_len]; simp; omega) | (rw [ents_len]; simp; omega) | (rw [hds_len]; simp; omega) | (rw [lets_len]; simp; omega))))); conv => whnf)
   refine ⟨_, takeN_row entC_length c1 (by simp; omega) rfl, ?_⟩
   conv => whnf
   repeat ((first | refine ⟨entC_pure _, ?_⟩ | refine ⟨rfl, ?_⟩); conv => whnf)
   refine ⟨_, _, ht, by first | rfl | simp [noRoIf, noRoL, noRoV, noRoL_bys], ?_⟩
   conv => whnf
   repeat ((first | (refine fit_i64 ⟨by first | omega | rfl | (dsimp only; omega), by first | omega | rfl | (dsimp only; omega)⟩ ?_) | (refine Or.inl ⟨⟨rfl, ?_⟩, ?_⟩; (focus (first | rfl | (simp; done) | (rw [toksC_length]; omega)))) | refine ⟨rfl, ?_⟩ | refine ⟨⟨rfl, rfl⟩, ?_⟩ | (refine And.intro ?_ ?_; (focus (first | (simp [limB, lenB, offB]; done) | (simp [limB, lenB, offB]; omega))))); conv => whnf)
   refine ⟨c + 1, by omega, by omega, weaker_of [(1, 3)] rfl rfl ⟨⟨rfl, rfl, ents_pure _⟩, ⟨rfl, rfl, rfl, rfl, fun h => h⟩, ⟨rfl, rfl⟩, trivial⟩ ⟨?_, trivial⟩⟩
   rw [take_snoc c1]
   refine rowsC_les entC_les ?_
   rw [rowsC_append]
   simp only [rowsC, List.append_nil]
   rfl
  ·obtain rfl : c = l.length := by omega
   rw [List.take_length]
   refine wpc_sound (M := MK) (PL := PL0) (CU := noCut) TTok mixed _ _ _ ?_
   conv => whnf
   repeat ((refine ifB_neg (decide_eq_false (by first | omega | rfl | (dsimp only; omega))) ?_); conv => whnf)
   exact ⟨⟨rfl, rfl, rfl, by rw [ents_len, Nat.mul_comm], ents_pure _⟩, rfl⟩
 ·exact weaker_of [] rfl rfl ⟨⟨rfl, rfl, ents_pure _⟩, rfl, ⟨rfl, rfl⟩, trivial⟩ ⟨rfl, trivial⟩
end
section
--KR
attribute [local irreducible] ifB fitP Does Weaker
section
attribute [local irreducible] demsP
set_option maxRecDepth 20000 in
set_option maxHeartbeats 1000000 in
theorem ktwinf_ok (f : Fd) (hf : FdS f) (hn : f.es.length ≤ 100000) : ACall Tryz.prog 38 [.agg (fdC f)] (.agg (fdC f)) [] := by
 have h1 := (ktwins_ok f.es hf.es (by omega)).roRes
 have h2 := ktwinp_ok f.pf hf.pf
 refine ACall.of_does TTok Tryz.func38 rfl Tryz.call38 rfl (wpc_sound (M := MFd) (PL := PL0) (CU := cutAt [100001, 100002, 99999]) TTok mixed _ _ _ ?_)
 conv => whnf
 repeat ((refine ⟨rfl, ?_⟩); conv => whnf)
 refine Does.tidy [(1, .ptr 0 0), (2, .ptr 1 0)] [(0, fdC f), (1, zeroF)] 2 12 rfl rfl rfl (by kernel_rfl) (by kernel_rfl) ?_
 refine Does.quiet TTok mixed (M := MFd) [7, 9] [1, 4] (takesTo [0, 1, 3, 4] (.all [(2, (takesTo [6] (.all [(5, (.all [(7, (takesTo [8] (.all [(9, .done)])))]))])))])) (by kernel_rfl) ?_
 conv => whnf
 repeat ((first | refine ⟨rfl, ?_⟩ | refine ⟨_, rfl, ?_⟩ | refine ⟨(show pureL (rowsC _ _) = true from by first | exact prfs_pure _ | exact ents_pure _ | exact hds_pure _ | exact lets_pure _), ?_⟩); conv => whnf)
 refine ⟨_, _, h1, by first | rfl | simp [noRoIf, noRoL, noRoV, noRoL_bys], ?_⟩
 conv => whnf
 repeat ((first | refine ⟨rfl, ?_⟩ | (refine And.intro ?_ ?_; (focus (first | (simp only [pureL, pureV, pureL_bys, Bool.and_true, Bool.and_self]; done) | (simp only [pureL, pureV, pureL_bys, pureL_toks, Bool.and_true, Bool.and_self]; done))))); conv => whnf)
 refine ⟨_, _, h2, by first | rfl | simp [noRoIf, noRoL, noRoV, noRoL_bys], ?_⟩
 conv => whnf
 repeat ((refine ⟨(⟨by kernel_rfl, by kernel_rfl, Nat.le_of_ble_eq_true (by kernel_rfl)⟩ : AV.ones _ = true ∧ _ ∧ _), ?_⟩); conv => whnf)
 refine Does.tidy [(1, .ptr 0 0), (2, .ptr 1 0)] [(0, fdC f), (1, zeroF)] 2 12 rfl rfl rfl (by kernel_rfl) (by kernel_rfl) ?_
 refine wpc_sound (M := MFd) (PL := PL0) (CU := noCut) TTok mixed _ _ _ ?_
 conv => whnf
 repeat ((first | refine ⟨(⟨by kernel_rfl, by kernel_rfl, Nat.le_of_ble_eq_true (by kernel_rfl)⟩ : AV.ones _ = true ∧ _ ∧ _), ?_⟩ | refine ⟨_, rfl, ?_⟩); conv => whnf)
 refine Does.tidy [(2, .ptr 1 0)] [(0, fdC f), (1, fdC f)] 2 12 rfl rfl rfl (by kernel_rfl) (by kernel_rfl) ?_
 refine wpc_sound (M := MFd) (PL := PL0) (CU := noCut) TTok mixed _ _ _ ?_
 conv => whnf
 refine ⟨fdC f, by kernel_rfl, ?_⟩
 conv => whnf
 refine fd_dems1 (by kernel_rfl) ?_
 rfl
end
theorem fd_ext {a b : Fd} (h1 : a.au = b.au) (h2 : a.es = b.es) (h3 : a.shut = b.shut) (h4 : a.pf = b.pf) : a = b := by
 obtain ⟨p, q, r, s⟩ := a
 obtain ⟨t, u, v, w⟩ := b
 dsimp only at h1 h2 h3 h4
 rw [h1, h2, h3, h4]
set_option maxRecDepth 20000 in
set_option maxHeartbeats 1000000 in
theorem kfeed_ok (a b : Fd) (ha : FdS a) (hb : FdS b) : ACall Tryz.prog 30 [.agg (fdC a), .agg (fdC b)] (.bool (decide (a = b))) [] := by
 have h1 := kents_ok a.es b.es ha.es hb.es ha.el hb.el
 have h2 := kprf_ok a.pf b.pf ha.pf hb.pf
 refine ACall.of_does TTok Tryz.func30 rfl Tryz.call30 rfl (wpc_sound (M := MFd) (PL := PL0) (CU := cutAt [100001]) TTok mixed _ _ _ ?_)
 conv => whnf
 repeat ((refine ⟨rfl, ?_⟩); conv => whnf)
 refine Does.freeze 0 rfl (Does.freeze 1 (zs := fdC b) (by show some (frzL 0 _ (fdC b)) = _; rw [fdC_frz]) (Does.tidy [(2, .rop (fdC a)), (3, .rop (fdC b))] [] 2 31 rfl rfl rfl (by kernel_rfl) (by kernel_rfl) ?_))
 refine wpc_sound (M := MFd) (PL := PL0) (CU := noCut) TTok mixed _ _ _ ?_
 conv => whnf
 repeat ((refine ⟨_, rfl, ?_⟩); conv => whnf)
 refine ⟨a.au, b.au, ⟨rfl, c32_map ha.au.2, c32_map hb.au.2, ha.au.2, hb.au.2⟩, ?_⟩
 by_cases e1 : a.au = b.au
 case neg =>
  rw [df e1, df (fun h => e1 (by rw [h]))]
  conv => whnf
  repeat ((first | refine ifB_f ?_ | refine ⟨rfl, ?_⟩); conv => whnf)
  rfl
 rw [dt e1]
 by_cases e2 : a.es = b.es
 case neg =>
  rw [df e2] at h1
  rw [df (fun h => e2 (by rw [h]))]
  conv => whnf
  repeat ((first | refine ifB_t ?_ | refine ⟨rfl, ?_⟩ | refine ⟨_, rfl, ?_⟩ | refine ⟨(show pureL (rowsC _ _) = true from by first | exact prfs_pure _ | exact ents_pure _ | exact hds_pure _ | exact lets_pure _), ?_⟩); conv => whnf)
  refine ⟨_, _, h1, by first | rfl | simp [noRoIf, noRoL, noRoV, noRoL_bys], ?_⟩
  conv => whnf
  repeat ((first | refine ifB_t ?_ | refine ifB_f ?_ | refine ⟨rfl, ?_⟩); conv => whnf)
  rfl
 rw [dt e2] at h1
 conv => whnf
 repeat ((first | refine ifB_t ?_ | refine ⟨rfl, ?_⟩ | refine ⟨_, rfl, ?_⟩ | refine ⟨(show pureL (rowsC _ _) = true from by first | exact prfs_pure _ | exact ents_pure _ | exact hds_pure _ | exact lets_pure _), ?_⟩); conv => whnf)
 refine ⟨_, _, h1, by first | rfl | simp [noRoIf, noRoL, noRoV, noRoL_bys], ?_⟩
 conv => whnf
 repeat ((first | refine ifB_t ?_ | refine ⟨_, rfl, ?_⟩); conv => whnf)
 by_cases e3 : a.shut = b.shut
 case neg =>
  rw [df (fun h => e3 (by rw [h]))]
  refine ifB_neg (beq_eq_false_iff_ne.2 e3) ?_
  conv => whnf
  repeat ((first | refine ifB_f ?_ | refine ⟨rfl, ?_⟩); conv => whnf)
  rfl
 refine ifB_pos (by rw [e3]; exact beq_self_eq_true _) ?_
 by_cases e4 : a.pf = b.pf
 ·rw [dt e4] at h2
  rw [dt (fd_ext e1 e2 e3 e4)]
  conv => whnf
  repeat ((first | refine ifB_t ?_ | refine ⟨rfl, ?_⟩ | refine ⟨_, rfl, ?_⟩ | (refine And.intro ?_ ?_; (focus (first | (simp only [pureL, pureV, pureL_bys, Bool.and_true, Bool.and_self]; done) | (simp only [pureL, pureV, pureL_bys, pureL_toks, Bool.and_true, Bool.and_self]; done))))); conv => whnf)
  refine ⟨_, _, h2, by first | rfl | simp [noRoIf, noRoL, noRoV, noRoL_bys], ?_⟩
  conv => whnf
  repeat ((first | refine ifB_t ?_ | refine ⟨rfl, ?_⟩); conv => whnf)
  rfl
 ·rw [df e4] at h2
  rw [df (fun h => e4 (by rw [h]))]
  conv => whnf
  repeat ((first | refine ifB_t ?_ | refine ⟨rfl, ?_⟩ | refine ⟨_, rfl, ?_⟩ | (refine And.intro ?_ ?_; (focus (first | (simp only [pureL, pureV, pureL_bys, Bool.and_true, Bool.and_self]; done) | (simp only [pureL, pureV, pureL_bys, pureL_toks, Bool.and_true, Bool.and_self]; done))))); conv => whnf)
  refine ⟨_, _, h2, by first | rfl | simp [noRoIf, noRoL, noRoV, noRoL_bys], ?_⟩
  conv => whnf
  repeat ((first | refine ifB_t ?_ | refine ⟨rfl, ?_⟩); conv => whnf)
  rfl
def heavyF (f : Fd) : Bool := decide (60 < f.es.length) || heavyEs f.es || heavyEs [f.pf.a, f.pf.b]
set_option maxRecDepth 20000 in
set_option maxHeartbeats 1000000 in
theorem heavy17_ok (f : Fd) : ACall Tryz.prog 34 [.agg (fdC f)] (.bool (heavyF f)) [] := by
 have v1 := heavy11_ok f.es
 have v2 := heavy11_ok [f.pf.a, f.pf.b]
 unfold heavyF
 refine ACall.of_does TTok Tryz.func34 rfl Tryz.call34 rfl (wpc_sound (M := MFd) (PL := PL0) (CU := cutAt [100001]) TTok mixed _ _ _ ?_)
 conv => whnf
 repeat ((refine ⟨rfl, ?_⟩); conv => whnf)
 refine Does.freeze 0 rfl (Does.tidy [(1, .rop (fdC f))] [] 1 22 rfl rfl rfl (by kernel_rfl) (by kernel_rfl) ?_)
 refine wpc_sound (M := MFd) (PL := PL0) (CU := noCut) TTok mixed _ _ _ ?_
 by_cases c0 : 60 < f.es.length
 ·rw [dt c0]
  conv => whnf
  repeat ((first | refine ifB_t ?_ | (refine ifB_pos (decide_eq_true (by first | omega | rfl | (dsimp only; omega))) ?_) | refine ⟨rfl, ?_⟩ | refine ⟨_, rfl, ?_⟩); conv => whnf)
  rfl
 rw [df c0, Bool.false_or]
 cases h1 : heavyEs f.es <;> rw [h1] at v1
 case true =>
  conv => whnf
  repeat ((first | refine ifB_f ?_ | (refine ifB_neg (decide_eq_false (by first | omega | rfl | (dsimp only; omega))) ?_) | refine ⟨rfl, ?_⟩ | refine ⟨_, rfl, ?_⟩ | refine ⟨(show pureL (rowsC _ _) = true from by first | exact prfs_pure _ | exact ents_pure _ | exact hds_pure _ | exact lets_pure _), ?_⟩); conv => whnf)
  refine ⟨_, _, v1, by first | rfl | simp [noRoIf, noRoL, noRoV, noRoL_bys], ?_⟩
  conv => whnf
  repeat ((first | refine ifB_t ?_ | refine ifB_f ?_ | refine ⟨rfl, ?_⟩); conv => whnf)
  rfl
 rw [Bool.false_or]
 conv => whnf
 repeat ((first | refine ifB_f ?_ | (refine ifB_neg (decide_eq_false (by first | omega | rfl | (dsimp only; omega))) ?_) | refine ⟨rfl, ?_⟩ | refine ⟨_, rfl, ?_⟩ | refine ⟨(show pureL (rowsC _ _) = true from by first | exact prfs_pure _ | exact ents_pure _ | exact hds_pure _ | exact lets_pure _), ?_⟩); conv => whnf)
 refine ⟨_, _, v1, by first | rfl | simp [noRoIf, noRoL, noRoV, noRoL_bys], ?_⟩
 conv => whnf
 repeat ((first | refine ifB_f ?_ | (refine Or.inl ⟨⟨rfl, ?_⟩, ?_⟩; (focus (first | rfl | (simp; done) | (rw [toksC_length]; omega)))) | refine ⟨rfl, ?_⟩ | refine ⟨_, rfl, ?_⟩ | refine ⟨⟨rfl, rfl⟩, ?_⟩ | (refine And.intro ?_ ?_; (focus (first | (simp only [pureL, pureV, pureL_bys, Bool.and_true, Bool.and_self]; done) | (simp only [pureL, pureV, pureL_bys, pureL_toks, Bool.and_true, Bool.and_self]; done))))); conv => whnf)
 refine ⟨_, _, v2.arg1 rfl (by simp [rowsC]; rfl), by first | rfl | simp [noRoIf, noRoL, noRoV, noRoL_bys], ?_⟩
 conv => whnf
 repeat ((first | refine ifB_f ?_ | refine ⟨rfl, ?_⟩); conv => whnf)
 rfl
end
section
--KR
attribute [local irreducible] ifB fitP Does Weaker
set_option maxRecDepth 20000 in
set_option maxHeartbeats 2000000 in
theorem rfeed_ok (f : Fd) (hf : FdS f) : ACall Tryz.prog 35 [.agg (fdC f)] (.bool (lookR f)) [] := by
 have hp0 := kprf_ok f.pf prf0 hf.pf ⟨ent0_S2, ent0_S2⟩
 have hpr := refproof_ok f.pf hf.pf
 refine ACall.of_does TTok Tryz.func35 rfl Tryz.call35 rfl (wpc_sound (M := MFd) (PL := PL0) (CU := cutAt [100001, 100003, 100011]) TTok mixed _ _ _ ?_)
 conv => whnf
 repeat ((refine ⟨rfl, ?_⟩); conv => whnf)
 refine Does.freeze 0 rfl (Does.tidy [(1, .rop (fdC f))] [] 1 65 rfl rfl rfl (by kernel_rfl) (by kernel_rfl) ?_)
 refine wpc_sound (M := MFd) (PL := PL0) (CU := noCut) TTok mixed _ _ _ ?_
 by_cases c0 : 200 < f.es.length
 ·rw [show lookR f = false by unfold lookR folL; rw [if_pos c0]; rfl]
  conv => whnf
  repeat ((first | (refine ifB_pos (decide_eq_true (by first | omega | rfl | (dsimp only; omega))) ?_) | refine ⟨rfl, ?_⟩ | refine ⟨_, rfl, ?_⟩); conv => whnf)
  rfl
 have hF : folL f.au f.es = folGo f.au 0 z32 f.es := by unfold folL; rw [if_neg c0]
 have hlk : lookR f = ((folGo f.au 0 z32 f.es).2 && if f.shut = true then prfR f.pf && decide (f.pf.a.au = f.au) else decide (f.pf = prf0)) := by unfold lookR; rw [hF]
 rw [hlk]
 clear hF hlk
 conv => whnf
 repeat ((first | (refine ifB_neg (decide_eq_false (by first | omega | rfl | (dsimp only; omega))) ?_) | refine ⟨_, rfl, ?_⟩); conv => whnf)
 refine wpc_sound (M := MFd) (PL := PL0) (CU := noCut) TTok mixed _ _ _ ?_
 conv => whnf
 repeat ((refine ⟨rfl, ?_⟩); conv => whnf)
 refine Does.loop (fun g : Nat × List Int => mkSt [(1, .rop (fdC f)), (3, .ptr 0 0), (4, .int .i64 g.1)] [(0, c32 g.2 [])] 1 65)
  (fun g => g.1 ≤ f.es.length ∧ (Byt g.2 ∧ g.2.length = 32) ∧ folGo f.au g.1 g.2 (f.es.drop g.1) = folGo f.au 0 z32 f.es) (fun g => f.es.length - g.1) ?_ (0, z32) ⟨Nat.zero_le _, ⟨fun x hx => by simp only [z32, List.mem_replicate] at hx; omega, rfl⟩, rfl⟩ ?_
 ·rintro ⟨c, w⟩ ⟨hc, hw, hgo⟩
  dsimp only at hc hw hgo
  rw [← hgo]
  rcases Nat.lt_or_ge c f.es.length with c1 | c1
  ·have he := hf.es _ (List.getElem_mem c1)
   have rm := refentry_ok f.es[c] he
   have hd : f.es.drop c = f.es[c] :: f.es.drop (c + 1) := List.drop_eq_getElem_cons c1
   rw [hd]
   have hx : folGo f.au c w (f.es[c] :: f.es.drop (c + 1)) = if okE f.au c w f.es[c] = true then folGo f.au (c + 1) (shaL (entB f.es[c]).1) (f.es.drop (c + 1)) else (w, false) := rfl
   rw [hx]
   clear hx hd hgo
   refine wpc_sound (M := MFd) (PL := PL0) (CU := cutAt [100008, 100010]) TTok mixed _ _ _ ?_
   conv => whnf
   repeat ((first | (refine ifB_pos (decide_eq_true (by first | omega | rfl | (dsimp only; omega))) ?_) | refine ⟨_, rfl, ?_⟩ | (refine ⟨⟨?_, ?_, ?_⟩, ?_⟩; (focus omega); (focus (first | omega | (simp; done) | (simp; omega))); (focus (first | (rw [prfs_len]; simp; omega) | (rw [ents_len]; simp; omega) | (rw [hds_len]; simp; omega) | (rw [lets_len]; simp; omega))))); conv => whnf)
   refine ⟨_, takeN_row entC_length c1 (by simp; omega) rfl, ?_⟩
   conv => whnf
   repeat ((first | refine ⟨(⟨by kernel_rfl, by kernel_rfl, Nat.le_of_ble_eq_true (by kernel_rfl)⟩ : AV.ones _ = true ∧ _ ∧ _), ?_⟩ | refine ⟨rfl, ?_⟩); conv => whnf)
   generalize f.es[c] = e at he rm ⊢
   refine Does.tidy [(1, .rop (fdC f)), (3, .ptr 0 0), (4, .int .i64 c), (5, .ptr 1 0)] [(0, c32 w []), (1, entC e)] 2 65 rfl rfl rfl (by kernel_rfl) (by kernel_rfl) ?_
   refine Does.freeze 1 rfl (Does.tidy [(1, .rop (fdC f)), (3, .ptr 0 0), (4, .int .i64 c), (5, .rop (entC e))] [(0, c32 w [])] 2 65 rfl rfl rfl (by kernel_rfl) (by kernel_rfl) ?_)
   refine wpc_sound (M := MFd) (PL := PL0) (CU := noCut) TTok mixed _ _ _ ?_
   cases hr : entR e <;> rw [hr] at rm
   ·rw [show okE f.au c w e = false by unfold okE; rw [hr]; rfl, if_neg (by decide)]
    conv => whnf
    repeat ((first | refine ⟨entC_pure _, ?_⟩ | refine ⟨rfl, ?_⟩ | refine ⟨_, rfl, ?_⟩); conv => whnf)
    refine ⟨_, _, rm, by first | rfl | simp [noRoIf, noRoL, noRoV, noRoL_bys], ?_⟩
    conv => whnf
    repeat ((first | refine ifB_t ?_ | refine ⟨rfl, ?_⟩); conv => whnf)
    rfl
   have hid := refid_ok e he hr
   have ls := shaL_len (entB e).1
   have lb := shaL_byt (entB e).1
   generalize shaL (entB e).1 = i at hid ls lb ⊢
   conv => whnf
   repeat ((first | refine ⟨entC_pure _, ?_⟩ | refine ⟨rfl, ?_⟩ | refine ⟨_, rfl, ?_⟩); conv => whnf)
   refine ⟨_, _, rm, by first | rfl | simp [noRoIf, noRoL, noRoV, noRoL_bys], ?_⟩
   conv => whnf
   repeat ((first | refine ifB_f ?_ | refine ⟨_, rfl, ?_⟩); conv => whnf)
   refine ⟨e.au, f.au, ⟨rfl, c32_map he.au.2, c32_map hf.au.2, he.au.2, hf.au.2⟩, ?_⟩
   by_cases h1 : e.au = f.au
   case neg =>
    rw [df h1, show okE f.au c w e = false by unfold okE; rw [hr, df h1]; rfl, if_neg (by decide)]
    conv => whnf
    repeat ((first | refine ifB_t ?_ | refine ifB_f ?_ | refine ⟨rfl, ?_⟩); conv => whnf)
    rfl
   rw [dt h1]
   by_cases h2 : e.seq = (c : Int) + 1
   case neg =>
    rw [show okE f.au c w e = false by unfold okE; rw [df h2]; simp, if_neg (by decide)]
    conv => whnf
    repeat ((first | refine ifB_t ?_ | refine ifB_f ?_ | (refine ifB_pos (decide_eq_true (by first | omega | rfl | (dsimp only; omega))) ?_) | (refine fit_i64 ⟨by first | omega | rfl | (dsimp only; omega), by first | omega | rfl | (dsimp only; omega)⟩ ?_) | refine ⟨rfl, ?_⟩ | refine ⟨_, rfl, ?_⟩); conv => whnf)
    rfl
   conv => whnf
   repeat ((first | refine ifB_f ?_ | (refine ifB_neg (decide_eq_false (by first | omega | rfl | (dsimp only; omega))) ?_) | (refine fit_i64 ⟨by first | omega | rfl | (dsimp only; omega), by first | omega | rfl | (dsimp only; omega)⟩ ?_) | refine ⟨_, rfl, ?_⟩); conv => whnf)
   refine ⟨e.prev, w, ⟨rfl, c32_map he.prev.2, c32_map hw.2, he.prev.2, hw.2⟩, ?_⟩
   by_cases h3 : e.prev = w
   case neg =>
    rw [df h3, show okE f.au c w e = false by unfold okE; rw [df h3]; simp, if_neg (by decide)]
    conv => whnf
    repeat ((first | refine ifB_t ?_ | refine ifB_f ?_ | refine ⟨rfl, ?_⟩); conv => whnf)
    rfl
   have ho : okE f.au c w e = true := by unfold okE; rw [hr, dt h1, dt h2, dt h3]; rfl
   rw [dt h3, ho, if_pos rfl]
   conv => whnf
   repeat ((refine ifB_f ?_); conv => whnf)
   refine Does.tidy [(1, .rop (fdC f)), (3, .ptr 0 0), (4, .int .i64 c), (5, .rop (entC e))] [(0, c32 w [])] 2 65 rfl rfl rfl (by kernel_rfl) (by kernel_rfl) ?_
   refine wpc_sound (M := MFd) (PL := PL0) (CU := noCut) TTok mixed _ _ _ ?_
   conv => whnf
   repeat ((first | refine ⟨entC_pure _, ?_⟩ | refine ⟨rfl, ?_⟩ | refine ⟨_, rfl, ?_⟩); conv => whnf)
   refine ⟨_, _, hid, by first | rfl | simp [noRoIf, noRoL, noRoV, noRoL_bys], ?_⟩
   conv => whnf
   repeat ((first | (refine fit_i64 ⟨by first | omega | rfl | (dsimp only; omega), by first | omega | rfl | (dsimp only; omega)⟩ ?_) | refine ⟨(⟨by kernel_rfl, by kernel_rfl, Nat.le_of_ble_eq_true (by kernel_rfl)⟩ : AV.ones _ = true ∧ _ ∧ _), ?_⟩); conv => whnf)
   exact ⟨(c + 1, i), ⟨by dsimp only; omega, ⟨lb, ls⟩, rfl⟩, by dsimp only; omega, Weaker.trans (Weaker.tidy [(1, .rop (fdC f)), (3, .ptr 0 0), (4, .int .i64 ((c : Int) + 1))] [(0, c32 i [])] 2 65 rfl rfl rfl (by kernel_rfl) (by kernel_rfl)) (weaker_of [(0, 0)] rfl rfl ⟨⟨rfl, fdC_pure f⟩, ⟨rfl, rfl⟩, ⟨rfl, rfl⟩, trivial⟩ ⟨c32_les trivial, trivial⟩)⟩
  ·obtain rfl : c = f.es.length := by omega
   rw [List.drop_length]
   rw [show folGo f.au f.es.length w [] = (w, true) from rfl]
   refine wpc_sound (M := MFd) (PL := PL0) (CU := noCut) TTok mixed _ _ _ ?_
   conv => whnf
   repeat ((first | (refine ifB_neg (decide_eq_false (by first | omega | rfl | (dsimp only; omega))) ?_) | refine ⟨_, rfl, ?_⟩); conv => whnf)
   cases hs : f.shut
   ·rw [if_neg (by decide)]
    refine wpc_sound (M := MFd) (PL := PL0) (CU := noCut) TTok mixed _ _ _ ?_
    conv => whnf
    repeat ((refine ⟨_, rfl, ?_⟩); conv => whnf)
    rw [hs]
    conv => whnf
    repeat ((first | refine ifB_f ?_ | refine ⟨rfl, ?_⟩ | refine ⟨_, rfl, ?_⟩ | (refine And.intro ?_ ?_; (focus (first | (simp only [pureL, pureV, pureL_bys, Bool.and_true, Bool.and_self]; done) | (simp only [pureL, pureV, pureL_bys, pureL_toks, Bool.and_true, Bool.and_self]; done))))); conv => whnf)
    refine ⟨_, _, prf0_args hp0, by first | rfl | simp [noRoIf, noRoL, noRoV, noRoL_bys], ?_⟩
    conv => whnf
    repeat ((refine ⟨rfl, ?_⟩); conv => whnf)
    rfl
   ·rw [if_pos rfl]
    refine wpc_sound (M := MFd) (PL := PL0) (CU := noCut) TTok mixed _ _ _ ?_
    conv => whnf
    repeat ((refine ⟨_, rfl, ?_⟩); conv => whnf)
    rw [hs]
    conv => whnf
    repeat ((first | refine ifB_t ?_ | refine ⟨rfl, ?_⟩ | refine ⟨_, rfl, ?_⟩ | (refine And.intro ?_ ?_; (focus (first | (simp only [pureL, pureV, pureL_bys, Bool.and_true, Bool.and_self]; done) | (simp only [pureL, pureV, pureL_bys, pureL_toks, Bool.and_true, Bool.and_self]; done))))); conv => whnf)
    cases hp : prfR f.pf <;> rw [hp] at hpr
    ·refine ⟨_, _, hpr, by first | rfl | simp [noRoIf, noRoL, noRoV, noRoL_bys], ?_⟩
     conv => whnf
     repeat ((first | refine ifB_f ?_ | refine ⟨rfl, ?_⟩); conv => whnf)
     rfl
    ·refine ⟨_, _, hpr, by first | rfl | simp [noRoIf, noRoL, noRoV, noRoL_bys], ?_⟩
     conv => whnf
     repeat ((first | refine ifB_t ?_ | refine ⟨_, rfl, ?_⟩); conv => whnf)
     refine ⟨f.pf.a.au, f.au, ⟨rfl, c32_map hf.pf.1.au.2, c32_map hf.au.2, hf.pf.1.au.2, hf.au.2⟩, ?_⟩
     by_cases h : f.pf.a.au = f.au
     ·rw [dt h]
      conv => whnf
      repeat ((first | refine ifB_t ?_ | refine ⟨rfl, ?_⟩); conv => whnf)
      rfl
     ·rw [df h]
      conv => whnf
      repeat ((first | refine ifB_t ?_ | refine ⟨rfl, ?_⟩); conv => whnf)
      rfl
 ·exact weaker_of [(0, 1)] rfl rfl ⟨⟨rfl, fdC_pure f⟩, ⟨rfl, rfl⟩, ⟨rfl, rfl⟩, trivial⟩ ⟨c32_les trivial, trivial⟩
end
section

theorem RepM.les {E : Env} : ∀ (ys xs : List AV) (b off : Nat), lesP (fun _ => none) ys xs → RepM E xs b off → RepM E ys b off
 | [], xs, b, off, _, _ => by simp [RepM]
 | y :: ys, [], b, off, h, _ => by simp [lesP] at h
 | y :: ys, x :: xs, b, off, h, hr => by
  simp only [lesP] at h
  simp only [RepM] at hr ⊢
  obtain ⟨⟨u, hu, hv⟩, hr⟩ := hr
  exact ⟨⟨u, hu, leP_ok (E := E) (E' := E) ⟨rfl, rfl⟩ (fun b hb => hb) (fun i j n hi => by cases hi) y x u h.1 hv⟩, RepM.les ys xs b (off + 1) h.2 hr⟩
inductive RoLes : List AV → List AV → Prop where
 | nil : RoLes [] []
 | same {x : AV} {ys xs : List AV} (t : RoLes ys xs) : RoLes (x :: ys) (x :: xs)
 | ro {n : Nat} {cs ds ys xs : List AV} (hp : pureL cs = true) (hd : pureL ds = true) (he : ds = [] → cs = []) (hl : lesP (fun _ => none) cs ds) (t : RoLes ys xs) : RoLes (.ro n cs :: ys) (.ro n ds :: xs)
theorem RoLes.ok {E : Env} {ys xs : List AV} (h : RoLes ys xs) : ∀ (vs : List Value) (X : List Nat), RepBL E xs vs X → RepBL E ys vs X ∧ refVals ys vs = refVals xs vs := by
 induction h with
 | nil => intro vs X hr; exact ⟨hr, rfl⟩
 | same t ih =>
  intro vs X hr
  simp only [RepBL] at hr ⊢
  obtain ⟨u, us, Y, Y', rfl, rfl, h1, h2⟩ := hr
  have := ih us Y' h2
  refine ⟨⟨u, us, Y, Y', rfl, rfl, h1, this.1⟩, ?_⟩
  simp only [refVals]
  rw [this.2]
 | ro hp hd he hl t ih =>
  intro vs X hr
  simp only [RepBL] at hr ⊢
  obtain ⟨u, us, Y, Y', rfl, rfl, h1, h2⟩ := hr
  have := ih us Y' h2
  refine ⟨⟨u, us, Y, Y', rfl, rfl, ?_, this.1⟩, ?_⟩
  ·simp only [RepB] at h1 ⊢
   obtain ⟨_, h1, hx⟩ := h1
   refine ⟨by simpa [pureV] using hp, ?_, hx⟩
   simp only [RepV] at h1 ⊢
   obtain ⟨a, cap, e, hc, hm⟩ := h1
   refine ⟨a, cap, e, hc, ?_⟩
   rcases hm with hm | ⟨b, off, ha, hb, hm⟩
   ·exact .inl (he hm)
   ·exact .inr ⟨b, off, ha, hb, RepM.les _ _ _ _ hl hm⟩
  ·simp only [refVals, isRef, cond]
   rw [this.2]
end
end Go.Proofs.YtbkclacjamlebaaGreatDoor.Abs
