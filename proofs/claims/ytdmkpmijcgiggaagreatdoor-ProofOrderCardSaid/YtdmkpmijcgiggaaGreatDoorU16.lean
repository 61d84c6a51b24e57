/- Texts SV to PC, merged. -/
import Derived.Test.YtdmkpmijcgiggaaGreatDoorU15
set_option linter.unusedVariables false
set_option linter.unusedSimpArgs false
namespace Go.Proofs.YtdmkpmijcgiggaaGreatDoor.Abs
open Go
section
--KR
attribute [local irreducible] ifB fitP Does Weaker
def PLh12 : Nat → Bool × Plan := plans [(4, (false, (takesTo [0, 1, 2, 3, 4, 5, 6, 7, 8, 9] (.all [(10, (.all [(11, .done)]))]))))]
set_option maxRecDepth 20000 in
set_option maxHeartbeats 4000000 in
theorem heavy12_ok (l : List Prf) (hl : l.length ≤ 1000000) : ACall Tryz.prog 41 [.ro l.length (rowsC prfC l)] (.bool (l.any heavyP)) [] := by
 refine ACall.of_does TTok Tryz.func41 rfl Tryz.call41 rfl (wpc_sound (M := MRow) (PL := PLh12) (CU := noCut) TTok mixed _ _ _ ?_)
 conv => whnf
 refine Does.loop (fun c : Nat => mkSt [(0, .ro l.length (rowsC prfC l)), (3, .int .i64 c)] [] 0 22)
  (fun c => c ≤ l.length ∧ (l.drop c).any heavyP = l.any heavyP) (fun c => l.length - c) ?_ 0 ⟨Nat.zero_le _, by rw [List.drop_zero]⟩ ?_
 ·rintro c ⟨hc, hx⟩
  rcases Nat.lt_or_ge c l.length with k1 | k1
  ·have ga : ∀ i, i = 266 * c → takeN 133 (List.drop 0 (List.drop i (rowsC prfC l))) = some (entC l[c].a) := fun i hi => prf_a k1 hi rfl
   have gb : ∀ i, i = 266 * c → takeN 133 (List.drop 133 (List.drop i (rowsC prfC l))) = some (entC l[c].b) := fun i hi => prf_b k1 hi rfl
   have hz : ∀ i, i = 266 * c → (List.drop i (rowsC prfC l)).length ≠ 0 := fun i hi => by rw [List.length_drop, prfs_len]; omega
   have tk : ∀ {ops : Array Oper} {st : St} {dst : Option Tmp} {ty : TypeId} {pos : String} {af : Array Edge} {t : TypeId} {a : Operand} {cs : List AV}, evalO st.env a = .rop cs → cs.length ≠ 0 → takeOk ops ⟨dst, .load t a, ty, pos, af, none⟩ st = true := by
    intro ops st dst ty pos af t a cs he hne
    show roLoad st (.load t a) = true
    simp only [roLoad, he]
    cases cs with
    | nil => simp at hne
    | cons x r => rfl
   have h2 := heavy11_ok [l[c].a, l[c].b]
   rw [List.drop_eq_getElem_cons k1, List.any_cons] at hx
   rw [show heavyP l[c] = heavyEs [l[c].a, l[c].b] from rfl] at hx
   refine wpc_sound (M := MRow) (PL := PLh12) (CU := noCut) TTok mixed _ _ _ ?_
   conv => whnf
   repeat ((refine ifB_pos (decide_eq_true (by first | omega | rfl | (dsimp only; omega))) ?_); conv => whnf)
   refine ⟨by kernel_rfl, ?_⟩
   conv => whnf
   repeat ((refine ⟨⟨?_, ?_, ?_⟩, ?_⟩; (focus omega); (focus (first | omega | (simp; done) | (simp; omega))); (focus (first | (rw [prfs_len]; simp; omega) | (rw [ents_len]; simp; omega) | (rw [hds_len]; simp; omega) | (rw [lets_len]; simp; omega)))); conv => whnf)
   refine ⟨tk rfl (by rw [List.drop_zero]; exact hz _ (by simp; omega)), ?_⟩
   conv => whnf
   refine ⟨_, ga _ (by simp; omega), ?_⟩
   conv => whnf
   repeat ((refine ⟨⟨?_, ?_, ?_⟩, ?_⟩; (focus omega); (focus (first | omega | (simp; done) | (simp; omega))); (focus (first | (rw [prfs_len]; simp; omega) | (rw [ents_len]; simp; omega) | (rw [hds_len]; simp; omega) | (rw [lets_len]; simp; omega)))); conv => whnf)
   refine ⟨tk rfl (by rw [List.length_drop, List.length_drop, prfs_len]; simp; omega), ?_⟩
   conv => whnf
   refine ⟨_, gb _ (by simp; omega), ?_⟩
   conv => whnf
   repeat ((first | (refine Or.inl ⟨⟨rfl, ?_⟩, ?_⟩; (focus (first | rfl | (simp; done) | (rw [toksC_length]; omega)))) | refine ⟨rfl, ?_⟩ | refine ⟨⟨rfl, rfl⟩, ?_⟩ | (refine And.intro ?_ ?_; (focus (first | (simp only [pureL, pureV, pureL_bys, Bool.and_true, Bool.and_self]; done) | (simp only [pureL, pureV, pureL_bys, pureL_toks, Bool.and_true, Bool.and_self]; done))))); conv => whnf)
   cases c5 : heavyEs [l[c].a, l[c].b] <;> rw [c5] at h2 hx
   ·rw [Bool.false_or] at hx
    refine ⟨_, _, h2.arg1 rfl (by simp [rowsC]; rfl), by first | rfl | simp [noRoIf, noRoL, noRoV, noRoL_bys], ?_⟩
    conv => whnf
    repeat ((first | refine ifB_f ?_ | (refine fit_i64 ⟨by first | omega | rfl | (dsimp only; omega), by first | omega | rfl | (dsimp only; omega)⟩ ?_)); conv => whnf)
    exact ⟨c + 1, ⟨by omega, hx⟩, by omega, weaker_of [] rfl rfl ⟨⟨rfl, rfl, prfs_pure _⟩, ⟨rfl, rfl⟩, trivial⟩ trivial⟩
   ·rw [Bool.true_or] at hx
    rw [← hx]
    refine ⟨_, _, h2.arg1 rfl (by simp [rowsC]; rfl), by first | rfl | simp [noRoIf, noRoL, noRoV, noRoL_bys], ?_⟩
    conv => whnf
    repeat ((first | refine ifB_t ?_ | refine ⟨rfl, ?_⟩); conv => whnf)
    rfl
  ·obtain rfl : c = l.length := by omega
   rw [List.drop_length] at hx
   rw [← hx]
   refine wpc_sound (M := MRow) (PL := PLh12) (CU := noCut) TTok mixed _ _ _ ?_
   conv => whnf
   repeat ((first | (refine ifB_neg (decide_eq_false (by first | omega | rfl | (dsimp only; omega))) ?_) | refine ⟨rfl, ?_⟩); conv => whnf)
   rfl
 ·exact weaker_of [] rfl rfl ⟨⟨rfl, rfl, prfs_pure _⟩, ⟨rfl, rfl⟩, trivial⟩ trivial
end
section

def strX (b : List Int) : List Int := putL 2 b.length ++ b
theorem strX_len (b : List Int) : (strX b).length ≤ b.length + 9 := by
 have := putL_le 2 (n := b.length) (by omega)
 unfold strX
 rw [List.length_append]; omega
theorem entX_len2 {e : Ent} (hr : entR e = true) (h1 : e.au.length = 32) (h2 : e.prev.length = 32) : (entX e).flatten.length ≤ 179 := by
 have F := entR_facts hr
 unfold entX
 rw [h1, h2, show putL 0 1 = [1] by decide, show putL 2 ((32 : Nat) : Int) = [88, 32] by decide]
 have a1 := putL_le 0 (n := e.seq) (by omega)
 have a2 := putL_le 0 (n := e.stamp) F.2.1
 have a3 := putL_le 4 (n := 3) (by omega)
 have a4 := putL_le 0 (n := e.kind) (by rcases F.2.2.2.2.1 with h | h <;> omega)
 have a5 := putL_le 3 (n := e.key.length) (by omega)
 have a6 := putL_le 2 (n := e.val.length) (by omega)
 have a7 := F.2.2.1.2
 have a8 := F.2.2.2.2.2
 simp only [List.flatten_cons, List.flatten_nil, List.length_append, List.length_nil, List.length_cons, h1, h2]
 omega
theorem entB_len2 {e : Ent} (he : EntS e) (hr : entR e = true) : 24 ≤ (entB e).1.length ∧ (entB e).1.length < 256 := by
 rw [entB_yes' he hr]
 have L := entX_len2 hr he.au.2 he.prev.2
 have := he.sig.2
 simp only [List.length_cons, List.length_append]
 omega
theorem head2 {n : Int} (h : 24 ≤ n ∧ n < 256) : putL 2 n = [88, n] := by
 unfold putL sizeR
 rw [if_neg (by omega), if_pos (by omega)]
 show [(2 * 32 + 24 : Int), _] = _
 simp [beAcc, byteAt, IntKind.wrap, IntKind.bits, IntKind.signed]
 omega
def prfL (x y : List Int) : List Int := [131, 2, 88, (x.length : Int)] ++ (x ++ ([88, (y.length : Int)] ++ y))
theorem prfB_link {p : Prf} (hp : PrfS p) (hr : prfR p = true) : prfB p = (prfL (entB p.a).1 (entB p.b).1, 0) := by
 have F := prfR_ents hr
 have ra := (entB_right F.1).1
 have rb := (entB_right F.2.1).1
 have l1 := entB_len2 hp.a ra
 have l2 := entB_len2 hp.b rb
 have s1 := strX_len (entB p.a).1
 have s2 := strX_len (entB p.b).1
 have e : putL 4 ((3 : Nat) : Int) ++ [putL 0 2, strX (entB p.a).1, strX (entB p.b).1].flatten = prfL (entB p.a).1 (entB p.b).1 := by
  unfold strX prfL
  rw [head2 (by omega), head2 (by omega), show putL 4 ((3 : Nat) : Int) = [131] by decide, show putL 0 2 = [2] by decide]
  simp
 unfold prfB
 rw [if_pos hr]
 have := is_arr (u := validR) (f := 5) (are_cons (flat_num (n := 2) (by omega) 5) (are_cons (flat_str (entB p.a).1 5) (are_one (flat_str (entB p.b).1 5)))) (by simp) (by
  rw [← List.length_append]
  show (putL 4 ((3 : Nat) : Int) ++ [putL 0 2, strX (entB p.a).1, strX (entB p.b).1].flatten).length ≤ 32768
  rw [e]
  unfold prfL
  simp only [List.length_append, List.length_cons, List.length_nil]
  omega)
 rw [← e]
 refine enc_item (x := putL 4 ((3 : Nat) : Int) ++ [putL 0 2, strX (entB p.a).1, strX (entB p.b).1].flatten) this (by simp) ?_
 rw [e]
 unfold prfL
 simp only [List.length_append, List.length_cons, List.length_nil]
 omega
end
section
--KR
attribute [local irreducible] ifB fitP Does Weaker
def MRow2 : FuncId → List Mode := orElse [(39, [.mv 1])] MRow
theorem prfS_of1 {p : Prf} (h : PrfO p) (hv : [p].any heavyP = false) : PrfS p := by
 have h1 : heavyEs [p.a, p.b] = false := by
  have : (heavyP p || false) = false := hv
  rw [Bool.or_false] at this
  exact this
 have := entS_of2 h.1 h.2 h1
 exact ⟨this.1, this.2⟩
theorem ent0_S2 : EntS ent0 where
 au := ⟨fun x hx => by rw [show ent0.au = List.replicate 32 0 from rfl, List.mem_replicate] at hx; omega, rfl⟩
 seq := by simp [ent0]
 prev := ⟨fun x hx => by rw [show ent0.prev = List.replicate 32 0 from rfl, List.mem_replicate] at hx; omega, rfl⟩
 stamp := by simp [ent0]
 kind := by simp [ent0]
 key := by simp [ent0, Byt]
 val := by simp [ent0, Byt]
 sig := ⟨fun x hx => by rw [show ent0.sig = List.replicate 64 0 from rfl, List.mem_replicate] at hx; omega, rfl⟩
 key' := by simp [ent0]
 val' := by simp [ent0]
theorem prf0_args {g : FuncId} {m : Prf} {r : AV} (h : ACall Tryz.prog g [.agg (prfC m), .agg (prfC prf0)] r []) : ACall Tryz.prog g [.agg (prfC m), .agg (zeroE ++ zeroE)] r [] :=
 h.les (by simp [pureL, pureV, prfC_pure, pureL_app, zeroE, entV, c32_pure, c64_pure]) (by simp only [pureL, pureV, prfC_pure]; rfl) ⟨lesP_app'' (lesP_ent m.a rfl) (lesP_ent m.b rfl), lesP_app'' (entV_les rfl) (entV_les rfl), trivial⟩
set_option maxRecDepth 20000 in
set_option maxHeartbeats 4000000 in
theorem proofCuts_ok (p : Prf) (cut more : Int) (op : PrfO p) (hcut : -9223372036854775808 ≤ cut ∧ cut < 9223372036854775808) (hmore : 0 ≤ more ∧ more < 256) : ACall Tryz.prog 14 [.agg (prfC p), .int .i64 cut, .int .u8 more] (.bool true) [] := by
 have v1 := heavy12_ok [p] (by simp)
 refine ACall.of_does TTok Tryz.func14 rfl Tryz.call14 rfl (wpc_sound (M := MRow) (PL := PL0) (CU := cutAt [100001, 100011]) TTok mixed _ _ _ ?_)
 conv => whnf
 repeat ((refine ⟨rfl, ?_⟩); conv => whnf)
 refine Does.freeze 0 rfl (Does.tidy [(1, .int .i64 cut), (2, .int .u8 more), (3, .rop (prfC p))] [] 1 123 rfl rfl rfl (by kernel_rfl) (by kernel_rfl) ?_)
 refine wpc_sound (M := MRow) (PL := PL0) (CU := noCut) TTok mixed _ _ _ ?_
 conv => whnf
 repeat ((first | (refine Or.inl ⟨⟨rfl, ?_⟩, ?_⟩; (focus (first | rfl | (simp; done) | (rw [toksC_length]; omega)))) | refine ⟨rfl, ?_⟩ | refine ⟨_, rfl, ?_⟩ | refine ⟨⟨rfl, rfl⟩, ?_⟩ | (refine And.intro ?_ ?_; (focus (first | (simp only [pureL, pureV, pureL_bys, Bool.and_true, Bool.and_self]; done) | (simp only [pureL, pureV, pureL_bys, pureL_toks, Bool.and_true, Bool.and_self]; done))))); conv => whnf)
 cases hv : [p].any heavyP <;> rw [hv] at v1
 case true =>
  refine ⟨_, _, v1.arg1 rfl (by simp [rowsC]; rfl), by first | rfl | simp [noRoIf, noRoL, noRoV, noRoL_bys], ?_⟩
  conv => whnf
  repeat ((first | refine ifB_t ?_ | refine ⟨rfl, ?_⟩); conv => whnf)
  rfl
 refine ⟨_, _, v1.arg1 rfl (by simp [rowsC]; rfl), by first | rfl | simp [noRoIf, noRoL, noRoV, noRoL_bys], ?_⟩
 conv => whnf
 repeat ((first | refine ifB_f ?_ | refine ⟨rfl, ?_⟩ | refine ⟨_, rfl, ?_⟩ | (refine And.intro ?_ ?_; (focus (first | (simp only [pureL, pureV, pureL_bys, Bool.and_true, Bool.and_self]; done) | (simp only [pureL, pureV, pureL_bys, pureL_toks, Bool.and_true, Bool.and_self]; done))))); conv => whnf)
 have hp := prfS_of1 op hv
 have rm := refproof_ok p hp
 cases hr : prfR p <;> rw [hr] at rm
 case false =>
  refine ⟨_, _, rm, by first | rfl | simp [noRoIf, noRoL, noRoV, noRoL_bys], ?_⟩
  conv => whnf
  repeat ((first | refine ifB_t ?_ | refine ifB_f ?_ | refine ⟨rfl, ?_⟩); conv => whnf)
  rfl
 refine ⟨_, _, rm, by first | rfl | simp [noRoIf, noRoL, noRoV, noRoL_bys], ?_⟩
 conv => whnf
 repeat ((first | refine ifB_f ?_ | refine ⟨rfl, ?_⟩ | refine ⟨_, rfl, ?_⟩ | (refine And.intro ?_ ?_; (focus (first | (simp only [pureL, pureV, pureL_bys, Bool.and_true, Bool.and_self]; done) | (simp only [pureL, pureV, pureL_bys, pureL_toks, Bool.and_true, Bool.and_self]; done))))); conv => whnf)
 have F := prfR_ents hr
 have l1 := entB_len2 hp.a (entB_right F.1).1
 have l2 := entB_len2 hp.b (entB_right F.2.1).1
 have hL := prfB_link hp hr
 have hz : (prfB p).2 = 0 := by rw [hL]
 have rc := prfB_cut hp hz
 have rn := prfB_more hp hz more
 have yb := prfB_byt hp
 have e1 := (pbytes_ok p hp).roRes2 (.inl ⟨_, _, rfl⟩)
 have e2 := (ebytes_ok p.a hp.a).roRes2 (.inl ⟨_, _, rfl⟩)
 have e3 := (ebytes_ok p.b hp.b).roRes2 (.inl ⟨_, _, rfl⟩)
 rw [F.1] at e2
 rw [F.2.1] at e3
 rw [hL] at e1 rc rn yb
 dsimp only at e1 rc rn yb
 clear hL hz F rm v1
 generalize (entB p.a).1 = x at *
 generalize (entB p.b).1 = y at *
 have lb : (prfL x y).length = 6 + x.length + y.length := by unfold prfL; simp only [List.length_append, List.length_cons, List.length_nil]; omega
 have c1 : ∀ i j : Int, i = 4 → j = 4 + x.length → cutB (bys (prfL x y)) (some i) (some j) 1 = bys x := fun i j hi hj => cut_at (p := [131, 2, 88, (x.length : Int)]) (by rw [hi]; rfl) (by rw [hj]; rfl)
 have c2 : ∀ i : Int, i = 6 + x.length → cutB (bys (prfL x y)) (some i) none 1 = bys y := fun i hi => by
  have := cut_end (p := [131, 2, 88, (x.length : Int)] ++ (x ++ [88, (y.length : Int)])) (x := y) (i := i) (by simp only [List.length_append, List.length_cons, List.length_nil]; omega)
  rw [show prfL x y = ([131, 2, 88, (x.length : Int)] ++ (x ++ [88, (y.length : Int)])) ++ y by unfold prfL; simp]
  exact this
 generalize prfL x y = b at *
 have s1 := bytes_ok x x (by omega)
 rw [dt rfl] at s1
 have s2 := bytes_ok y y (by omega)
 rw [dt rfl] at s2
 have w64 : IntKind.u64.wrap cut = cut % 18446744073709551616 := wrap_u64 cut
 obtain ⟨c, hc, hca⟩ := mod_len cut (n := b.length) (by omega)
 have d1 := pread_ok (b.take c) (fun x hx => yb.1 x (List.mem_of_mem_take hx)) (by simp; omega)
 rw [rc c hca] at d1
 have d2 := pread_ok (b ++ [more]) (fun x hx => by
  rcases List.mem_append.1 hx with h | h
  ·exact yb.1 x h
  ·rw [List.mem_singleton] at h; rw [h]; exact hmore) (by simp; omega)
 rw [rn] at d2
 dsimp only at d1 d2
 have t1 := twin_ok b (by omega)
 have k0 := kprf_ok prf0 prf0 ⟨ent0_S2, ent0_S2⟩ ⟨ent0_S2, ent0_S2⟩
 rw [dt rfl] at k0
 clear rc rn
 conv => whnf
 refine ⟨_, _, e1, by first | rfl | simp [noRoIf, noRoL, noRoV, noRoL_bys], ?_⟩
 conv => whnf
 repeat ((first | refine ⟨entC_pure _, ?_⟩ | refine ⟨rfl, ?_⟩ | refine ⟨_, rfl, ?_⟩); conv => whnf)
 refine ⟨_, _, e2, by first | rfl | simp [noRoIf, noRoL, noRoV, noRoL_bys], ?_⟩
 conv => whnf
 repeat ((first | refine ⟨entC_pure _, ?_⟩ | refine ⟨rfl, ?_⟩ | refine ⟨_, rfl, ?_⟩); conv => whnf)
 refine ⟨_, _, e3, by first | rfl | simp [noRoIf, noRoL, noRoV, noRoL_bys], ?_⟩
 conv => whnf
 repeat ((first | refine ifB_f ?_ | (refine ifB_neg (decide_eq_false (by first | omega | rfl | (dsimp only; omega))) ?_) | (refine fit_i64 ⟨by first | omega | rfl | (dsimp only; omega), by first | omega | rfl | (dsimp only; omega)⟩ ?_) | refine ⟨pureL_bys _, ?_⟩ | refine ⟨pureL_cutB _ _ _ _, ?_⟩ | refine ⟨rfl, ?_⟩ | (refine ⟨⟨?_, ?_⟩, ?_⟩; (focus (simp; done)); (focus (first | (simp only [okB]; omega) | (simp [okB]; omega))))); conv => whnf)
 refine ⟨_, _, s1.arg22 (by simp [lenB]; omega) (c1 _ _ rfl rfl) rfl rfl, by first | rfl | simp [noRoIf, noRoL, noRoV, noRoL_bys], ?_⟩
 conv => whnf
 repeat ((first | refine ifB_f ?_ | (refine fit_i64 ⟨by first | omega | rfl | (dsimp only; omega), by first | omega | rfl | (dsimp only; omega)⟩ ?_) | refine ⟨pureL_bys _, ?_⟩ | refine ⟨pureL_cutB _ _ _ _, ?_⟩ | refine ⟨rfl, ?_⟩ | (refine ⟨⟨?_, ?_⟩, ?_⟩; (focus (simp; done)); (focus (first | (simp only [okB]; omega) | (simp [okB]; omega))))); conv => whnf)
 refine ⟨_, _, s2.arg22 (by simp [lenB]; omega) (c2 _ rfl) rfl rfl, by first | rfl | simp [noRoIf, noRoL, noRoV, noRoL_bys], ?_⟩
 conv => whnf
 repeat ((refine ifB_f ?_); conv => whnf)
 refine fit_wrap ?_
 rw [w64]
 conv => whnf
 repeat ((first | (refine fit_i64 ⟨by first | omega | rfl | (dsimp only; omega), by first | omega | rfl | (dsimp only; omega)⟩ ?_) | (refine fit_u64 ⟨by first | omega | rfl | (dsimp only; omega), by first | omega | rfl | (dsimp only; omega)⟩ ?_) | refine ⟨pureL_cutB _ _ _ _, ?_⟩ | refine ⟨rfl, ?_⟩ | (refine And.intro (by first | omega | rfl | (dsimp only; omega)) ?_) | (refine ⟨⟨?_, ?_⟩, ?_⟩; (focus (simp; done)); (focus (first | (simp only [okB]; omega) | (simp [okB]; omega))))); conv => whnf)
 rw [hc]
 conv => whnf
 refine ⟨_, _, ACall.arg1 d1 (by simp [lenB]; omega) (by simp [cutB, offB, lenB, endB, bys_take]), by first | rfl | simp [noRoIf, noRoL, noRoV, noRoL_bys], ?_⟩
 conv => whnf
 repeat ((first | refine ⟨(⟨by kernel_rfl, by kernel_rfl, Nat.le_of_ble_eq_true (by kernel_rfl)⟩ : AV.ones _ = true ∧ _ ∧ _), ?_⟩ | refine ⟨rfl, ?_⟩); conv => whnf)
 refine Does.freeze 2 rfl (Does.tidy [(2, .int .u8 more), (7, .ro b.length (bys b)), (13, .rop (prfC prf0)), (14, .int .i64 3)] [(1, prfC p)] 3 123 rfl rfl rfl (by kernel_rfl) (by kernel_rfl) ?_)
 refine wpc_sound (M := MRow2) (PL := PL0) (CU := noCut) TTok mixed _ _ _ ?_
 conv => whnf
 repeat ((first | refine ⟨pureL_bys _, ?_⟩ | refine ⟨rfl, ?_⟩); conv => whnf)
 refine ⟨_, _, t1, by first | rfl | simp [noRoIf, noRoL, noRoV, noRoL_bys], ?_⟩
 conv => whnf
 repeat ((first | (refine Or.inl ⟨⟨rfl, ?_⟩, ?_⟩; (focus (first | rfl | (simp; done) | (rw [toksC_length]; omega)))) | refine ⟨rfl, ?_⟩ | (refine ⟨⟨rfl, rfl, ?_, ?_⟩, ?_⟩; (focus (first | (simp [lenB, offB]; done) | (simp [lenB, offB]; omega))); (focus (first | (simp [limB, lenB, offB]; done) | (simp [limB, lenB, offB]; omega)))) | (refine And.intro ?_ ?_; (focus (simp [pureL, pureV, pureL_bys, pureL_toks, pureL_app]; done)))); conv => whnf)
 conv => whnf
 refine ⟨_, _, (ACall.arg1 d2 (by simp) (by simp [bys])).ownArg, by first | rfl | simp [noRoIf, noRoL, noRoV, noRoL_bys], ?_⟩
 conv => whnf
 repeat ((first | refine ifB_t ?_ | refine ⟨(⟨by kernel_rfl, by kernel_rfl, Nat.le_of_ble_eq_true (by kernel_rfl)⟩ : AV.ones _ = true ∧ _ ∧ _), ?_⟩ | refine ⟨entC_pure _, ?_⟩ | refine ⟨rfl, ?_⟩ | refine ⟨_, rfl, ?_⟩); conv => whnf)
 refine ⟨_, _, prf0_args k0, by first | rfl | simp [noRoIf, noRoL, noRoV, noRoL_bys], ?_⟩
 conv => whnf
 repeat ((first | refine ifB_t ?_ | refine ⟨rfl, ?_⟩); conv => whnf)
 refine ⟨_, _, wakes12_ok, by first | rfl | simp [noRoIf, noRoL, noRoV, noRoL_bys], ?_⟩
 conv => whnf
 repeat ((first | refine ifB_t ?_ | refine ⟨rfl, ?_⟩); conv => whnf)
 rfl
end
end Go.Proofs.YtdmkpmijcgiggaaGreatDoor.Abs
