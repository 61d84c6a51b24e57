/- Texts PO,PW. -/
import Derived.Test.YtdmkpmijcgiggaaGreatDoorU16
set_option linter.unusedVariables false
set_option linter.unusedSimpArgs false
section

namespace Go.Proofs.YtdmkpmijcgiggaaGreatDoor.Abs
open Go
/-- An entry at another one's place. -/
def atE (a b : Ent) : Ent := ⟨a.au, a.seq, a.prev, b.stamp, b.kind, b.key, b.val, b.sig⟩
theorem atE_S {a b : Ent} (ha : EntS a) (hb : EntS b) : EntS (atE a b) where
  au := ha.au
  seq := ha.seq
  prev := ha.prev
  stamp := hb.stamp
  kind := hb.kind
  key := hb.key
  val := hb.val
  sig := hb.sig
  key' := hb.key'
  val' := hb.val'
theorem atE_R {a b : Ent} (ha : entR a = true) (hb : entR b = true) : entR (atE a b) = true := by
  unfold entR at ha hb ⊢
  rw [show (atE a b).seq = a.seq from rfl, show (atE a b).prev = a.prev from rfl, show (atE a b).stamp = b.stamp from rfl, show opR (atE a b) = opR b from rfl]
  simp only [Bool.and_eq_true] at ha hb ⊢
  exact ⟨⟨ha.1.1, hb.1.2⟩, hb.2⟩
theorem cmpI_or {x y : List Int} (h : x ≠ y) : (cmpI x y = -1 ∧ bytesLt x y = true) ∨ (cmpI x y = 1 ∧ bytesLt x y = false) := by
  unfold cmpI
  cases hb : bytesLt x y
  · right
    rw [if_neg (by simp), if_neg h]
    exact ⟨rfl, rfl⟩
  · left
    exact ⟨rfl, rfl⟩
theorem lt_total : ∀ {x y : List Int}, x ≠ y → bytesLt x y = false → bytesLt y x = true
  | [], [], h, _ => absurd rfl h
  | [], _ :: _, _, k => by simp [bytesLt] at k
  | _ :: _, [], _, _ => by simp [bytesLt]
  | x :: a, y :: b, h, k => by
    simp only [bytesLt, Bool.or_eq_false_iff, Bool.and_eq_false_iff, decide_eq_false_iff_not, beq_eq_false_iff_ne, Bool.or_eq_true, Bool.and_eq_true, decide_eq_true_eq, beq_iff_eq] at k ⊢
    by_cases e : x = y
    · right
      refine ⟨e.symm, lt_total (fun e' => h (by rw [e, e'])) ?_⟩
      rcases k.2 with k | k
      · exact absurd e k
      · exact k
    · left; omega
/-- Of two unlike entries of one place there is the proof with the lesser one first. -/
theorem mkP_two {a b : Ent} (ha : EntS a) (hb : EntS b) (ra : entR a = true) (rb : entR b = true) (h1 : a.au = b.au) (h2 : a.seq = b.seq) (ne : a ≠ b) :
    ∃ x y, mkP a b = (⟨x, y⟩, 0) ∧ bytesLt (entB x).1 (entB y).1 = true ∧ ((x = a ∧ y = b) ∨ (x = b ∧ y = a)) := by
  have za := entB_ok0 ha ra
  have zb := entB_ok0 hb rb
  have hn : (entB a).1 ≠ (entB b).1 := fun h => by
    have := entB_inj ha hb za zb
    rw [decide_eq_true h] at this
    exact ne (of_decide_eq_true this.symm)
  have ho : ordR a b = cmpI (entB a).1 (entB b).1 := by
    unfold ordR
    rw [if_neg (by simp [za]), if_neg (by simp [zb]), if_neg (fun h => h h1), if_neg (fun h => h h2)]
  unfold mkP
  rw [ho]
  rcases cmpI_or hn with ⟨e, l⟩ | ⟨e, l⟩
  · rw [e]
    exact ⟨a, b, rfl, l, .inl ⟨rfl, rfl⟩⟩
  · rw [e]
    exact ⟨b, a, rfl, lt_total hn l, .inr ⟨rfl, rfl⟩⟩
theorem prf_unlike {a b c d : Ent} {x y z w : Ent} (h : (x = a ∧ y = b) ∨ (x = b ∧ y = a)) (k : (z = c ∧ w = d) ∨ (z = d ∧ w = c)) (h1 : a ≠ c ∨ b ≠ d) (h2 : a ≠ d ∨ b ≠ c) : (⟨x, y⟩ : Prf) ≠ ⟨z, w⟩ := by
  intro e
  injection e with e1 e2
  rcases h with ⟨rfl, rfl⟩ | ⟨rfl, rfl⟩ <;> rcases k with ⟨rfl, rfl⟩ | ⟨rfl, rfl⟩
  · rcases h1 with g | g
    · exact g e1
    · exact g e2
  · rcases h2 with g | g
    · exact g e1
    · exact g e2
  · rcases h2 with g | g
    · exact g e2
    · exact g e1
  · rcases h1 with g | g
    · exact g e2
    · exact g e1
end Go.Proofs.YtdmkpmijcgiggaaGreatDoor.Abs
end
section
--KR
namespace Go.Proofs.YtdmkpmijcgiggaaGreatDoor.Abs
open Go
attribute [local irreducible] ifB fitP Does Weaker
def PLpo : Nat → Bool × Plan := plans [(3, (false, (takesTo [0, 1, 2, 3, 4, 5, 6] (.all [(7, (takesTo [8] (.all [(9, (takesTo [10] (.all [(11, .done)])))])))])))), (4, (false, (takesTo [0, 1, 2, 3, 4, 5, 6] (.all [(7, (takesTo [8] (.all [(9, (takesTo [10] (.all [(11, .done)])))])))]))))]
theorem entS_of3 {a b c : Ent} (ha : EntOk a) (hb : EntOk b) (hc : EntOk c) (hv : heavyEs [a, b, c] = false) : EntS a ∧ EntS b ∧ EntS c := by
  have h1 := (heavyEs_no hv).2 a (by simp)
  have h2 := (heavyEs_no hv).2 b (by simp)
  have h3 := (heavyEs_no hv).2 c (by simp)
  exact ⟨{ ha with key' := by omega, val' := by omega }, { hb with key' := by omega, val' := by omega }, { hc with key' := by omega, val' := by omega }⟩
set_option maxRecDepth 20000 in
set_option maxHeartbeats 4000000 in
theorem proofOrder_ok (a b c : Ent) (oa : EntOk a) (ob : EntOk b) (oc : EntOk c) : ACall Tryz.prog 4 [.agg (entC a), .agg (entC b), .agg (entC c)] (.bool true) [] := by
  have v1 := heavy11_ok [a, b, c]
  refine ACall.of_does TTok Tryz.func4 rfl Tryz.call4 rfl (wpc_sound (M := MRow) (PL := PLpo) (CU := cutAt [100001, 100003, 100004, 100005, 100008, 100009, 100010]) TTok mixed _ _ _ ?_)
  conv => whnf
  repeat ((refine ⟨rfl, ?_⟩); conv => whnf)
  refine Does.freeze 0 rfl (Does.tidy [(3, .rop (entC a)), (4, .ptr 1 0), (5, .ptr 2 0)] [(1, frzL 0 (entC a) (entC b)), (2, frzL 0 (entC a) (entC c))] 3 137 rfl rfl rfl (by kernel_rfl) (by kernel_rfl) ?_)
  rw [entC_frz, entC_frz]
  refine wpc_sound (M := MRow) (PL := PLpo) (CU := noCut) TTok mixed _ _ _ ?_
  conv => whnf
  refine ⟨entC a, by kernel_rfl, ?_⟩
  conv => whnf
  refine ⟨entC b, by kernel_rfl, ?_⟩
  conv => whnf
  refine ⟨entC c, by kernel_rfl, ?_⟩
  conv => whnf
  repeat ((first | (refine Or.inl ⟨⟨rfl, ?_⟩, ?_⟩; (focus (first | rfl | (simp; done) | (rw [toksC_length]; omega)))) | refine ⟨rfl, ?_⟩ | refine ⟨⟨rfl, rfl⟩, ?_⟩ | (refine And.intro ?_ ?_; (focus (first | (simp only [pureL, pureV, pureL_bys, Bool.and_true, Bool.and_self]; done) | (simp only [pureL, pureV, pureL_bys, pureL_toks, Bool.and_true, Bool.and_self]; done))))); conv => whnf)
  cases hv : heavyEs [a, b, c] <;> rw [hv] at v1
  case true =>
    refine ⟨_, _, v1.arg1 rfl (by simp [rowsC]; rfl), by first | rfl | simp [noRoIf, noRoL, noRoV, noRoL_bys], ?_⟩
    conv => whnf
    repeat ((first | refine ifB_t ?_ | refine ⟨rfl, ?_⟩); conv => whnf)
    rfl
  refine ⟨_, _, v1.arg1 rfl (by simp [rowsC]; rfl), by first | rfl | simp [noRoIf, noRoL, noRoV, noRoL_bys], ?_⟩
  conv => whnf
  repeat (first | (refine ifB_t ?_; conv => whnf) | (refine ifB_f ?_; conv => whnf))
  refine ⟨entC a, by kernel_rfl, ?_⟩
  conv => whnf
  repeat (first | (refine ifB_t ?_; conv => whnf) | (refine ifB_f ?_; conv => whnf))
  refine ⟨entC_pure _, ?_⟩
  conv => whnf
  refine ⟨rfl, ?_⟩
  conv => whnf
  obtain ⟨ha, hb, hc⟩ := entS_of3 oa ob oc hv
  have ra := refentry_ok a ha
  have rb := refentry_ok b hb
  have rc := refentry_ok c hc
  cases hra : entR a <;> rw [hra] at ra
  case false =>
    refine ⟨_, _, ra, by first | rfl | simp [noRoIf, noRoL, noRoV, noRoL_bys], ?_⟩
    conv => whnf
    repeat ((first | refine ifB_t ?_ | refine ifB_f ?_ | refine ⟨rfl, ?_⟩); conv => whnf)
    rfl
  refine ⟨_, _, ra, by first | rfl | simp [noRoIf, noRoL, noRoV, noRoL_bys], ?_⟩
  conv => whnf
  repeat (first | (refine ifB_t ?_; conv => whnf) | (refine ifB_f ?_; conv => whnf))
  refine ⟨entC b, by kernel_rfl, ?_⟩
  conv => whnf
  repeat (first | (refine ifB_t ?_; conv => whnf) | (refine ifB_f ?_; conv => whnf))
  refine ⟨entC_pure _, ?_⟩
  conv => whnf
  refine ⟨rfl, ?_⟩
  conv => whnf
  cases hrb : entR b <;> rw [hrb] at rb
  case false =>
    refine ⟨_, _, rb, by first | rfl | simp [noRoIf, noRoL, noRoV, noRoL_bys], ?_⟩
    conv => whnf
    repeat ((first | refine ifB_t ?_ | refine ifB_f ?_ | refine ⟨rfl, ?_⟩); conv => whnf)
    rfl
  refine ⟨_, _, rb, by first | rfl | simp [noRoIf, noRoL, noRoV, noRoL_bys], ?_⟩
  conv => whnf
  repeat (first | (refine ifB_t ?_; conv => whnf) | (refine ifB_f ?_; conv => whnf))
  refine ⟨entC c, by kernel_rfl, ?_⟩
  conv => whnf
  repeat (first | (refine ifB_t ?_; conv => whnf) | (refine ifB_f ?_; conv => whnf))
  refine ⟨entC_pure _, ?_⟩
  conv => whnf
  refine ⟨rfl, ?_⟩
  conv => whnf
  cases hrc : entR c <;> rw [hrc] at rc
  case false =>
    refine ⟨_, _, rc, by first | rfl | simp [noRoIf, noRoL, noRoV, noRoL_bys], ?_⟩
    conv => whnf
    repeat ((first | refine ifB_t ?_ | refine ifB_f ?_ | refine ⟨rfl, ?_⟩); conv => whnf)
    rfl
  refine ⟨_, _, rc, by first | rfl | simp [noRoIf, noRoL, noRoV, noRoL_bys], ?_⟩
  conv => whnf
  repeat ((refine ifB_f ?_); conv => whnf)
  refine Does.tidy [(3, .rop (entC a)), (4, .ptr 1 0), (5, .ptr 2 0)] [(1, entC b), (2, entC c), (3, entC a ++ (entC b ++ (entC c ++ [])))] 4 137 rfl rfl rfl (by kernel_rfl) (by kernel_rfl) ?_
  refine wpc_sound (M := MRow) (PL := PLpo) (CU := noCut) TTok mixed _ _ _ ?_
  conv => whnf
  refine ⟨by kernel_rfl, ?_⟩
  conv => whnf
  refine ⟨by kernel_rfl, ?_⟩
  conv => whnf
  refine ⟨c32 a.au [], by kernel_rfl, ?_⟩
  conv => whnf
  refine ⟨by kernel_rfl, ?_⟩
  conv => whnf
  refine ⟨_, rfl, ?_⟩
  conv => whnf
  refine ⟨by kernel_rfl, ?_⟩
  conv => whnf
  refine ⟨c32 a.prev [], by kernel_rfl, ?_⟩
  conv => whnf
  refine ⟨(⟨by kernel_rfl, by kernel_rfl, Nat.le_of_ble_eq_true (by kernel_rfl)⟩ : AV.ones _ = true ∧ _ ∧ _), ?_⟩
  conv => whnf
  refine ⟨(⟨by kernel_rfl, by kernel_rfl, Nat.le_of_ble_eq_true (by kernel_rfl)⟩ : AV.ones _ = true ∧ _ ∧ _), ?_⟩
  conv => whnf
  refine ⟨(⟨by kernel_rfl, by kernel_rfl, Nat.le_of_ble_eq_true (by kernel_rfl)⟩ : AV.ones _ = true ∧ _ ∧ _), ?_⟩
  conv => whnf
  refine Does.tidy [(3, .rop (entC a)), (4, .ptr 1 0), (5, .ptr 2 0)] [(1, entC (atE a b)), (2, entC c), (3, entC a ++ (entC b ++ (entC c ++ [])))] 4 137 rfl rfl rfl (by kernel_rfl) (by kernel_rfl) ?_
  refine wpc_sound (M := MRow) (PL := PLpo) (CU := noCut) TTok mixed _ _ _ ?_
  conv => whnf
  refine ⟨by kernel_rfl, ?_⟩
  conv => whnf
  refine ⟨by kernel_rfl, ?_⟩
  conv => whnf
  refine ⟨c32 a.au [], by kernel_rfl, ?_⟩
  conv => whnf
  refine ⟨by kernel_rfl, ?_⟩
  conv => whnf
  refine ⟨_, rfl, ?_⟩
  conv => whnf
  refine ⟨by kernel_rfl, ?_⟩
  conv => whnf
  refine ⟨c32 a.prev [], by kernel_rfl, ?_⟩
  conv => whnf
  refine ⟨(⟨by kernel_rfl, by kernel_rfl, Nat.le_of_ble_eq_true (by kernel_rfl)⟩ : AV.ones _ = true ∧ _ ∧ _), ?_⟩
  conv => whnf
  refine ⟨(⟨by kernel_rfl, by kernel_rfl, Nat.le_of_ble_eq_true (by kernel_rfl)⟩ : AV.ones _ = true ∧ _ ∧ _), ?_⟩
  conv => whnf
  refine ⟨(⟨by kernel_rfl, by kernel_rfl, Nat.le_of_ble_eq_true (by kernel_rfl)⟩ : AV.ones _ = true ∧ _ ∧ _), ?_⟩
  conv => whnf
  have sb := atE_S ha hb
  have sc := atE_S ha hc
  have tb := atE_R hra hrb
  have tc := atE_R hra hrc
  refine Does.tidy [(3, .rop (entC a)), (4, .ptr 1 0), (5, .ptr 2 0)] [(1, entC (atE a b)), (2, entC (atE a c)), (3, entC a ++ (entC b ++ (entC c ++ [])))] 4 137 rfl rfl rfl (by kernel_rfl) (by kernel_rfl) ?_
  refine Does.freeze 1 rfl (Does.freeze 2 (zs := entC (atE a c)) (by show some (frzL 1 _ (entC (atE a c))) = _; rw [entC_frz]) (Does.tidy [(3, .rop (entC a)), (4, .rop (entC (atE a b))), (5, .rop (entC (atE a c)))] [(3, entC a ++ (entC b ++ (entC c ++ [])))] 4 137 rfl rfl rfl (by kernel_rfl) (by kernel_rfl) ?_))
  clear ra rb rc v1
  have k1 := kent_ok a (atE a b) ha sb
  have k2 := kent_ok (atE a b) (atE a c) sb sc
  have k3 := kent_ok a (atE a c) ha sc
  have m1 := fun h => mkP_two ha sb hra tb rfl rfl h
  have m2 := fun h => mkP_two sb sc tb tc rfl rfl h
  have m3 := fun h => mkP_two sc ha tc hra rfl rfl h
  have n1 := pmake_ok a (atE a b) ha sb
  have n2 := pmake_ok (atE a b) (atE a c) sb sc
  have n3 := pmake_ok (atE a c) a sc ha
  generalize atE a b = B at *
  generalize atE a c = C at *
  refine wpc_sound (M := MRow) (PL := PLpo) (CU := noCut) TTok mixed _ _ _ ?_
  conv => whnf
  repeat ((first | refine ⟨entC_pure _, ?_⟩ | refine ⟨rfl, ?_⟩ | refine ⟨_, rfl, ?_⟩); conv => whnf)
  by_cases h1 : a = B
  · rw [dt h1] at k1
    refine ⟨_, _, k1, by first | rfl | simp [noRoIf, noRoL, noRoV, noRoL_bys], ?_⟩
    conv => whnf
    repeat ((first | refine ifB_t ?_ | refine ⟨rfl, ?_⟩); conv => whnf)
    rfl
  rw [df h1] at k1
  refine ⟨_, _, k1, by first | rfl | simp [noRoIf, noRoL, noRoV, noRoL_bys], ?_⟩
  conv => whnf
  repeat ((first | refine ifB_f ?_ | refine ⟨entC_pure _, ?_⟩ | refine ⟨rfl, ?_⟩ | refine ⟨_, rfl, ?_⟩); conv => whnf)
  by_cases h2 : B = C
  · rw [dt h2] at k2
    refine ⟨_, _, k2, by first | rfl | simp [noRoIf, noRoL, noRoV, noRoL_bys], ?_⟩
    conv => whnf
    repeat ((first | refine ifB_t ?_ | refine ifB_f ?_ | refine ⟨rfl, ?_⟩); conv => whnf)
    rfl
  rw [df h2] at k2
  refine ⟨_, _, k2, by first | rfl | simp [noRoIf, noRoL, noRoV, noRoL_bys], ?_⟩
  conv => whnf
  repeat ((first | refine ifB_f ?_ | refine ⟨entC_pure _, ?_⟩ | refine ⟨rfl, ?_⟩ | refine ⟨_, rfl, ?_⟩); conv => whnf)
  by_cases h3 : a = C
  · rw [dt h3] at k3
    refine ⟨_, _, k3, by first | rfl | simp [noRoIf, noRoL, noRoV, noRoL_bys], ?_⟩
    conv => whnf
    repeat ((first | refine ifB_t ?_ | refine ifB_f ?_ | refine ⟨rfl, ?_⟩); conv => whnf)
    rfl
  rw [df h3] at k3
  refine ⟨_, _, k3, by first | rfl | simp [noRoIf, noRoL, noRoV, noRoL_bys], ?_⟩
  conv => whnf
  repeat ((first | refine ifB_f ?_ | refine ⟨entC_pure _, ?_⟩ | refine ⟨rfl, ?_⟩ | refine ⟨_, rfl, ?_⟩); conv => whnf)
  obtain ⟨x1, y1, q1, l1, o1⟩ := m1 h1
  obtain ⟨x2, y2, q2, l2, o2⟩ := m2 h2
  obtain ⟨x3, y3, q3, l3, o3⟩ := m3 (fun h => h3 h.symm)
  rw [q1] at n1
  rw [q2] at n2
  rw [q3] at n3
  have pS : ∀ {x y u v : Ent}, EntS u → EntS v → ((x = u ∧ y = v) ∨ (x = v ∧ y = u)) → PrfS ⟨x, y⟩ := fun hu hv h => by
    rcases h with ⟨rfl, rfl⟩ | ⟨rfl, rfl⟩
    · exact ⟨hu, hv⟩
    · exact ⟨hv, hu⟩
  have s1 := pS ha sb o1
  have s2 := pS sb sc o2
  have s3 := pS sc ha o3
  have g1 := kprf_ok _ _ s1 s2
  rw [df (prf_unlike o1 o2 (.inl h1) (.inl h3))] at g1
  have g2 := kprf_ok _ _ s2 s3
  rw [df (prf_unlike o2 o3 (.inl h2) (.inl (fun h => h1 h.symm)))] at g2
  have g3 := kprf_ok _ _ s1 s3
  rw [df (prf_unlike o1 o3 (.inl h3) (.inr (fun h => h2 h)))] at g3
  have zx : entR x1 = true ∧ entR y1 = true := by
    rcases o1 with ⟨rfl, rfl⟩ | ⟨rfl, rfl⟩
    · exact ⟨hra, tb⟩
    · exact ⟨tb, hra⟩
  have ex := (ebytes_ok x1 s1.a).roRes2 (.inl ⟨_, _, rfl⟩)
  rw [entB_ok0 s1.a zx.1] at ex
  have ey := (ebytes_ok y1 s1.b).roRes2 (.inl ⟨_, _, rfl⟩)
  rw [entB_ok0 s1.b zx.2] at ey
  have bx := entB_byt s1.a
  have b_y := entB_byt s1.b
  dsimp only at n1 n2 n3
  clear m1 m2 m3 k1 k2 k3 o1 o2 o3 l2 l3 q1 q2 q3 pS s1 s2 s3 zx
  generalize (entB x1).1 = u at *
  generalize (entB y1).1 = v at *
  refine ⟨_, _, n1, by first | rfl | simp [noRoIf, noRoL, noRoV, noRoL_bys], ?_⟩
  conv => whnf
  repeat ((first | refine ⟨(⟨by kernel_rfl, by kernel_rfl, Nat.le_of_ble_eq_true (by kernel_rfl)⟩ : AV.ones _ = true ∧ _ ∧ _), ?_⟩ | refine ⟨rfl, ?_⟩); conv => whnf)
  refine Does.freeze 4 rfl (Does.tidy [(3, .rop (entC a)), (4, .rop (entC B)), (5, .rop (entC C)), (7, .rop (prfC ⟨x1, y1⟩)), (8, .int .i64 0)] [(3, entC a ++ (entC b ++ (entC c ++ [])))] 5 137 rfl rfl rfl (by kernel_rfl) (by kernel_rfl) ?_)
  refine wpc_sound (M := MRow) (PL := PLpo) (CU := noCut) TTok mixed _ _ _ ?_
  conv => whnf
  repeat ((first | refine ⟨entC_pure _, ?_⟩ | refine ⟨rfl, ?_⟩ | refine ⟨_, rfl, ?_⟩); conv => whnf)
  refine ⟨_, _, n2, by first | rfl | simp [noRoIf, noRoL, noRoV, noRoL_bys], ?_⟩
  conv => whnf
  repeat ((first | refine ⟨(⟨by kernel_rfl, by kernel_rfl, Nat.le_of_ble_eq_true (by kernel_rfl)⟩ : AV.ones _ = true ∧ _ ∧ _), ?_⟩ | refine ⟨rfl, ?_⟩); conv => whnf)
  refine Does.freeze 5 rfl (Does.tidy [(3, .rop (entC a)), (4, .rop (entC B)), (5, .rop (entC C)), (7, .rop (prfC ⟨x1, y1⟩)), (8, .int .i64 0), (9, .rop (prfC ⟨x2, y2⟩)), (10, .int .i64 0)] [(3, entC a ++ (entC b ++ (entC c ++ [])))] 6 137 rfl rfl rfl (by kernel_rfl) (by kernel_rfl) ?_)
  refine wpc_sound (M := MRow) (PL := PLpo) (CU := noCut) TTok mixed _ _ _ ?_
  conv => whnf
  repeat ((first | refine ⟨entC_pure _, ?_⟩ | refine ⟨rfl, ?_⟩ | refine ⟨_, rfl, ?_⟩); conv => whnf)
  refine ⟨_, _, n3, by first | rfl | simp [noRoIf, noRoL, noRoV, noRoL_bys], ?_⟩
  conv => whnf
  repeat ((first | refine ⟨(⟨by kernel_rfl, by kernel_rfl, Nat.le_of_ble_eq_true (by kernel_rfl)⟩ : AV.ones _ = true ∧ _ ∧ _), ?_⟩ | refine ⟨rfl, ?_⟩); conv => whnf)
  refine Does.freeze 6 rfl (Does.tidy [(3, .rop (entC a)), (4, .rop (entC B)), (5, .rop (entC C)), (7, .rop (prfC ⟨x1, y1⟩)), (8, .int .i64 0), (9, .rop (prfC ⟨x2, y2⟩)), (10, .int .i64 0), (11, .rop (prfC ⟨x3, y3⟩)), (12, .int .i64 0)] [(3, entC a ++ (entC b ++ (entC c ++ [])))] 7 137 rfl rfl rfl (by kernel_rfl) (by kernel_rfl) ?_)
  refine wpc_sound (M := MRow) (PL := PLpo) (CU := noCut) TTok mixed _ _ _ ?_
  conv => whnf
  repeat ((first | refine ifB_f ?_ | refine ⟨rfl, ?_⟩ | refine ⟨_, rfl, ?_⟩ | (refine And.intro ?_ ?_; (focus (first | (simp only [pureL, pureV, pureL_bys, Bool.and_true, Bool.and_self]; done) | (simp only [pureL, pureV, pureL_bys, pureL_toks, Bool.and_true, Bool.and_self]; done))))); conv => whnf)
  refine ⟨_, _, g1, by first | rfl | simp [noRoIf, noRoL, noRoV, noRoL_bys], ?_⟩
  conv => whnf
  repeat ((first | refine ifB_f ?_ | refine ⟨rfl, ?_⟩ | refine ⟨_, rfl, ?_⟩ | (refine And.intro ?_ ?_; (focus (first | (simp only [pureL, pureV, pureL_bys, Bool.and_true, Bool.and_self]; done) | (simp only [pureL, pureV, pureL_bys, pureL_toks, Bool.and_true, Bool.and_self]; done))))); conv => whnf)
  refine ⟨_, _, g2, by first | rfl | simp [noRoIf, noRoL, noRoV, noRoL_bys], ?_⟩
  conv => whnf
  repeat ((first | refine ifB_f ?_ | refine ⟨rfl, ?_⟩ | refine ⟨_, rfl, ?_⟩ | (refine And.intro ?_ ?_; (focus (first | (simp only [pureL, pureV, pureL_bys, Bool.and_true, Bool.and_self]; done) | (simp only [pureL, pureV, pureL_bys, pureL_toks, Bool.and_true, Bool.and_self]; done))))); conv => whnf)
  refine ⟨_, _, g3, by first | rfl | simp [noRoIf, noRoL, noRoV, noRoL_bys], ?_⟩
  conv => whnf
  repeat ((first | refine ifB_f ?_ | refine ⟨entC_pure _, ?_⟩ | refine ⟨rfl, ?_⟩ | refine ⟨_, rfl, ?_⟩); conv => whnf)
  refine ⟨_, _, ex, by first | rfl | simp [noRoIf, noRoL, noRoV, noRoL_bys], ?_⟩
  conv => whnf
  repeat ((first | refine ⟨entC_pure _, ?_⟩ | refine ⟨rfl, ?_⟩ | refine ⟨_, rfl, ?_⟩); conv => whnf)
  refine ⟨_, _, ey, by first | rfl | simp [noRoIf, noRoL, noRoV, noRoL_bys], ?_⟩
  conv => whnf
  repeat ((first | refine ifB_t ?_ | (refine And.intro ?_ ?_; (focus (first | (simp [limB, lenB, offB]; done) | (simp [limB, lenB, offB]; omega))))); conv => whnf)
  refine ⟨u, ⟨by first | rfl | exact whole_bys u, bx.1⟩, ?_⟩
  conv => whnf
  repeat ((first | refine ifB_t ?_ | (refine And.intro ?_ ?_; (focus (first | (simp [limB, lenB, offB]; done) | (simp [limB, lenB, offB]; omega))))); conv => whnf)
  refine ⟨v, ⟨by first | rfl | exact whole_bys v, b_y.1⟩, ?_⟩
  conv => whnf
  repeat ((refine ifB_t ?_); conv => whnf)
  rw [l1]
  conv => whnf
  repeat ((first | refine ifB_t ?_ | refine ⟨rfl, ?_⟩); conv => whnf)
  refine ⟨_, _, wakes12_ok, by first | rfl | simp [noRoIf, noRoL, noRoV, noRoL_bys], ?_⟩
  conv => whnf
  repeat ((first | refine ifB_t ?_ | refine ⟨rfl, ?_⟩); conv => whnf)
  rfl
end Go.Proofs.YtdmkpmijcgiggaaGreatDoor.Abs
end
