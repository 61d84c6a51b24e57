/- Texts SN to FA7, merged. -/
import Derived.Test.YtdmkpmijcgiggaaGreatDoorU14
set_option linter.unusedVariables false
set_option linter.unusedSimpArgs false
namespace Go.Proofs.YtdmkpmijcgiggaaGreatDoor.Abs
open Go
section
--KR
attribute [local irreducible] ifB fitP Does Weaker
def p31 (l : List Int) : List Int := [l.getD 0 0, l.getD 1 0, l.getD 2 0, l.getD 3 0, l.getD 4 0, l.getD 5 0, l.getD 6 0, l.getD 7 0, l.getD 8 0, l.getD 9 0, l.getD 10 0, l.getD 11 0, l.getD 12 0, l.getD 13 0, l.getD 14 0, l.getD 15 0, l.getD 16 0, l.getD 17 0, l.getD 18 0, l.getD 19 0, l.getD 20 0, l.getD 21 0, l.getD 22 0, l.getD 23 0, l.getD 24 0, l.getD 25 0, l.getD 26 0, l.getD 27 0, l.getD 28 0, l.getD 29 0, l.getD 30 0, 1]
theorem getD_byt {l : List Int} (h : Byt l) (i : Nat) : 0 ≤ l.getD i 0 ∧ l.getD i 0 < 256 := by
 rw [List.getD_eq_getElem?_getD]
 cases hx : l[i]? with
 | none => simp
 | some x => exact h x (List.mem_of_getElem? hx)
theorem p31_ok {l : List Int} (h : Byt l) : Byt (p31 l) ∧ (p31 l).length = 32 := by
 refine ⟨fun x hx => ?_, rfl⟩
 unfold p31 at hx
 simp only [List.mem_cons, List.not_mem_nil, or_false] at hx
 rcases hx with rfl | rfl | rfl | rfl | rfl | rfl | rfl | rfl | rfl | rfl | rfl | rfl | rfl | rfl | rfl | rfl | rfl | rfl | rfl | rfl | rfl | rfl | rfl | rfl | rfl | rfl | rfl | rfl | rfl | rfl | rfl | rfl
 ·exact getD_byt h 0
 ·exact getD_byt h 1
 ·exact getD_byt h 2
 ·exact getD_byt h 3
 ·exact getD_byt h 4
 ·exact getD_byt h 5
 ·exact getD_byt h 6
 ·exact getD_byt h 7
 ·exact getD_byt h 8
 ·exact getD_byt h 9
 ·exact getD_byt h 10
 ·exact getD_byt h 11
 ·exact getD_byt h 12
 ·exact getD_byt h 13
 ·exact getD_byt h 14
 ·exact getD_byt h 15
 ·exact getD_byt h 16
 ·exact getD_byt h 17
 ·exact getD_byt h 18
 ·exact getD_byt h 19
 ·exact getD_byt h 20
 ·exact getD_byt h 21
 ·exact getD_byt h 22
 ·exact getD_byt h 23
 ·exact getD_byt h 24
 ·exact getD_byt h 25
 ·exact getD_byt h 26
 ·exact getD_byt h 27
 ·exact getD_byt h 28
 ·exact getD_byt h 29
 ·exact getD_byt h 30
 ·omega
theorem p31_ne (l : List Int) : p31 l ≠ z32 := fun h => by
 have := congrArg (fun x => x.getD 31 0) h
 exact absurd this (by decide : ¬ ((1 : Int) = 0))
def bentE (e : Ent) : Nat → Ent
 | 0 => ⟨e.au, 0, e.prev, e.stamp, e.kind, e.key, e.val, e.sig⟩
 | 1 => ⟨e.au, 201, e.prev, e.stamp, e.kind, e.key, e.val, e.sig⟩
 | 2 => ⟨e.au, 1, p31 e.prev, e.stamp, e.kind, e.key, e.val, e.sig⟩
 | 3 => ⟨e.au, e.seq, e.prev, -1, e.kind, e.key, e.val, e.sig⟩
 | 4 => ⟨e.au, e.seq, e.prev, e.stamp, e.kind, [], e.val, e.sig⟩
 | 5 => ⟨e.au, e.seq, e.prev, e.stamp, e.kind, [255], e.val, e.sig⟩
 | 6 => ⟨e.au, e.seq, e.prev, e.stamp, 3, e.key, e.val, e.sig⟩
 | _ => ⟨e.au, e.seq, e.prev, e.stamp, 2, e.key, [1], e.sig⟩
theorem one_byt {x : Int} (h : 0 ≤ x ∧ x < 256) : Byt [x] := fun y hy => by rw [List.mem_singleton] at hy; rw [hy]; exact h
theorem bentE_S {e : Ent} (he : EntS e) : ∀ c, EntS (bentE e c)
 | 0 => { he with seq := by show (_ : Int) ≤ 0 ∧ (0 : Int) < _; omega }
 | 1 => { he with seq := by show (_ : Int) ≤ 201 ∧ (201 : Int) < _; omega }
 | 2 => { he with seq := by show (_ : Int) ≤ 1 ∧ (1 : Int) < _; omega, prev := p31_ok he.prev.1 }
 | 3 => { he with stamp := by show (_ : Int) ≤ -1 ∧ (-1 : Int) < _; omega }
 | 4 => { he with key := ⟨fun x hx => absurd hx (List.not_mem_nil), by show 0 ≤ _; omega⟩, key' := by show 0 ≤ _; omega }
 | 5 => { he with key := ⟨one_byt (by omega), by show 1 ≤ _; omega⟩, key' := by show 1 ≤ _; omega }
 | 6 => { he with kind := by show (_ : Int) ≤ 3 ∧ (3 : Int) < _; omega }
 | (_ + 7) => { he with kind := by show (_ : Int) ≤ 2 ∧ (2 : Int) < _; omega, val := ⟨one_byt (by omega), by show 1 ≤ _; omega⟩, val' := by show 1 ≤ _; omega }
theorem bentE_R (e : Ent) : ∀ c, entR (bentE e c) = false
 | 0 => rfl
 | 1 => rfl
 | 2 => by
  unfold entR
  show (true && true && (false || decide (p31 e.prev = z32)) && _ && _) = false
  rw [df (p31_ne _)]
  rfl
 | 3 => by
  unfold entR
  show (_ && _ && _ && false && _) = false
  simp
 | 4 => by
  unfold entR
  rw [show opR (bentE e 4) = false from rfl]
  simp
 | 5 => by
  unfold entR
  rw [show opR (bentE e 5) = false by unfold opR; rw [show validR (bentE e 5).key = false from (by decide : validR [255] = false)]; simp]
  simp
 | 6 => by
  unfold entR
  rw [show opR (bentE e 6) = false by unfold opR; simp [bentE]]
  simp
 | (_ + 7) => by
  unfold entR
  rw [show opR (bentE e (_ + 7)) = false by unfold opR; simp [bentE]]
  simp
set_option maxRecDepth 20000 in
set_option maxHeartbeats 8000000 in
theorem entryBent_ok (e : Ent) (what : Int) (oe : EntOk e) (hw : -9223372036854775808 ≤ what ∧ what < 9223372036854775808) : ACall Tryz.prog 7 [.agg (entC e), .int .i64 what] (.bool true) [] := by
 have v1 := heavy11_ok [e]
 refine ACall.of_does TTok Tryz.func7 rfl Tryz.call7 rfl (wpc_sound (M := MRow) (PL := PL0) (CU := cutAt [100001, 100004, 100020]) TTok mixed _ _ _ ?_)
 conv => whnf
 repeat ((refine ⟨rfl, ?_⟩); conv => whnf)
 refine Does.freeze 0 rfl (Does.tidy [(1, .int .i64 what), (2, .rop (entC e))] [] 1 82 rfl rfl rfl (by kernel_rfl) (by kernel_rfl) ?_)
 refine wpc_sound (M := MRow) (PL := PL0) (CU := noCut) TTok mixed _ _ _ ?_
 conv => whnf
 repeat ((first | refine ⟨entC_pure _, ?_⟩ | (refine Or.inl ⟨⟨rfl, ?_⟩, ?_⟩; (focus (first | rfl | (simp; done) | (rw [toksC_length]; omega)))) | refine ⟨rfl, ?_⟩ | refine ⟨_, rfl, ?_⟩ | refine ⟨⟨rfl, rfl⟩, ?_⟩); conv => whnf)
 cases hv : heavyEs [e] <;> rw [hv] at v1
 case true =>
  refine ⟨_, _, v1.arg1 rfl (by simp [rowsC]; rfl), by first | rfl | simp [noRoIf, noRoL, noRoV, noRoL_bys], ?_⟩
  conv => whnf
  repeat ((first | refine ifB_t ?_ | refine ⟨rfl, ?_⟩); conv => whnf)
  rfl
 refine ⟨_, _, v1.arg1 rfl (by simp [rowsC]; rfl), by first | rfl | simp [noRoIf, noRoL, noRoV, noRoL_bys], ?_⟩
 conv => whnf
 repeat ((first | refine ifB_f ?_ | refine ⟨entC_pure _, ?_⟩ | refine ⟨rfl, ?_⟩ | refine ⟨_, rfl, ?_⟩); conv => whnf)
 have he := entS_of1 oe hv
 have rm := refentry_ok e he
 cases hr : entR e <;> rw [hr] at rm
 case false =>
  refine ⟨_, _, rm, by first | rfl | simp [noRoIf, noRoL, noRoV, noRoL_bys], ?_⟩
  conv => whnf
  repeat ((first | refine ifB_t ?_ | refine ifB_f ?_ | refine ⟨rfl, ?_⟩); conv => whnf)
  rfl
 refine ⟨_, _, rm, by first | rfl | simp [noRoIf, noRoL, noRoV, noRoL_bys], ?_⟩
 conv => whnf
 repeat ((first | refine ifB_f ?_ | refine ⟨entC_pure _, ?_⟩ | refine ⟨rfl, ?_⟩ | refine ⟨_, rfl, ?_⟩); conv => whnf)
 have tw := ktwin_ok e he
 refine ⟨_, _, tw, by first | rfl | simp [noRoIf, noRoL, noRoV, noRoL_bys], ?_⟩
 conv => whnf
 repeat ((first | refine ⟨(⟨by kernel_rfl, by kernel_rfl, Nat.le_of_ble_eq_true (by kernel_rfl)⟩ : AV.ones _ = true ∧ _ ∧ _), ?_⟩ | refine ⟨rfl, ?_⟩); conv => whnf)
 obtain ⟨c, hcc, hc8⟩ := mod_len what (n := 8) (by omega)
 have ww := wrap_u64 what
 have hw0 := check_entry_ok e he
 rw [hr] at hw0
 have hS := bentE_S he c
 have hb := (ebytes_ok _ hS).roRes2 (.inl ⟨_, _, rfl⟩)
 rw [entB_no (bentE_R e c)] at hb
 have hk := check_entry_ok _ hS
 rw [bentE_R] at hk
 have hy := everify_ok _ hS
 rw [show verE (bentE e c) = false by unfold verE; rw [bentE_R]; rfl] at hy
 clear hS rm v1 tw
 refine Does.tidy [(1, .int .i64 what), (2, .rop (entC e)), (5, .ptr 2 0)] [(1, entC e), (2, entC e)] 3 82 rfl rfl rfl (by kernel_rfl) (by kernel_rfl) ?_
 refine wpc_sound (M := MRow) (PL := PL0) (CU := cutAt [100020]) TTok mixed _ _ _ ?_
 conv => whnf
 refine fit_wrap ?_
 rw [ww]
 conv => whnf
 repeat ((refine And.intro (by first | omega | rfl | (dsimp only; omega)) ?_); conv => whnf)
 rw [show (what % 18446744073709551616).tmod 8 = (c : Int) from hcc]
 clear hcc ww
 have hcs : c = 0 ∨ c = 1 ∨ c = 2 ∨ c = 3 ∨ c = 4 ∨ c = 5 ∨ c = 6 ∨ c = 7 := by omega
 rcases hcs with rfl | rfl | rfl | rfl | rfl | rfl | rfl | rfl
 ·conv => whnf
  repeat ((first | refine ifB_t ?_ | refine ⟨(⟨by kernel_rfl, by kernel_rfl, Nat.le_of_ble_eq_true (by kernel_rfl)⟩ : AV.ones _ = true ∧ _ ∧ _), ?_⟩); conv => whnf)
  refine Does.freeze 2 rfl (Does.tidy [(2, .rop (entC e)), (5, .rop (entC (bentE e 0)))] [(1, entC e)] 3 82 rfl rfl rfl (by kernel_rfl) (by kernel_rfl) ?_)
  generalize bentE e 0 = w at hb hk hy ⊢
  refine wpc_sound (M := MRow) (PL := PL0) (CU := noCut) TTok mixed _ _ _ ?_
  conv => whnf
  repeat ((first | refine ⟨entC_pure _, ?_⟩ | refine ⟨rfl, ?_⟩ | refine ⟨_, rfl, ?_⟩); conv => whnf)
  refine ⟨_, _, hb, by first | rfl | simp [noRoIf, noRoL, noRoV, noRoL_bys], ?_⟩
  conv => whnf
  repeat ((first | refine ⟨entC_pure _, ?_⟩ | refine ⟨rfl, ?_⟩ | refine ⟨_, rfl, ?_⟩); conv => whnf)
  refine ⟨_, _, hw0, by first | rfl | simp [noRoIf, noRoL, noRoV, noRoL_bys], ?_⟩
  conv => whnf
  repeat ((first | refine ifB_t ?_ | refine ⟨entC_pure _, ?_⟩ | refine ⟨rfl, ?_⟩ | refine ⟨_, rfl, ?_⟩); conv => whnf)
  refine ⟨_, _, hk, by first | rfl | simp [noRoIf, noRoL, noRoV, noRoL_bys], ?_⟩
  conv => whnf
  repeat ((first | refine ifB_t ?_ | refine ⟨entC_pure _, ?_⟩ | refine ⟨rfl, ?_⟩ | refine ⟨_, rfl, ?_⟩); conv => whnf)
  refine ⟨_, _, hy, by first | rfl | simp [noRoIf, noRoL, noRoV, noRoL_bys], ?_⟩
  conv => whnf
  repeat ((first | refine ifB_t ?_ | refine ⟨rfl, ?_⟩); conv => whnf)
  refine ⟨_, _, wakes11_ok, by first | rfl | simp [noRoIf, noRoL, noRoV, noRoL_bys], ?_⟩
  conv => whnf
  repeat ((first | refine ifB_t ?_ | refine ⟨rfl, ?_⟩); conv => whnf)
  rfl
 ·conv => whnf
  repeat ((first | refine ifB_t ?_ | refine ifB_f ?_ | refine ⟨(⟨by kernel_rfl, by kernel_rfl, Nat.le_of_ble_eq_true (by kernel_rfl)⟩ : AV.ones _ = true ∧ _ ∧ _), ?_⟩); conv => whnf)
  refine Does.freeze 2 rfl (Does.tidy [(2, .rop (entC e)), (5, .rop (entC (bentE e 1)))] [(1, entC e)] 3 82 rfl rfl rfl (by kernel_rfl) (by kernel_rfl) ?_)
  generalize bentE e 1 = w at hb hk hy ⊢
  refine wpc_sound (M := MRow) (PL := PL0) (CU := noCut) TTok mixed _ _ _ ?_
  conv => whnf
  repeat ((first | refine ⟨entC_pure _, ?_⟩ | refine ⟨rfl, ?_⟩ | refine ⟨_, rfl, ?_⟩); conv => whnf)
  refine ⟨_, _, hb, by first | rfl | simp [noRoIf, noRoL, noRoV, noRoL_bys], ?_⟩
  conv => whnf
  repeat ((first | refine ⟨entC_pure _, ?_⟩ | refine ⟨rfl, ?_⟩ | refine ⟨_, rfl, ?_⟩); conv => whnf)
  refine ⟨_, _, hw0, by first | rfl | simp [noRoIf, noRoL, noRoV, noRoL_bys], ?_⟩
  conv => whnf
  repeat ((first | refine ifB_t ?_ | refine ⟨entC_pure _, ?_⟩ | refine ⟨rfl, ?_⟩ | refine ⟨_, rfl, ?_⟩); conv => whnf)
  refine ⟨_, _, hk, by first | rfl | simp [noRoIf, noRoL, noRoV, noRoL_bys], ?_⟩
  conv => whnf
  repeat ((first | refine ifB_t ?_ | refine ⟨entC_pure _, ?_⟩ | refine ⟨rfl, ?_⟩ | refine ⟨_, rfl, ?_⟩); conv => whnf)
  refine ⟨_, _, hy, by first | rfl | simp [noRoIf, noRoL, noRoV, noRoL_bys], ?_⟩
  conv => whnf
  repeat ((first | refine ifB_t ?_ | refine ⟨rfl, ?_⟩); conv => whnf)
  refine ⟨_, _, wakes11_ok, by first | rfl | simp [noRoIf, noRoL, noRoV, noRoL_bys], ?_⟩
  conv => whnf
  repeat ((first | refine ifB_t ?_ | refine ⟨rfl, ?_⟩); conv => whnf)
  rfl
 ·conv => whnf
  repeat ((first | refine ifB_t ?_ | refine ifB_f ?_ | refine ⟨(⟨by kernel_rfl, by kernel_rfl, Nat.le_of_ble_eq_true (by kernel_rfl)⟩ : AV.ones _ = true ∧ _ ∧ _), ?_⟩ | (refine And.intro (by first | omega | rfl | (dsimp only; omega)) ?_)); conv => whnf)
  refine Does.freeze 2 rfl (Does.tidy [(2, .rop (entC e)), (5, .rop (entC (bentE e 2)))] [(1, entC e)] 3 82 rfl rfl rfl (by kernel_rfl) (by kernel_rfl) ?_)
  generalize bentE e 2 = w at hb hk hy ⊢
  refine wpc_sound (M := MRow) (PL := PL0) (CU := noCut) TTok mixed _ _ _ ?_
  conv => whnf
  repeat ((first | refine ⟨entC_pure _, ?_⟩ | refine ⟨rfl, ?_⟩ | refine ⟨_, rfl, ?_⟩); conv => whnf)
  refine ⟨_, _, hb, by first | rfl | simp [noRoIf, noRoL, noRoV, noRoL_bys], ?_⟩
  conv => whnf
  repeat ((first | refine ⟨entC_pure _, ?_⟩ | refine ⟨rfl, ?_⟩ | refine ⟨_, rfl, ?_⟩); conv => whnf)
  refine ⟨_, _, hw0, by first | rfl | simp [noRoIf, noRoL, noRoV, noRoL_bys], ?_⟩
  conv => whnf
  repeat ((first | refine ifB_t ?_ | refine ⟨entC_pure _, ?_⟩ | refine ⟨rfl, ?_⟩ | refine ⟨_, rfl, ?_⟩); conv => whnf)
  refine ⟨_, _, hk, by first | rfl | simp [noRoIf, noRoL, noRoV, noRoL_bys], ?_⟩
  conv => whnf
  repeat ((first | refine ifB_t ?_ | refine ⟨entC_pure _, ?_⟩ | refine ⟨rfl, ?_⟩ | refine ⟨_, rfl, ?_⟩); conv => whnf)
  refine ⟨_, _, hy, by first | rfl | simp [noRoIf, noRoL, noRoV, noRoL_bys], ?_⟩
  conv => whnf
  repeat ((first | refine ifB_t ?_ | refine ⟨rfl, ?_⟩); conv => whnf)
  refine ⟨_, _, wakes11_ok, by first | rfl | simp [noRoIf, noRoL, noRoV, noRoL_bys], ?_⟩
  conv => whnf
  repeat ((first | refine ifB_t ?_ | refine ⟨rfl, ?_⟩); conv => whnf)
  rfl
 ·conv => whnf
  repeat ((first | refine ifB_t ?_ | refine ifB_f ?_ | refine ⟨(⟨by kernel_rfl, by kernel_rfl, Nat.le_of_ble_eq_true (by kernel_rfl)⟩ : AV.ones _ = true ∧ _ ∧ _), ?_⟩); conv => whnf)
  refine Does.freeze 2 rfl (Does.tidy [(2, .rop (entC e)), (5, .rop (entC (bentE e 3)))] [(1, entC e)] 3 82 rfl rfl rfl (by kernel_rfl) (by kernel_rfl) ?_)
  generalize bentE e 3 = w at hb hk hy ⊢
  refine wpc_sound (M := MRow) (PL := PL0) (CU := noCut) TTok mixed _ _ _ ?_
  conv => whnf
  repeat ((first | refine ⟨entC_pure _, ?_⟩ | refine ⟨rfl, ?_⟩ | refine ⟨_, rfl, ?_⟩); conv => whnf)
  refine ⟨_, _, hb, by first | rfl | simp [noRoIf, noRoL, noRoV, noRoL_bys], ?_⟩
  conv => whnf
  repeat ((first | refine ⟨entC_pure _, ?_⟩ | refine ⟨rfl, ?_⟩ | refine ⟨_, rfl, ?_⟩); conv => whnf)
  refine ⟨_, _, hw0, by first | rfl | simp [noRoIf, noRoL, noRoV, noRoL_bys], ?_⟩
  conv => whnf
  repeat ((first | refine ifB_t ?_ | refine ⟨entC_pure _, ?_⟩ | refine ⟨rfl, ?_⟩ | refine ⟨_, rfl, ?_⟩); conv => whnf)
  refine ⟨_, _, hk, by first | rfl | simp [noRoIf, noRoL, noRoV, noRoL_bys], ?_⟩
  conv => whnf
  repeat ((first | refine ifB_t ?_ | refine ⟨entC_pure _, ?_⟩ | refine ⟨rfl, ?_⟩ | refine ⟨_, rfl, ?_⟩); conv => whnf)
  refine ⟨_, _, hy, by first | rfl | simp [noRoIf, noRoL, noRoV, noRoL_bys], ?_⟩
  conv => whnf
  repeat ((first | refine ifB_t ?_ | refine ⟨rfl, ?_⟩); conv => whnf)
  refine ⟨_, _, wakes11_ok, by first | rfl | simp [noRoIf, noRoL, noRoV, noRoL_bys], ?_⟩
  conv => whnf
  repeat ((first | refine ifB_t ?_ | refine ⟨rfl, ?_⟩); conv => whnf)
  rfl
 ·conv => whnf
  repeat ((first | refine ifB_t ?_ | refine ifB_f ?_ | refine ⟨(⟨by kernel_rfl, by kernel_rfl, Nat.le_of_ble_eq_true (by kernel_rfl)⟩ : AV.ones _ = true ∧ _ ∧ _), ?_⟩); conv => whnf)
  refine Does.freeze 2 rfl (Does.tidy [(2, .rop (entC e)), (5, .rop (entC (bentE e 4)))] [(1, entC e)] 3 82 rfl rfl rfl (by kernel_rfl) (by kernel_rfl) ?_)
  generalize bentE e 4 = w at hb hk hy ⊢
  refine wpc_sound (M := MRow) (PL := PL0) (CU := noCut) TTok mixed _ _ _ ?_
  conv => whnf
  repeat ((first | refine ⟨entC_pure _, ?_⟩ | refine ⟨rfl, ?_⟩ | refine ⟨_, rfl, ?_⟩); conv => whnf)
  refine ⟨_, _, hb, by first | rfl | simp [noRoIf, noRoL, noRoV, noRoL_bys], ?_⟩
  conv => whnf
  repeat ((first | refine ⟨entC_pure _, ?_⟩ | refine ⟨rfl, ?_⟩ | refine ⟨_, rfl, ?_⟩); conv => whnf)
  refine ⟨_, _, hw0, by first | rfl | simp [noRoIf, noRoL, noRoV, noRoL_bys], ?_⟩
  conv => whnf
  repeat ((first | refine ifB_t ?_ | refine ⟨entC_pure _, ?_⟩ | refine ⟨rfl, ?_⟩ | refine ⟨_, rfl, ?_⟩); conv => whnf)
  refine ⟨_, _, hk, by first | rfl | simp [noRoIf, noRoL, noRoV, noRoL_bys], ?_⟩
  conv => whnf
  repeat ((first | refine ifB_t ?_ | refine ⟨entC_pure _, ?_⟩ | refine ⟨rfl, ?_⟩ | refine ⟨_, rfl, ?_⟩); conv => whnf)
  refine ⟨_, _, hy, by first | rfl | simp [noRoIf, noRoL, noRoV, noRoL_bys], ?_⟩
  conv => whnf
  repeat ((first | refine ifB_t ?_ | refine ⟨rfl, ?_⟩); conv => whnf)
  refine ⟨_, _, wakes11_ok, by first | rfl | simp [noRoIf, noRoL, noRoV, noRoL_bys], ?_⟩
  conv => whnf
  repeat ((first | refine ifB_t ?_ | refine ⟨rfl, ?_⟩); conv => whnf)
  rfl
 ·conv => whnf
  repeat ((first | refine ifB_t ?_ | refine ifB_f ?_ | refine ⟨(⟨by kernel_rfl, by kernel_rfl, Nat.le_of_ble_eq_true (by kernel_rfl)⟩ : AV.ones _ = true ∧ _ ∧ _), ?_⟩); conv => whnf)
  refine Does.freeze 2 rfl (Does.tidy [(2, .rop (entC e)), (5, .rop (entC (bentE e 5)))] [(1, entC e)] 3 82 rfl rfl rfl (by kernel_rfl) (by kernel_rfl) ?_)
  generalize bentE e 5 = w at hb hk hy ⊢
  refine wpc_sound (M := MRow) (PL := PL0) (CU := noCut) TTok mixed _ _ _ ?_
  conv => whnf
  repeat ((first | refine ⟨entC_pure _, ?_⟩ | refine ⟨rfl, ?_⟩ | refine ⟨_, rfl, ?_⟩); conv => whnf)
  refine ⟨_, _, hb, by first | rfl | simp [noRoIf, noRoL, noRoV, noRoL_bys], ?_⟩
  conv => whnf
  repeat ((first | refine ⟨entC_pure _, ?_⟩ | refine ⟨rfl, ?_⟩ | refine ⟨_, rfl, ?_⟩); conv => whnf)
  refine ⟨_, _, hw0, by first | rfl | simp [noRoIf, noRoL, noRoV, noRoL_bys], ?_⟩
  conv => whnf
  repeat ((first | refine ifB_t ?_ | refine ⟨entC_pure _, ?_⟩ | refine ⟨rfl, ?_⟩ | refine ⟨_, rfl, ?_⟩); conv => whnf)
  refine ⟨_, _, hk, by first | rfl | simp [noRoIf, noRoL, noRoV, noRoL_bys], ?_⟩
  conv => whnf
  repeat ((first | refine ifB_t ?_ | refine ⟨entC_pure _, ?_⟩ | refine ⟨rfl, ?_⟩ | refine ⟨_, rfl, ?_⟩); conv => whnf)
  refine ⟨_, _, hy, by first | rfl | simp [noRoIf, noRoL, noRoV, noRoL_bys], ?_⟩
  conv => whnf
  repeat ((first | refine ifB_t ?_ | refine ⟨rfl, ?_⟩); conv => whnf)
  refine ⟨_, _, wakes11_ok, by first | rfl | simp [noRoIf, noRoL, noRoV, noRoL_bys], ?_⟩
  conv => whnf
  repeat ((first | refine ifB_t ?_ | refine ⟨rfl, ?_⟩); conv => whnf)
  rfl
 ·conv => whnf
  repeat ((first | refine ifB_t ?_ | refine ifB_f ?_ | refine ⟨(⟨by kernel_rfl, by kernel_rfl, Nat.le_of_ble_eq_true (by kernel_rfl)⟩ : AV.ones _ = true ∧ _ ∧ _), ?_⟩); conv => whnf)
  refine Does.freeze 2 rfl (Does.tidy [(2, .rop (entC e)), (5, .rop (entC (bentE e 6)))] [(1, entC e)] 3 82 rfl rfl rfl (by kernel_rfl) (by kernel_rfl) ?_)
  generalize bentE e 6 = w at hb hk hy ⊢
  refine wpc_sound (M := MRow) (PL := PL0) (CU := noCut) TTok mixed _ _ _ ?_
  conv => whnf
  repeat ((first | refine ⟨entC_pure _, ?_⟩ | refine ⟨rfl, ?_⟩ | refine ⟨_, rfl, ?_⟩); conv => whnf)
  refine ⟨_, _, hb, by first | rfl | simp [noRoIf, noRoL, noRoV, noRoL_bys], ?_⟩
  conv => whnf
  repeat ((first | refine ⟨entC_pure _, ?_⟩ | refine ⟨rfl, ?_⟩ | refine ⟨_, rfl, ?_⟩); conv => whnf)
  refine ⟨_, _, hw0, by first | rfl | simp [noRoIf, noRoL, noRoV, noRoL_bys], ?_⟩
  conv => whnf
  repeat ((first | refine ifB_t ?_ | refine ⟨entC_pure _, ?_⟩ | refine ⟨rfl, ?_⟩ | refine ⟨_, rfl, ?_⟩); conv => whnf)
  refine ⟨_, _, hk, by first | rfl | simp [noRoIf, noRoL, noRoV, noRoL_bys], ?_⟩
  conv => whnf
  repeat ((first | refine ifB_t ?_ | refine ⟨entC_pure _, ?_⟩ | refine ⟨rfl, ?_⟩ | refine ⟨_, rfl, ?_⟩); conv => whnf)
  refine ⟨_, _, hy, by first | rfl | simp [noRoIf, noRoL, noRoV, noRoL_bys], ?_⟩
  conv => whnf
  repeat ((first | refine ifB_t ?_ | refine ⟨rfl, ?_⟩); conv => whnf)
  refine ⟨_, _, wakes11_ok, by first | rfl | simp [noRoIf, noRoL, noRoV, noRoL_bys], ?_⟩
  conv => whnf
  repeat ((first | refine ifB_t ?_ | refine ⟨rfl, ?_⟩); conv => whnf)
  rfl
 ·conv => whnf
  repeat ((first | refine ifB_f ?_ | refine ⟨(⟨by kernel_rfl, by kernel_rfl, Nat.le_of_ble_eq_true (by kernel_rfl)⟩ : AV.ones _ = true ∧ _ ∧ _), ?_⟩); conv => whnf)
  refine Does.freeze 3 rfl (Does.freeze 2 rfl (Does.tidy [(2, .rop (entC e)), (5, .rop (entC (bentE e 7)))] [(1, entC e)] 4 82 rfl rfl rfl (by kernel_rfl) (by kernel_rfl) ?_))
  generalize bentE e 7 = w at hb hk hy ⊢
  refine wpc_sound (M := MRow) (PL := PL0) (CU := noCut) TTok mixed _ _ _ ?_
  conv => whnf
  repeat ((first | refine ⟨entC_pure _, ?_⟩ | refine ⟨rfl, ?_⟩ | refine ⟨_, rfl, ?_⟩); conv => whnf)
  refine ⟨_, _, hb, by first | rfl | simp [noRoIf, noRoL, noRoV, noRoL_bys], ?_⟩
  conv => whnf
  repeat ((first | refine ⟨entC_pure _, ?_⟩ | refine ⟨rfl, ?_⟩ | refine ⟨_, rfl, ?_⟩); conv => whnf)
  refine ⟨_, _, hw0, by first | rfl | simp [noRoIf, noRoL, noRoV, noRoL_bys], ?_⟩
  conv => whnf
  repeat ((first | refine ifB_t ?_ | refine ⟨entC_pure _, ?_⟩ | refine ⟨rfl, ?_⟩ | refine ⟨_, rfl, ?_⟩); conv => whnf)
  refine ⟨_, _, hk, by first | rfl | simp [noRoIf, noRoL, noRoV, noRoL_bys], ?_⟩
  conv => whnf
  repeat ((first | refine ifB_t ?_ | refine ⟨entC_pure _, ?_⟩ | refine ⟨rfl, ?_⟩ | refine ⟨_, rfl, ?_⟩); conv => whnf)
  refine ⟨_, _, hy, by first | rfl | simp [noRoIf, noRoL, noRoV, noRoL_bys], ?_⟩
  conv => whnf
  repeat ((first | refine ifB_t ?_ | refine ⟨rfl, ?_⟩); conv => whnf)
  refine ⟨_, _, wakes11_ok, by first | rfl | simp [noRoIf, noRoL, noRoV, noRoL_bys], ?_⟩
  conv => whnf
  repeat ((first | refine ifB_t ?_ | refine ⟨rfl, ?_⟩); conv => whnf)
  rfl
end
section
--KR
attribute [local irreducible] ifB fitP Does Weaker
def PLbd : Nat → Bool × Plan := plans [(10, (false, (takesTo [0, 1, 2, 3, 4, 5] (.all [(6, (takesTo [7, 8, 9, 10, 11, 12, 13, 14, 15, 16, 17, 18, 19, 20, 21, 22, 23, 24, 25, 26, 27, 28, 29, 30] (.all [(31, (takesTo [32, 33] (.all [(34, (takes [35, 36]))])))])))]))))]
set_option maxRecDepth 20000 in
set_option maxHeartbeats 4000000 in
theorem entryBody_ok (e : Ent) (g : List Int) (oe : EntOk e) (hg : Byt g ∧ g.length = 64) : ACall Tryz.prog 10 [.agg (entC e), .agg (c64 g [])] (.bool true) [] := by
 have v1 := heavy11_ok [e]
 refine ACall.of_does TTok Tryz.func10 rfl Tryz.call10 rfl (wpc_sound (M := MRow) (PL := PLbd) (CU := cutAt [100001, 100004, 100005]) TTok mixed _ _ _ ?_)
 conv => whnf
 repeat ((refine ⟨rfl, ?_⟩); conv => whnf)
 refine Does.freeze 0 rfl (Does.freeze 1 (zs := c64 g []) (by show some (frzL 0 _ (c64 g [])) = _; rw [c64_frz]; rfl) (Does.tidy [(2, .rop (entC e)), (3, .rop (c64 g []))] [] 2 116 rfl rfl rfl (by kernel_rfl) (by kernel_rfl) ?_))
 refine wpc_sound (M := MRow) (PL := PLbd) (CU := noCut) TTok mixed _ _ _ ?_
 conv => whnf
 repeat ((first | refine ⟨entC_pure _, ?_⟩ | (refine Or.inl ⟨⟨rfl, ?_⟩, ?_⟩; (focus (first | rfl | (simp; done) | (rw [toksC_length]; omega)))) | refine ⟨rfl, ?_⟩ | refine ⟨_, rfl, ?_⟩ | refine ⟨⟨rfl, rfl⟩, ?_⟩); conv => whnf)
 cases hv : heavyEs [e] <;> rw [hv] at v1
 case true =>
  refine ⟨_, _, v1.arg1 rfl (by simp [rowsC]; rfl), by first | rfl | simp [noRoIf, noRoL, noRoV, noRoL_bys], ?_⟩
  conv => whnf
  repeat ((first | refine ifB_t ?_ | refine ⟨rfl, ?_⟩); conv => whnf)
  rfl
 refine ⟨_, _, v1.arg1 rfl (by simp [rowsC]; rfl), by first | rfl | simp [noRoIf, noRoL, noRoV, noRoL_bys], ?_⟩
 conv => whnf
 repeat ((first | refine ifB_f ?_ | refine ⟨entC_pure _, ?_⟩ | refine ⟨rfl, ?_⟩ | refine ⟨_, rfl, ?_⟩); conv => whnf)
 have he := entS_of1 oe hv
 have rm := refentry_ok e he
 cases hr : entR e <;> rw [hr] at rm
 case false =>
  refine ⟨_, _, rm, by first | rfl | simp [noRoIf, noRoL, noRoV, noRoL_bys], ?_⟩
  conv => whnf
  repeat ((first | refine ifB_t ?_ | refine ifB_f ?_ | refine ⟨rfl, ?_⟩); conv => whnf)
  rfl
 refine ⟨_, _, rm, by first | rfl | simp [noRoIf, noRoL, noRoV, noRoL_bys], ?_⟩
 conv => whnf
 repeat ((first | refine ifB_f ?_ | refine ⟨entC_pure _, ?_⟩ | refine ⟨rfl, ?_⟩ | refine ⟨_, rfl, ?_⟩); conv => whnf)
 have tw := ktwin_ok e he
 refine ⟨_, _, tw, by first | rfl | simp [noRoIf, noRoL, noRoV, noRoL_bys], ?_⟩
 conv => whnf
 repeat ((first | refine ⟨(⟨by kernel_rfl, by kernel_rfl, Nat.le_of_ble_eq_true (by kernel_rfl)⟩ : AV.ones _ = true ∧ _ ∧ _), ?_⟩ | refine ⟨rfl, ?_⟩); conv => whnf)
 refine Does.tidy [(2, .rop (entC e)), (3, .rop (c64 g [])), (5, .ptr 3 0)] [(2, entC e), (3, entC e)] 4 116 rfl rfl rfl (by kernel_rfl) (by kernel_rfl) ?_
 refine wpc_sound (M := MRow) (PL := PLbd) (CU := cutAt [100005]) TTok mixed _ _ _ ?_
 conv => whnf
 repeat ((first | refine ⟨(⟨by kernel_rfl, by kernel_rfl, Nat.le_of_ble_eq_true (by kernel_rfl)⟩ : AV.ones _ = true ∧ _ ∧ _), ?_⟩ | refine ⟨_, rfl, ?_⟩); conv => whnf)
 refine Does.freeze 3 rfl (Does.tidy [(2, .rop (entC e)), (3, .rop (c64 g [])), (5, .rop (entC (sigE g e)))] [(2, entC e)] 4 116 rfl rfl rfl (by kernel_rfl) (by kernel_rfl) ?_)
 refine wpc_sound (M := MRow) (PL := PLbd) (CU := noCut) TTok mixed _ _ _ ?_
 have hx := sigE_S he hg
 have e1 := (ebody_ok e he).roRes2 (.inl ⟨_, _, rfl⟩)
 have e2 := (ebody_ok _ hx).roRes2 (.inl ⟨_, _, rfl⟩)
 have e3 := (ebytes_ok _ hx).roRes2 (.inl ⟨_, _, rfl⟩)
 rw [entBody_yes he hr] at e1
 rw [sigE_body, entBody_yes he hr] at e2
 rw [entB_yes' hx (by rw [sigE_R]; exact hr), sigE_sig, show entX (sigE g e) = entX e from rfl] at e3
 have hX := entX_len hr he.au.2 he.prev.2
 have b1 := bytes_ok (134 :: (entX e).flatten) (134 :: (entX e).flatten) (by rw [List.length_cons]; omega)
 rw [dt rfl] at b1
 have lX : ((134 :: (entX e).flatten).length : Int) = (entX e).flatten.length + 1 := by rw [List.length_cons]; omega
 have b2 := bytes_ok (entX e).flatten (entX e).flatten (by omega)
 rw [dt rfl] at b2
 have b3 := bytes_ok g g (by omega)
 rw [dt rfl] at b3
 clear hx tw rm v1
 generalize (entX e).flatten = X at *
 dsimp only at e1 e2 e3
 conv => whnf
 repeat ((first | refine ⟨entC_pure _, ?_⟩ | refine ⟨rfl, ?_⟩ | refine ⟨_, rfl, ?_⟩); conv => whnf)
 refine ⟨_, _, e1, by first | rfl | simp [noRoIf, noRoL, noRoV, noRoL_bys], ?_⟩
 conv => whnf
 repeat ((first | refine ⟨entC_pure _, ?_⟩ | refine ⟨rfl, ?_⟩ | refine ⟨_, rfl, ?_⟩); conv => whnf)
 refine ⟨_, _, e2, by first | rfl | simp [noRoIf, noRoL, noRoV, noRoL_bys], ?_⟩
 conv => whnf
 repeat ((first | refine ⟨entC_pure _, ?_⟩ | refine ⟨rfl, ?_⟩ | refine ⟨_, rfl, ?_⟩); conv => whnf)
 refine ⟨_, _, e3, by first | rfl | simp [noRoIf, noRoL, noRoV, noRoL_bys], ?_⟩
 conv => whnf
 repeat ((first | refine ifB_f ?_ | refine ⟨pureL_bys _, ?_⟩ | refine ⟨rfl, ?_⟩); conv => whnf)
 refine ⟨_, _, b1, by first | rfl | simp [noRoIf, noRoL, noRoV, noRoL_bys], ?_⟩
 conv => whnf
 repeat ((first | refine ifB_f ?_ | (refine fit_i64 ⟨by first | omega | rfl | (dsimp only; omega), by first | omega | rfl | (dsimp only; omega)⟩ ?_) | refine ⟨_, rfl, ?_⟩ | (refine ⟨⟨?_, ?_, ?_⟩, ?_⟩; (focus omega); (focus (first | omega | (simp; done) | (simp; omega))); (focus (first | (simp; done) | (simp; omega) | (rw [toksC_length]; simp; omega)))) | (refine ifB_neg (decide_eq_false (by first | (simp; done) | (simp; omega))) ?_)); conv => whnf)
 refine ⟨by kernel_rfl, ?_⟩
 have g1 : ∀ m, m = X.length + 1 → ((bys (135 :: (X ++ 88 :: 64 :: g))).drop m)[0]? = some (.int .u8 88) := fun m hm => get_mid (p := 135 :: X) (s := 64 :: g) (by simp; omega)
 have g2 : ∀ m, m = X.length + 2 → ((bys (135 :: (X ++ 88 :: 64 :: g))).drop m)[0]? = some (.int .u8 64) := fun m hm => by
  have := get_mid (p := 135 :: (X ++ [88])) (x := 64) (s := g) (m := m) (by simp; omega)
  simpa using this
 have c3 : ∀ i : Int, i = X.length + 3 → cutB (bys (135 :: (X ++ 88 :: 64 :: g))) (some i) none 1 = bys g := fun i hi => by
  have := cut_end (p := 135 :: (X ++ [88, 64])) (x := g) (i := i) (by simp; omega)
  simpa using this
 conv => whnf
 repeat ((first | refine ⟨pureL_bys _, ?_⟩ | refine ⟨pureL_cutB _ _ _ _, ?_⟩ | refine ⟨rfl, ?_⟩ | (refine ⟨⟨?_, ?_⟩, ?_⟩; (focus (simp; done)); (focus (first | (simp only [okB]; omega) | (simp [okB]; omega))))); conv => whnf)
 refine ⟨_, _, b2.arg22 (by simp [lenB]) (cut_at (p := [135]) (x := X) (s := 88 :: 64 :: g) rfl (by simp; omega)) (by simp [lenB]) (cut_end (p := [134]) (x := X) rfl), by first | rfl | simp [noRoIf, noRoL, noRoV, noRoL_bys], ?_⟩
 conv => whnf
 repeat ((first | refine ifB_t ?_ | (refine ⟨⟨?_, ?_, ?_⟩, ?_⟩; (focus omega); (focus (first | omega | (simp; done) | (simp; omega))); (focus (first | (simp; done) | (simp; omega) | (rw [toksC_length]; simp; omega))))); conv => whnf)
 refine ⟨roLoad_okG rfl rfl ?_, ?_⟩
 focus first | (simp [bys]; done) | (simp [bys]; omega)
 conv => whnf
 repeat ((refine ifB_t ?_); conv => whnf)
 refine ⟨_, g1 _ (by simp), ?_⟩
 conv => whnf
 repeat ((first | refine ifB_t ?_ | (refine fit_i64 ⟨by first | omega | rfl | (dsimp only; omega), by first | omega | rfl | (dsimp only; omega)⟩ ?_) | (refine ⟨⟨?_, ?_, ?_⟩, ?_⟩; (focus omega); (focus (first | omega | (simp; done) | (simp; omega))); (focus (first | (simp; done) | (simp; omega) | (rw [toksC_length]; simp; omega))))); conv => whnf)
 refine ⟨roLoad_okG rfl rfl ?_, ?_⟩
 focus first | (simp [bys]; done) | (simp [bys]; omega)
 conv => whnf
 repeat ((refine ifB_t ?_); conv => whnf)
 refine ⟨_, g2 _ (by simp; omega), ?_⟩
 conv => whnf
 repeat ((first | refine ifB_t ?_ | (refine fit_i64 ⟨by first | omega | rfl | (dsimp only; omega), by first | omega | rfl | (dsimp only; omega)⟩ ?_) | refine ⟨pureL_cutB _ _ _ _, ?_⟩ | (refine ⟨⟨by first | (simp only [List.drop_zero, List.length_drop, hds_len]; omega) | exact Nat.le_of_ble_eq_true (by kernel_rfl), okB_none _⟩, ?_⟩) | refine ⟨rfl, ?_⟩ | (refine ⟨⟨?_, ?_⟩, ?_⟩; (focus (simp; done)); (focus (first | (simp only [okB]; omega) | (simp [okB]; omega))))); conv => whnf)
 refine ⟨_, _, b3.arg22 (by simp [lenB]; omega) (c3 _ (by rw [lX]; omega)) hg.2.symm (cut64 hg.2 _), by first | rfl | simp [noRoIf, noRoL, noRoV, noRoL_bys], ?_⟩
 conv => whnf
 repeat ((first | refine ifB_t ?_ | refine ⟨rfl, ?_⟩); conv => whnf)
 refine ⟨_, _, wakes11_ok, by first | rfl | simp [noRoIf, noRoL, noRoV, noRoL_bys], ?_⟩
 conv => whnf
 repeat ((first | refine ifB_t ?_ | refine ⟨rfl, ?_⟩); conv => whnf)
 rfl
end
section
--KR
attribute [local irreducible] ifB fitP Does Weaker
def PLei : Nat → Bool × Plan := plans [(8, (false, (takesTo [0, 1, 2, 3, 4, 5, 7, 8] (.all [(6, (.all [(9, (takes [10, 11]))]))])))), (11, (false, (takesTo [0, 1, 2, 3, 4] (.all [(5, (takesTo [6, 7, 8, 9, 10, 11, 12, 13, 14] (.all [(15, (takesTo [16, 17] (.all [(18, (takes [19, 20]))])))])))]))))]
theorem ent0_S' : EntS ent0 where
 au := ⟨fun x hx => by rw [show ent0.au = List.replicate 32 0 from rfl, List.mem_replicate] at hx; omega, rfl⟩
 seq := by simp [ent0]
 prev := ⟨fun x hx => by rw [show ent0.prev = List.replicate 32 0 from rfl, List.mem_replicate] at hx; omega, rfl⟩
 stamp := by simp [ent0]
 kind := by simp [ent0]
 key := by simp [ent0, Byt]
 val := by simp [ent0, Byt]
 sig := ⟨fun x hx => by rw [show ent0.sig = List.replicate 64 0 from rfl, List.mem_replicate] at hx; omega, rfl⟩
 key' := by simp [ent0]
 val' := by simp [ent0]
theorem e0_args2 {g : FuncId} {m : Ent} {r : AV} (h : ACall Tryz.prog g [.agg (entC m), .agg (entC ent0)] r []) : ACall Tryz.prog g [.agg (entC m), .agg (entV ent0 .nil)] r [] :=
 h.les (by simp only [pureL, pureV, entC_pure]; rfl) (by simp only [pureL, pureV, entC_pure]; rfl) ⟨lesP_ent m rfl, entV_les rfl, trivial⟩
set_option maxRecDepth 20000 in
set_option maxHeartbeats 8000000 in
theorem entryId_ok (a b : Ent) (cut : Int) (oa : EntOk a) (ob : EntOk b) (hcut : -9223372036854775808 ≤ cut ∧ cut < 9223372036854775808) :
  ACall Tryz.prog 12 [.agg (entC a), .agg (entC b), .int .i64 cut] (.bool true) [] := by
 have v1 := heavy11_ok [a, b]
 refine ACall.of_does TTok Tryz.func12 rfl Tryz.call12 rfl (wpc_sound (M := MRow) (PL := PLei) (CU := cutAt [100001, 100011]) TTok mixed _ _ _ ?_)
 conv => whnf
 repeat ((refine ⟨rfl, ?_⟩); conv => whnf)
 refine Does.freeze 0 rfl (Does.freeze 1 (zs := entC b) (by show some (frzL 0 _ (entC b)) = _; rw [entC_frz]) (Does.tidy [(2, .int .i64 cut), (3, .rop (entC a)), (4, .rop (entC b))] [] 2 109 rfl rfl rfl (by kernel_rfl) (by kernel_rfl) ?_))
 refine wpc_sound (M := MRow) (PL := PLei) (CU := noCut) TTok mixed _ _ _ ?_
 conv => whnf
 repeat ((first | (refine Or.inl ⟨⟨rfl, ?_⟩, ?_⟩; (focus (first | rfl | (simp; done) | (rw [toksC_length]; omega)))) | refine ⟨rfl, ?_⟩ | refine ⟨_, rfl, ?_⟩ | refine ⟨⟨rfl, rfl⟩, ?_⟩ | (refine And.intro ?_ ?_; (focus (first | (simp only [pureL, pureV, pureL_bys, Bool.and_true, Bool.and_self]; done) | (simp only [pureL, pureV, pureL_bys, pureL_toks, Bool.and_true, Bool.and_self]; done))))); conv => whnf)
 cases hv : heavyEs [a, b] <;> rw [hv] at v1
 case true =>
  refine ⟨_, _, v1.arg1 rfl (by simp [rowsC]; rfl), by first | rfl | simp [noRoIf, noRoL, noRoV, noRoL_bys], ?_⟩
  conv => whnf
  repeat ((first | refine ifB_t ?_ | refine ⟨rfl, ?_⟩); conv => whnf)
  rfl
 refine ⟨_, _, v1.arg1 rfl (by simp [rowsC]; rfl), by first | rfl | simp [noRoIf, noRoL, noRoV, noRoL_bys], ?_⟩
 conv => whnf
 repeat ((first | refine ifB_f ?_ | refine ⟨entC_pure _, ?_⟩ | refine ⟨rfl, ?_⟩ | refine ⟨_, rfl, ?_⟩); conv => whnf)
 obtain ⟨ha, hb⟩ := entS_of2 oa ob hv
 have h1 := (ebytes_ok a ha).roRes2 (.inl ⟨_, _, rfl⟩)
 have h2 := (ebytes_ok b hb).roRes2 (.inl ⟨_, _, rfl⟩)
 have h3 := eid_ok a ha
 cases ra : entR a
 ·rw [entB_no ra] at h1
  rw [show idE a = (z32, 1) by unfold idE; rw [ra]; rfl] at h3
  refine ⟨_, _, h1, by first | rfl | simp [noRoIf, noRoL, noRoV, noRoL_bys], ?_⟩
  conv => whnf
  repeat ((first | refine ⟨entC_pure _, ?_⟩ | refine ⟨rfl, ?_⟩ | refine ⟨_, rfl, ?_⟩); conv => whnf)
  cases rb : entR b
  ·rw [entB_no rb] at h2
   refine ⟨_, _, h2, by first | rfl | simp [noRoIf, noRoL, noRoV, noRoL_bys], ?_⟩
   conv => whnf
   repeat ((first | refine ⟨entC_pure _, ?_⟩ | refine ⟨rfl, ?_⟩ | refine ⟨_, rfl, ?_⟩); conv => whnf)
   refine ⟨_, _, h3, by first | rfl | simp [noRoIf, noRoL, noRoV, noRoL_bys], ?_⟩
   conv => whnf
   repeat ((first | refine ifB_t ?_ | refine ifB_f ?_ | refine ⟨(⟨by kernel_rfl, by kernel_rfl, Nat.le_of_ble_eq_true (by kernel_rfl)⟩ : AV.ones _ = true ∧ _ ∧ _), ?_⟩ | refine ⟨rfl, ?_⟩); conv => whnf)
   refine ⟨_, _, wakes11_ok, by first | rfl | simp [noRoIf, noRoL, noRoV, noRoL_bys], ?_⟩
   conv => whnf
   repeat ((first | refine ifB_t ?_ | refine ⟨rfl, ?_⟩); conv => whnf)
   rfl
  ·rw [show entB b = ((entB b).1, 0) by rw [entB_yes' hb rb]] at h2
   generalize (entB b).1 = y at h2
   refine ⟨_, _, h2, by first | rfl | simp [noRoIf, noRoL, noRoV, noRoL_bys], ?_⟩
   conv => whnf
   repeat ((first | refine ⟨entC_pure _, ?_⟩ | refine ⟨rfl, ?_⟩ | refine ⟨_, rfl, ?_⟩); conv => whnf)
   refine ⟨_, _, h3, by first | rfl | simp [noRoIf, noRoL, noRoV, noRoL_bys], ?_⟩
   conv => whnf
   repeat ((first | refine ifB_t ?_ | refine ifB_f ?_ | refine ⟨(⟨by kernel_rfl, by kernel_rfl, Nat.le_of_ble_eq_true (by kernel_rfl)⟩ : AV.ones _ = true ∧ _ ∧ _), ?_⟩ | refine ⟨rfl, ?_⟩); conv => whnf)
   refine ⟨_, _, wakes11_ok, by first | rfl | simp [noRoIf, noRoL, noRoV, noRoL_bys], ?_⟩
   conv => whnf
   repeat ((first | refine ifB_t ?_ | refine ⟨rfl, ?_⟩); conv => whnf)
   rfl
 have y1 := entB_byt ha
 have za := entB_ok0 ha ra
 have p1 := entB_pos ha za
 have rc := entB_cut ha za
 rw [show entB a = ((entB a).1, 0) by rw [entB_yes' ha ra]] at h1
 rw [show idE a = (shaL (entB a).1, 0) by unfold idE; rw [ra]; rfl] at h3
 have hs := sha_ok (entB a).1 y1.1 (by omega)
 have ls := shaL_len (entB a).1
 cases rb : entR b
 ·rw [entB_no rb] at h2
  generalize (entB a).1 = x at h1 h3
  generalize shaL x = i at h3
  refine ⟨_, _, h1, by first | rfl | simp [noRoIf, noRoL, noRoV, noRoL_bys], ?_⟩
  conv => whnf
  repeat ((first | refine ⟨entC_pure _, ?_⟩ | refine ⟨rfl, ?_⟩ | refine ⟨_, rfl, ?_⟩); conv => whnf)
  refine ⟨_, _, h2, by first | rfl | simp [noRoIf, noRoL, noRoV, noRoL_bys], ?_⟩
  conv => whnf
  repeat ((first | refine ⟨entC_pure _, ?_⟩ | refine ⟨rfl, ?_⟩ | refine ⟨_, rfl, ?_⟩); conv => whnf)
  refine ⟨_, _, h3, by first | rfl | simp [noRoIf, noRoL, noRoV, noRoL_bys], ?_⟩
  conv => whnf
  repeat ((first | refine ifB_t ?_ | refine ifB_f ?_ | refine ⟨(⟨by kernel_rfl, by kernel_rfl, Nat.le_of_ble_eq_true (by kernel_rfl)⟩ : AV.ones _ = true ∧ _ ∧ _), ?_⟩ | refine ⟨rfl, ?_⟩); conv => whnf)
  refine ⟨_, _, wakes11_ok, by first | rfl | simp [noRoIf, noRoL, noRoV, noRoL_bys], ?_⟩
  conv => whnf
  repeat ((first | refine ifB_t ?_ | refine ⟨rfl, ?_⟩); conv => whnf)
  rfl
 have zb := entB_ok0 hb rb
 have inj := entB_inj ha hb za zb
 rw [show entB b = ((entB b).1, 0) by rw [entB_yes' hb rb]] at h2
 have b1 := bytes_ok (entB a).1 (entB b).1 (by omega)
 have b2 := kent_ok a b ha hb
 rw [inj] at b1
 have w64 : IntKind.u64.wrap cut = cut % 18446744073709551616 := wrap_u64 cut
 obtain ⟨c, hc, hca⟩ := mod_len cut p1
 have d1 := eread_ok ((entB a).1.take c) (fun x hx => y1.1 x (List.mem_of_mem_take hx)) (by simp; omega)
 rw [rc c hca] at d1
 have k0 := kent_ok ent0 ent0 ent0_S' ent0_S'
 rw [dt rfl] at k0
 clear inj za zb rc
 generalize (entB a).1 = x at *
 generalize (entB b).1 = y at *
 generalize shaL x = i at *
 generalize decide (a = b) = z at b1 b2
 dsimp only at d1 h3
 refine ⟨_, _, h1, by first | rfl | simp [noRoIf, noRoL, noRoV, noRoL_bys], ?_⟩
 conv => whnf
 repeat ((first | refine ⟨entC_pure _, ?_⟩ | refine ⟨rfl, ?_⟩ | refine ⟨_, rfl, ?_⟩); conv => whnf)
 refine ⟨_, _, h2, by first | rfl | simp [noRoIf, noRoL, noRoV, noRoL_bys], ?_⟩
 conv => whnf
 repeat ((first | refine ⟨entC_pure _, ?_⟩ | refine ⟨rfl, ?_⟩ | refine ⟨_, rfl, ?_⟩); conv => whnf)
 refine ⟨_, _, h3, by first | rfl | simp [noRoIf, noRoL, noRoV, noRoL_bys], ?_⟩
 conv => whnf
 repeat ((first | refine ifB_f ?_ | refine ⟨(⟨by kernel_rfl, by kernel_rfl, Nat.le_of_ble_eq_true (by kernel_rfl)⟩ : AV.ones _ = true ∧ _ ∧ _), ?_⟩ | refine ⟨rfl, ?_⟩); conv => whnf)
 refine ⟨by kernel_rfl, ?_⟩
 conv => whnf
 repeat ((first | refine ifB_f ?_ | (refine ifB_neg (decide_eq_false (by first | omega | rfl | (dsimp only; omega))) ?_) | refine ⟨pureL_bys _, ?_⟩ | refine ⟨rfl, ?_⟩ | refine ⟨_, rfl, ?_⟩); conv => whnf)
 cases z
 all_goals
  refine ⟨_, _, b1, by first | rfl | simp [noRoIf, noRoL, noRoV, noRoL_bys], ?_⟩
  conv => whnf
  repeat ((first | refine ifB_f ?_ | refine ⟨entC_pure _, ?_⟩ | refine ⟨rfl, ?_⟩); conv => whnf)
  refine ⟨_, _, b2, by first | rfl | simp [noRoIf, noRoL, noRoV, noRoL_bys], ?_⟩
  conv => whnf
  repeat ((refine ifB_f ?_); conv => whnf)
  refine fit_wrap ?_
  rw [w64]
  conv => whnf
  repeat ((first | (refine fit_i64 ⟨by first | omega | rfl | (dsimp only; omega), by first | omega | rfl | (dsimp only; omega)⟩ ?_) | (refine fit_u64 ⟨by first | omega | rfl | (dsimp only; omega), by first | omega | rfl | (dsimp only; omega)⟩ ?_) | refine ⟨pureL_cutB _ _ _ _, ?_⟩ | refine ⟨rfl, ?_⟩ | (refine And.intro (by first | omega | rfl | (dsimp only; omega)) ?_) | (refine ⟨⟨?_, ?_⟩, ?_⟩; (focus (simp; done)); (focus (first | (simp only [okB]; omega) | (simp [okB]; omega))))); conv => whnf)
  rw [hc]
  conv => whnf
  refine ⟨_, _, ACall.arg1 d1 (by simp [lenB]; omega) (by simp [cutB, offB, lenB, endB, bys_take]), by first | rfl | simp [noRoIf, noRoL, noRoV, noRoL_bys], ?_⟩
  conv => whnf
  repeat ((first | refine ⟨(⟨by kernel_rfl, by kernel_rfl, Nat.le_of_ble_eq_true (by kernel_rfl)⟩ : AV.ones _ = true ∧ _ ∧ _), ?_⟩ | refine ⟨rfl, ?_⟩); conv => whnf)
  refine Does.freeze 3 rfl (Does.freeze 4 (zs := entC ent0) (by show some (frzL 3 _ (entC ent0)) = _; rw [entC_frz]) (Does.tidy [(7, .ro x.length (bys x)), (11, .rop (c32 i [])), (12, .int .i64 0), (13, .rop (entC ent0)), (14, .int .i64 3)] [(2, entC a ++ (entC b ++ []))] 5 109 rfl rfl rfl (by kernel_rfl) (by kernel_rfl) ?_))
  refine wpc_sound (M := MRow) (PL := PLei) (CU := noCut) TTok mixed _ _ _ ?_
  conv => whnf
  refine ⟨by kernel_rfl, ?_⟩
  conv => whnf
  repeat ((first | refine ifB_t ?_ | refine ⟨pureL_bys _, ?_⟩ | refine ⟨rfl, ?_⟩ | refine ⟨_, rfl, ?_⟩); conv => whnf)
  refine ⟨_, _, hs, by first | rfl | simp [noRoIf, noRoL, noRoV, noRoL_bys], ?_⟩
  conv => whnf
  repeat ((refine ifB_t ?_); conv => whnf)
  refine ⟨i, i, ⟨rfl, c32_map ls, c32_map ls, ls, ls⟩, ?_⟩
  conv => whnf
  repeat ((first | refine ifB_t ?_ | (refine ifB_pos (decide_eq_true (by first | omega | rfl | (dsimp only; omega))) ?_) | refine ⟨entC_pure _, ?_⟩ | refine ⟨rfl, ?_⟩ | refine ⟨_, rfl, ?_⟩); conv => whnf)
  rw [dt rfl]
  conv => whnf
  refine ⟨_, _, e0_args2 k0, by first | rfl | simp [noRoIf, noRoL, noRoV, noRoL_bys], ?_⟩
  conv => whnf
  repeat ((first | refine ifB_t ?_ | refine ⟨rfl, ?_⟩); conv => whnf)
  refine ⟨_, _, wakes11_ok, by first | rfl | simp [noRoIf, noRoL, noRoV, noRoL_bys], ?_⟩
  conv => whnf
  repeat ((first | refine ifB_t ?_ | refine ⟨rfl, ?_⟩); conv => whnf)
  rfl
end
section
--KR
attribute [local irreducible] ifB fitP Does Weaker
theorem pf_dems1 {H : Heap} {p : Prf} {zs : List AV} {K : List Nat → Prop} (hz : zs = prfC p) (h : K []) : demsP H [.agg (prfC p)] [.agg zs] K := by
 subst hz
 simp only [demsP, demP]
 refine ent_dems' p.a ?_
 refine ent_dems p.b ?_
 simpa only [and_self, true_and, List.nil_append] using h
def PLpt : Nat → Bool × Plan := plans [(1, (false, (takesTo [0, 1, 3, 4] (.all [(2, (.all [(5, (takesTo [6] (.all [(7, .done)])))]))]))))]
def mkP (a b : Ent) : Prf × Int := if ordR a b = -1 then (⟨a, b⟩, 0) else if ordR a b = 1 then (⟨b, a⟩, 0) else (prf0, 1)
section
attribute [local irreducible] demsP
set_option maxRecDepth 20000 in
set_option maxHeartbeats 4000000 in
theorem ptwin_ok (p : Prf) (hp : PrfS p) : ACall Tryz.prog 44 [.agg (prfC p)] (.agg (prfC p)) [] := by
 have h1 := etwin_ok p.a hp.a
 have h2 := etwin_ok p.b hp.b
 refine ACall.of_does TTok Tryz.func44 rfl Tryz.call44 rfl (wpc_sound (M := MRow) (PL := PLpt) (CU := cutAt [100001, 99999]) TTok mixed _ _ _ ?_)
 conv => whnf
 repeat ((refine ⟨rfl, ?_⟩); conv => whnf)
 refine Does.freeze 0 rfl (Does.tidy [(1, .rop (prfC p)), (2, .ptr 1 0)] [(1, zeroE ++ zeroE)] 2 10 rfl rfl rfl (by kernel_rfl) (by kernel_rfl) ?_)
 refine wpc_sound (M := MRow) (PL := PLpt) (CU := noCut) TTok mixed _ _ _ ?_
 conv => whnf
 refine ⟨by kernel_rfl, ?_⟩
 conv => whnf
 repeat ((first | refine ⟨entC_pure _, ?_⟩ | refine ⟨rfl, ?_⟩ | refine ⟨_, rfl, ?_⟩); conv => whnf)
 refine ⟨_, _, h1, by first | rfl | simp [noRoIf, noRoL, noRoV, noRoL_bys], ?_⟩
 conv => whnf
 repeat ((first | refine ⟨entC_pure _, ?_⟩ | refine ⟨rfl, ?_⟩); conv => whnf)
 refine ⟨_, _, h2, by first | rfl | simp [noRoIf, noRoL, noRoV, noRoL_bys], ?_⟩
 conv => whnf
 repeat ((first | refine ⟨(⟨by kernel_rfl, by kernel_rfl, Nat.le_of_ble_eq_true (by kernel_rfl)⟩ : AV.ones _ = true ∧ _ ∧ _), ?_⟩ | refine ⟨⟨rfl, rfl⟩, ?_⟩); conv => whnf)
 refine Does.tidy [(2, .ptr 1 0)] [(1, prfC p)] 2 10 rfl rfl rfl (by kernel_rfl) (by kernel_rfl) ?_
 refine wpc_sound (M := MRow) (PL := PLpt) (CU := noCut) TTok mixed _ _ _ ?_
 conv => whnf
 refine ⟨prfC p, by kernel_rfl, ?_⟩
 conv => whnf
 refine pf_dems1 (by kernel_rfl) ?_
 rfl
set_option maxRecDepth 20000 in
set_option maxHeartbeats 4000000 in
theorem pmake_ok (a b : Ent) (ha : EntS a) (hb : EntS b) : ACall Tryz.prog 17 [.agg (entC a), .agg (entC b)] (.tuple [.agg (prfC (mkP a b).1), .int .i64 (mkP a b).2]) [] := by
 have ho := order_ok a b ha hb
 have t1 := ptwin_ok ⟨a, b⟩ ⟨ha, hb⟩
 have t2 := ptwin_ok ⟨b, a⟩ ⟨hb, ha⟩
 unfold mkP
 generalize ordR a b = o at ho ⊢
 refine ACall.of_does TTok Tryz.func17 rfl Tryz.call17 rfl (wpc_sound (M := MRow) (PL := PL0) (CU := cutAt [100001, 99999]) TTok mixed _ _ _ ?_)
 conv => whnf
 repeat ((refine ⟨rfl, ?_⟩); conv => whnf)
 refine Does.freeze 0 rfl (Does.freeze 1 (zs := entC b) (by show some (frzL 0 _ (entC b)) = _; rw [entC_frz]) (Does.tidy [(2, .rop (entC a)), (3, .rop (entC b)), (4, .ptr 2 0)] [(2, zeroE ++ zeroE)] 3 22 rfl rfl rfl (by kernel_rfl) (by kernel_rfl) ?_))
 refine wpc_sound (M := MRow) (PL := PL0) (CU := noCut) TTok mixed _ _ _ ?_
 conv => whnf
 repeat ((first | refine ⟨entC_pure _, ?_⟩ | refine ⟨rfl, ?_⟩ | refine ⟨_, rfl, ?_⟩); conv => whnf)
 refine ⟨_, _, ho, by first | rfl | simp [noRoIf, noRoL, noRoV, noRoL_bys], ?_⟩
 conv => whnf
 by_cases c1 : o = -1
 ·rw [dt c1, if_pos c1]
  conv => whnf
  repeat ((first | refine ifB_t ?_ | refine ⟨_, rfl, ?_⟩ | refine ⟨⟨rfl, rfl⟩, ?_⟩); conv => whnf)
  refine ⟨(show pureL (prfC ⟨a, b⟩) = true from prfC_pure _), ?_⟩
  conv => whnf
  repeat ((refine ⟨rfl, ?_⟩); conv => whnf)
  refine ⟨_, _, t1, by first | rfl | simp [noRoIf, noRoL, noRoV, noRoL_bys], ?_⟩
  conv => whnf
  repeat ((refine ⟨(⟨by kernel_rfl, by kernel_rfl, Nat.le_of_ble_eq_true (by kernel_rfl)⟩ : AV.ones _ = true ∧ _ ∧ _), ?_⟩); conv => whnf)
  refine Does.tidy [(4, .ptr 2 0), (5, .int .i64 0)] [(2, prfC ⟨a, b⟩)] 3 22 rfl rfl rfl (by kernel_rfl) (by kernel_rfl) ?_
  refine wpc_sound (M := MRow) (PL := PL0) (CU := noCut) TTok mixed _ _ _ ?_
  conv => whnf
  refine ⟨prfC ⟨a, b⟩, by kernel_rfl, ?_⟩
  conv => whnf
  refine prf_int_dems (by kernel_rfl) ?_
  rfl
 rw [df c1, if_neg c1]
 conv => whnf
 repeat ((refine ifB_f ?_); conv => whnf)
 by_cases c2 : o = 1
 ·rw [dt c2, if_pos c2]
  conv => whnf
  repeat ((first | refine ifB_t ?_ | refine ⟨_, rfl, ?_⟩ | refine ⟨⟨rfl, rfl⟩, ?_⟩); conv => whnf)
  refine ⟨(show pureL (prfC ⟨b, a⟩) = true from prfC_pure _), ?_⟩
  conv => whnf
  repeat ((refine ⟨rfl, ?_⟩); conv => whnf)
  refine ⟨_, _, t2, by first | rfl | simp [noRoIf, noRoL, noRoV, noRoL_bys], ?_⟩
  conv => whnf
  repeat ((refine ⟨(⟨by kernel_rfl, by kernel_rfl, Nat.le_of_ble_eq_true (by kernel_rfl)⟩ : AV.ones _ = true ∧ _ ∧ _), ?_⟩); conv => whnf)
  refine Does.tidy [(4, .ptr 2 0), (5, .int .i64 0)] [(2, prfC ⟨b, a⟩)] 3 22 rfl rfl rfl (by kernel_rfl) (by kernel_rfl) ?_
  refine wpc_sound (M := MRow) (PL := PL0) (CU := noCut) TTok mixed _ _ _ ?_
  conv => whnf
  refine ⟨prfC ⟨b, a⟩, by kernel_rfl, ?_⟩
  conv => whnf
  refine prf_int_dems (by kernel_rfl) ?_
  rfl
 rw [df c2, if_neg c2]
 conv => whnf
 repeat ((first | refine ifB_f ?_ | refine ⟨(⟨by kernel_rfl, by kernel_rfl, Nat.le_of_ble_eq_true (by kernel_rfl)⟩ : AV.ones _ = true ∧ _ ∧ _), ?_⟩); conv => whnf)
 refine Does.tidy [(4, .ptr 2 0), (5, .int .i64 1)] [(2, zeroE ++ zeroE)] 3 22 rfl rfl rfl (by kernel_rfl) (by kernel_rfl) ?_
 refine wpc_sound (M := MRow) (PL := PL0) (CU := noCut) TTok mixed _ _ _ ?_
 conv => whnf
 refine ⟨zeroE ++ zeroE, by kernel_rfl, ?_⟩
 conv => whnf
 refine prf0_int_dems (by kernel_rfl) ?_
 rfl
end
set_option maxRecDepth 20000 in
set_option maxHeartbeats 4000000 in
theorem pverify_ok (p : Prf) (hp : PrfS p) : ACall Tryz.prog 49 [.int .i64 2, .agg (prfC p)] (.bool (prfR p && verE p.a && verE p.b)) [] := by
 have hc := check_proof_ok p hp
 have h1 := everify_ok p.a hp.a
 have h2 := everify_ok p.b hp.b
 refine ACall.of_does TTok Tryz.func49 rfl Tryz.call49 rfl (wpc_sound (M := MRow) (PL := PL0) (CU := cutAt [100001]) TTok mixed _ _ _ ?_)
 conv => whnf
 repeat ((refine ⟨rfl, ?_⟩); conv => whnf)
 refine Does.freeze 0 rfl (Does.tidy [(0, .int .i64 2), (3, .rop (prfC p))] [] 1 20 rfl rfl rfl (by kernel_rfl) (by kernel_rfl) ?_)
 refine wpc_sound (M := MRow) (PL := PL0) (CU := noCut) TTok mixed _ _ _ ?_
 conv => whnf
 repeat ((first | refine ⟨rfl, ?_⟩ | refine ⟨_, rfl, ?_⟩ | (refine And.intro ?_ ?_; (focus (first | (simp only [pureL, pureV, pureL_bys, Bool.and_true, Bool.and_self]; done) | (simp only [pureL, pureV, pureL_bys, pureL_toks, Bool.and_true, Bool.and_self]; done))))); conv => whnf)
 cases hr : prfR p <;> rw [hr] at hc
 ·refine ⟨_, _, hc, by first | rfl | simp [noRoIf, noRoL, noRoV, noRoL_bys], ?_⟩
  conv => whnf
  repeat ((first | refine ifB_f ?_ | refine ⟨rfl, ?_⟩); conv => whnf)
  rfl
 ·refine ⟨_, _, hc, by first | rfl | simp [noRoIf, noRoL, noRoV, noRoL_bys], ?_⟩
  conv => whnf
  repeat ((first | refine ifB_t ?_ | refine ⟨entC_pure _, ?_⟩ | refine ⟨rfl, ?_⟩ | refine ⟨_, rfl, ?_⟩); conv => whnf)
  cases g1 : verE p.a <;> rw [g1] at h1
  ·refine ⟨_, _, h1, by first | rfl | simp [noRoIf, noRoL, noRoV, noRoL_bys], ?_⟩
   conv => whnf
   repeat ((first | refine ifB_t ?_ | refine ifB_f ?_ | refine ⟨rfl, ?_⟩); conv => whnf)
   rfl
  ·refine ⟨_, _, h1, by first | rfl | simp [noRoIf, noRoL, noRoV, noRoL_bys], ?_⟩
   conv => whnf
   repeat ((first | refine ifB_t ?_ | refine ⟨entC_pure _, ?_⟩ | refine ⟨rfl, ?_⟩ | refine ⟨_, rfl, ?_⟩); conv => whnf)
   cases g2 : verE p.b <;> rw [g2] at h2
   ·refine ⟨_, _, h2, by first | rfl | simp [noRoIf, noRoL, noRoV, noRoL_bys], ?_⟩
    conv => whnf
    repeat ((first | refine ifB_t ?_ | refine ⟨rfl, ?_⟩); conv => whnf)
    rfl
   ·refine ⟨_, _, h2, by first | rfl | simp [noRoIf, noRoL, noRoV, noRoL_bys], ?_⟩
    conv => whnf
    repeat ((first | refine ifB_t ?_ | refine ⟨rfl, ?_⟩); conv => whnf)
    rfl
end
section
--KR
attribute [local irreducible] ifB fitP Does Weaker
def w2 (k : Int) : Ent := ⟨z32, 1, z32, 0, 1, [k], [], z64⟩
theorem w2_S {k : Int} (hk : 0 ≤ k ∧ k < 256) : EntS (w2 k) where
 au := ⟨fun x hx => by rw [show (w2 k).au = List.replicate 32 0 from rfl, List.mem_replicate] at hx; omega, rfl⟩
 seq := by simp [w2]
 prev := ⟨fun x hx => by rw [show (w2 k).prev = List.replicate 32 0 from rfl, List.mem_replicate] at hx; omega, rfl⟩
 stamp := by simp [w2]
 kind := by simp [w2]
 key := ⟨fun x hx => by rw [show (w2 k).key = [k] from rfl, List.mem_singleton] at hx; rw [hx]; exact hk, by simp [w2]⟩
 val := by simp [w2, Byt]
 sig := ⟨fun x hx => by rw [show (w2 k).sig = List.replicate 64 0 from rfl, List.mem_replicate] at hx; omega, rfl⟩
 key' := by simp [w2]
 val' := by simp [w2]
theorem w2_R1 : entR (w2 107) = true := by decide
theorem w2_R2 : entR (w2 108) = true := by decide
theorem w2_X (a s : List Int) (k : Int) : entX (sigE s (auE a (w2 k))) = [[1], putL 2 a.length ++ a, [1], [88, 32] ++ z32, [0], [131, 1, 97, k, 64]] := by
 show [putL 0 1, putL 2 a.length ++ a, putL 0 1, putL 2 z32.length ++ z32, putL 0 0, putL 4 3 ++ [putL 0 1, putL 3 ([k] : List Int).length ++ [k], putL 2 ([] : List Int).length ++ []].flatten] = _
 rw [show putL 0 1 = [1] by decide, show putL 2 (z32.length : Int) = [88, 32] by decide, show putL 0 0 = [0] by decide, show putL 4 3 = [131] by decide, show putL 3 (([k] : List Int).length : Int) = [97] from (by decide : putL 3 ((1 : Nat) : Int) = [97]), show putL 2 (([] : List Int).length : Int) = [64] by decide]
 rfl
theorem signE_au (s : List Int) (e : Ent) : (signE s e).au = shaL (1 :: s) := by unfold signE; rw [sigE_au, auE_au]
theorem sigE_seq (s : List Int) (e : Ent) : (sigE s e).seq = e.seq := rfl
theorem auE_seq (s : List Int) (e : Ent) : (auE s e).seq = e.seq := rfl
theorem signE_seq (s : List Int) (e : Ent) : (signE s e).seq = e.seq := by unfold signE; rw [sigE_seq, auE_seq]
def w2a : Ent := signE wkS (w2 107)
def w2b : Ent := signE wkS (w2 108)
theorem w2a_S : EntS w2a := signE_S wkS (w2_S (by omega))
theorem w2b_S : EntS w2b := signE_S wkS (w2_S (by omega))
theorem w2a_R : entR w2a = true := (signE_R _ _).trans w2_R1
theorem w2b_R : entR w2b = true := (signE_R _ _).trans w2_R2
theorem w2_au : w2a.au = w2b.au := by unfold w2a w2b; rw [signE_au, signE_au]
theorem w2_seq : w2a.seq = w2b.seq := by unfold w2a w2b; rw [signE_seq, signE_seq]; rfl
theorem lt_pre : ∀ (p a b : List Int), bytesLt (p ++ a) (p ++ b) = bytesLt a b
 | [], a, b => rfl
 | x :: p, a, b => by simp [bytesLt, lt_pre p a b]
theorem w2_bytes (k : Int) (h : entR (w2 k) = true) (hk : 0 ≤ k ∧ k < 256) : ∃ r, (entB (signE wkS (w2 k))).1 = (135 :: ([1] ++ ((putL 2 (shaL (1 :: wkS)).length ++ shaL (1 :: wkS)) ++ ([1] ++ (([88, 32] ++ z32) ++ ([0] ++ [131, 1, 97])))))) ++ k :: r := by
 rw [entB_yes' (signE_S wkS (w2_S hk)) (by rw [signE_R]; exact h)]
 unfold signE
 rw [w2_X]
 exact ⟨64 :: 88 :: 64 :: (sigE (openL (shaL (1 :: wkS)) (entBody (auE (shaL (1 :: wkS)) (w2 k))).1) (auE (shaL (1 :: wkS)) (w2 k))).sig, by simp only [List.flatten_cons, List.flatten_nil, List.append_assoc, List.cons_append, List.nil_append]⟩
theorem w2_lt : bytesLt (entB w2a).1 (entB w2b).1 = true := by
 obtain ⟨r, hr⟩ := w2_bytes 107 w2_R1 (by omega)
 obtain ⟨s, hs⟩ := w2_bytes 108 w2_R2 (by omega)
 unfold w2a w2b
 rw [hr, hs, lt_pre]
 simp [bytesLt]
theorem w2_gt : bytesLt (entB w2b).1 (entB w2a).1 = false := by
 obtain ⟨r, hr⟩ := w2_bytes 107 w2_R1 (by omega)
 obtain ⟨s, hs⟩ := w2_bytes 108 w2_R2 (by omega)
 unfold w2a w2b
 rw [hr, hs, lt_pre]
 simp [bytesLt]
theorem w2_ne : (entB w2b).1 ≠ (entB w2a).1 := fun h => by
 have := w2_lt
 rw [h] at this
 rw [show bytesLt (entB w2a).1 (entB w2a).1 = false by rw [← h]; rw [h]; have := w2_gt; rw [h] at this; exact this] at this
 cases this
theorem w2_ord1 : ordR w2a w2b = -1 := by
 unfold ordR
 rw [entB_ok0' w2a_S w2a_R, entB_ok0' w2b_S w2b_R]
 rw [if_neg (by simp), if_neg (by simp), if_neg (fun h => h w2_au), if_neg (fun h => h w2_seq)]
 unfold cmpI
 rw [w2_lt]
 rfl
theorem w2_ord2 : ordR w2b w2a = 1 := by
 unfold ordR
 rw [entB_ok0' w2a_S w2a_R, entB_ok0' w2b_S w2b_R]
 rw [if_neg (by simp), if_neg (by simp), if_neg (fun h => h w2_au.symm), if_neg (fun h => h w2_seq.symm)]
 unfold cmpI
 rw [w2_gt, if_neg w2_ne]
 rfl
set_option maxRecDepth 20000 in
set_option maxHeartbeats 4000000 in
theorem wakes12_of (a b : Ent) (h1 : ACall Tryz.prog 48 [.int .i64 2, .agg (c32 wkS []), .agg (entV (w2 107) .nil)] (.tuple [.agg (entC a), .int .i64 0]) [])
  (h2 : ACall Tryz.prog 48 [.int .i64 2, .agg (c32 wkS []), .agg (entV (w2 108) .nil)] (.tuple [.agg (entC b), .int .i64 0]) [])
  (h3 : ACall Tryz.prog 17 [.agg (entC b), .agg (entC a)] (.tuple [.agg (prfC ⟨a, b⟩), .int .i64 0]) [])
  (h4 : ACall Tryz.prog 18 [.agg (entC a), .agg (entC a)] (.bool true) []) (h5 : ACall Tryz.prog 18 [.agg (entC b), .agg (entC b)] (.bool true) [])
  (h6 : ACall Tryz.prog 49 [.int .i64 2, .agg (prfC ⟨a, b⟩)] (.bool true) []) (h7 : ACall Tryz.prog 23 [.agg (prfC ⟨a, b⟩)] (.int .i64 0) []) : ACall Tryz.prog 21 [] (.bool true) [] := by
 refine ACall.of_does TTok Tryz.func21 rfl Tryz.call21 rfl (wpc_sound (M := MRow) (PL := PL0) (CU := cutAt [100002, 100003, 100004]) TTok mixed _ _ _ ?_)
 conv => whnf
 repeat ((first | refine ⟨rfl, ?_⟩ | refine ⟨⟨rfl, rfl⟩, ?_⟩); conv => whnf)
 refine ⟨_, _, h1, by first | rfl | simp [noRoIf, noRoL, noRoV, noRoL_bys], ?_⟩
 conv => whnf
 repeat ((first | refine ⟨(⟨by kernel_rfl, by kernel_rfl, Nat.le_of_ble_eq_true (by kernel_rfl)⟩ : AV.ones _ = true ∧ _ ∧ _), ?_⟩ | refine ⟨rfl, ?_⟩); conv => whnf)
 refine Does.freeze 0 rfl (Does.tidy [(1, .rop (entC a)), (2, .int .i64 0)] [] 1 58 rfl rfl rfl (by kernel_rfl) (by kernel_rfl) ?_)
 refine wpc_sound (M := MRow) (PL := PL0) (CU := noCut) TTok mixed _ _ _ ?_
 conv => whnf
 repeat ((first | refine ⟨rfl, ?_⟩ | refine ⟨⟨rfl, rfl⟩, ?_⟩); conv => whnf)
 refine ⟨_, _, h2, by first | rfl | simp [noRoIf, noRoL, noRoV, noRoL_bys], ?_⟩
 conv => whnf
 repeat ((first | refine ⟨(⟨by kernel_rfl, by kernel_rfl, Nat.le_of_ble_eq_true (by kernel_rfl)⟩ : AV.ones _ = true ∧ _ ∧ _), ?_⟩ | refine ⟨rfl, ?_⟩); conv => whnf)
 refine Does.freeze 1 rfl (Does.tidy [(1, .rop (entC a)), (2, .int .i64 0), (3, .rop (entC b)), (4, .int .i64 0)] [] 2 58 rfl rfl rfl (by kernel_rfl) (by kernel_rfl) ?_)
 refine wpc_sound (M := MRow) (PL := PL0) (CU := noCut) TTok mixed _ _ _ ?_
 conv => whnf
 repeat ((first | refine ⟨entC_pure _, ?_⟩ | refine ⟨rfl, ?_⟩ | refine ⟨_, rfl, ?_⟩); conv => whnf)
 refine ⟨_, _, h3, by first | rfl | simp [noRoIf, noRoL, noRoV, noRoL_bys], ?_⟩
 conv => whnf
 repeat ((first | refine ⟨(⟨by kernel_rfl, by kernel_rfl, Nat.le_of_ble_eq_true (by kernel_rfl)⟩ : AV.ones _ = true ∧ _ ∧ _), ?_⟩ | refine ⟨rfl, ?_⟩); conv => whnf)
 refine Does.freeze 2 rfl (Does.tidy [(1, .rop (entC a)), (2, .int .i64 0), (3, .rop (entC b)), (4, .int .i64 0), (5, .rop (prfC ⟨a, b⟩)), (6, .int .i64 0)] [] 3 58 rfl rfl rfl (by kernel_rfl) (by kernel_rfl) ?_)
 refine wpc_sound (M := MRow) (PL := PL0) (CU := noCut) TTok mixed _ _ _ ?_
 conv => whnf
 repeat ((first | refine ifB_t ?_ | refine ⟨entC_pure _, ?_⟩ | refine ⟨rfl, ?_⟩ | refine ⟨_, rfl, ?_⟩); conv => whnf)
 refine ⟨_, _, h4, by first | rfl | simp [noRoIf, noRoL, noRoV, noRoL_bys], ?_⟩
 conv => whnf
 repeat ((first | refine ifB_t ?_ | refine ⟨entC_pure _, ?_⟩ | refine ⟨rfl, ?_⟩ | refine ⟨_, rfl, ?_⟩); conv => whnf)
 refine ⟨_, _, h5, by first | rfl | simp [noRoIf, noRoL, noRoV, noRoL_bys], ?_⟩
 conv => whnf
 repeat ((first | refine ifB_t ?_ | refine ⟨rfl, ?_⟩ | refine ⟨_, rfl, ?_⟩ | (refine And.intro ?_ ?_; (focus (first | (simp only [pureL, pureV, pureL_bys, Bool.and_true, Bool.and_self]; done) | (simp only [pureL, pureV, pureL_bys, pureL_toks, Bool.and_true, Bool.and_self]; done))))); conv => whnf)
 refine ⟨_, _, h6, by first | rfl | simp [noRoIf, noRoL, noRoV, noRoL_bys], ?_⟩
 conv => whnf
 repeat ((first | refine ifB_t ?_ | refine ⟨rfl, ?_⟩ | refine ⟨_, rfl, ?_⟩ | (refine And.intro ?_ ?_; (focus (first | (simp only [pureL, pureV, pureL_bys, Bool.and_true, Bool.and_self]; done) | (simp only [pureL, pureV, pureL_bys, pureL_toks, Bool.and_true, Bool.and_self]; done))))); conv => whnf)
 refine ⟨_, _, h7, by first | rfl | simp [noRoIf, noRoL, noRoV, noRoL_bys], ?_⟩
 conv => whnf
 repeat ((first | refine ifB_t ?_ | refine ⟨rfl, ?_⟩); conv => whnf)
 rfl
theorem wakes12_ok : ACall Tryz.prog 21 [] (.bool true) [] := by
 have h1 := wake_sign rfl (esign_ok wkS (w2 107) wkS_byt rfl (w2_S (by omega)) w2_R1)
 have h2 := wake_sign rfl (esign_ok wkS (w2 108) wkS_byt rfl (w2_S (by omega)) w2_R2)
 have ha := w2a_S
 have hb := w2b_S
 have o1 := w2_ord1
 have o2 := w2_ord2
 have va : verE w2a = true := (signE_ver wkS (w2 107)).trans w2_R1
 have vb : verE w2b = true := (signE_ver wkS (w2 108)).trans w2_R2
 unfold w2a w2b at *
 generalize signE wkS (w2 107) = a at *
 generalize signE wkS (w2 108) = b at *
 have hp : PrfS ⟨a, b⟩ := ⟨ha, hb⟩
 have hr : prfR ⟨a, b⟩ = true := by unfold prfR; rw [o1]; rfl
 have h3 := pmake_ok b a hb ha
 rw [show mkP b a = (⟨a, b⟩, 0) by unfold mkP; rw [o2]; rfl] at h3
 have h4 := kent_ok a a ha ha
 rw [dt rfl] at h4
 have h5 := kent_ok b b hb hb
 rw [dt rfl] at h5
 have h6 := pverify_ok ⟨a, b⟩ hp
 rw [hr, va, vb] at h6
 have h7 := check_proof_ok ⟨a, b⟩ hp
 rw [hr] at h7
 exact wakes12_of a b h1 h2 h3 h4 h5 h6 h7
end
section
--KR
attribute [local irreducible] ifB fitP Does Weaker
set_option maxRecDepth 20000 in
set_option maxHeartbeats 4000000 in
theorem proofReads_ok (b : List Int) (hb : Byt b ∧ b.length ≤ 9223372036854775807) : ACall Tryz.prog 13 [.ro b.length (bys b)] (.bool true) [] := by
 refine ACall.of_does TTok Tryz.func13 rfl Tryz.call13 rfl (wpc_sound (M := MRow) (PL := PL0) (CU := cutAt [100005, 100006]) TTok mixed _ _ _ ?_)
 by_cases hl : b.length ≤ 2000
 case neg =>
  conv => whnf
  repeat ((first | (refine ifB_pos (decide_eq_true (by first | omega | rfl | (dsimp only; omega))) ?_) | refine ⟨rfl, ?_⟩); conv => whnf)
  rfl
 have tw := (twin_ok b (by omega)).roRes
 have h1 := pread_ok b hb.1 (by omega)
 have h2 := refpread_ok b hb.1 (by omega)
 have hS := (rdPrf_prfS hb.1 (show b.length ≤ 1000000000 by omega)).1
 have kk := kprf_ok _ _ hS hS
 rw [dt rfl] at kk
 have bb := bytes_ok b b (by omega)
 rw [dt rfl] at bb
 have ho := rdPrf_or b
 have e1 := (pbytes_ok _ hS).roRes2 (.inl ⟨_, _, rfl⟩)
 have hi : (rdPrf b).2 = 0 → prfB (rdPrf b).1 = (b, 0) := fun e => (rdPrf_inv e).1
 clear hS
 generalize rdPrf b = q at *
 obtain ⟨m, er⟩ := q
 dsimp only at h1 h2 kk e1 hi
 conv => whnf
 repeat ((first | (refine ifB_neg (decide_eq_false (by first | omega | rfl | (dsimp only; omega))) ?_) | refine ⟨pureL_bys _, ?_⟩ | refine ⟨rfl, ?_⟩); conv => whnf)
 refine ⟨_, _, tw, by first | rfl | simp [noRoIf, noRoL, noRoV, noRoL_bys], ?_⟩
 conv => whnf
 repeat ((first | refine ⟨pureL_bys _, ?_⟩ | refine ⟨rfl, ?_⟩); conv => whnf)
 refine ⟨_, _, h1, by first | rfl | simp [noRoIf, noRoL, noRoV, noRoL_bys], ?_⟩
 conv => whnf
 repeat ((first | refine ⟨(⟨by kernel_rfl, by kernel_rfl, Nat.le_of_ble_eq_true (by kernel_rfl)⟩ : AV.ones _ = true ∧ _ ∧ _), ?_⟩ | refine ⟨rfl, ?_⟩); conv => whnf)
 refine Does.freeze 0 rfl (Does.tidy [(0, .ro b.length (bys b)), (3, .ro b.length (bys b)), (4, .rop (prfC m)), (5, .int .i64 er)] [] 1 66 rfl rfl rfl (by kernel_rfl) (by kernel_rfl) ?_)
 refine wpc_sound (M := MRow) (PL := PL0) (CU := cutAt [100006]) TTok mixed _ _ _ ?_
 conv => whnf
 repeat ((first | refine ⟨pureL_bys _, ?_⟩ | refine ⟨rfl, ?_⟩); conv => whnf)
 refine ⟨_, _, h2, by first | rfl | simp [noRoIf, noRoL, noRoV, noRoL_bys], ?_⟩
 conv => whnf
 repeat ((first | refine ⟨(⟨by kernel_rfl, by kernel_rfl, Nat.le_of_ble_eq_true (by kernel_rfl)⟩ : AV.ones _ = true ∧ _ ∧ _), ?_⟩ | refine ⟨rfl, ?_⟩); conv => whnf)
 refine Does.freeze 1 rfl (Does.tidy [(0, .ro b.length (bys b)), (3, .ro b.length (bys b)), (4, .rop (prfC m)), (5, .int .i64 er), (6, .rop (prfC m)), (7, .bool (decide (er = 0)))] [] 2 66 rfl rfl rfl (by kernel_rfl) (by kernel_rfl) ?_)
 refine wpc_sound (M := MRow) (PL := PL0) (CU := noCut) TTok mixed _ _ _ ?_
 rcases ho with e | e
 ·obtain rfl : er = 3 := congrArg Prod.snd e
  clear e1 hi
  conv => whnf
  repeat ((first | refine ifB_t ?_ | refine ifB_f ?_ | refine ⟨rfl, ?_⟩ | refine ⟨_, rfl, ?_⟩ | (refine And.intro ?_ ?_; (focus (first | (simp only [pureL, pureV, pureL_bys, Bool.and_true, Bool.and_self]; done) | (simp only [pureL, pureV, pureL_bys, pureL_toks, Bool.and_true, Bool.and_self]; done))))); conv => whnf)
  refine ⟨_, _, kk, by first | rfl | simp [noRoIf, noRoL, noRoV, noRoL_bys], ?_⟩
  conv => whnf
  repeat ((first | refine ifB_f ?_ | refine ⟨pureL_bys _, ?_⟩ | refine ⟨rfl, ?_⟩); conv => whnf)
  refine ⟨_, _, bb, by first | rfl | simp [noRoIf, noRoL, noRoV, noRoL_bys], ?_⟩
  conv => whnf
  repeat ((first | refine ifB_t ?_ | refine ifB_f ?_ | refine ⟨rfl, ?_⟩); conv => whnf)
  refine ⟨_, _, wakes12_ok, by first | rfl | simp [noRoIf, noRoL, noRoV, noRoL_bys], ?_⟩
  conv => whnf
  repeat ((refine ⟨rfl, ?_⟩); conv => whnf)
  rfl
 ·obtain rfl : er = 0 := e
  rw [hi rfl] at e1
  conv => whnf
  repeat ((first | refine ifB_f ?_ | refine ⟨rfl, ?_⟩ | refine ⟨_, rfl, ?_⟩ | (refine And.intro ?_ ?_; (focus (first | (simp only [pureL, pureV, pureL_bys, Bool.and_true, Bool.and_self]; done) | (simp only [pureL, pureV, pureL_bys, pureL_toks, Bool.and_true, Bool.and_self]; done))))); conv => whnf)
  refine ⟨_, _, kk, by first | rfl | simp [noRoIf, noRoL, noRoV, noRoL_bys], ?_⟩
  conv => whnf
  repeat ((first | refine ifB_f ?_ | refine ⟨pureL_bys _, ?_⟩ | refine ⟨rfl, ?_⟩); conv => whnf)
  refine ⟨_, _, bb, by first | rfl | simp [noRoIf, noRoL, noRoV, noRoL_bys], ?_⟩
  conv => whnf
  repeat ((first | refine ifB_f ?_ | refine ⟨rfl, ?_⟩ | refine ⟨_, rfl, ?_⟩ | (refine And.intro ?_ ?_; (focus (first | (simp only [pureL, pureV, pureL_bys, Bool.and_true, Bool.and_self]; done) | (simp only [pureL, pureV, pureL_bys, pureL_toks, Bool.and_true, Bool.and_self]; done))))); conv => whnf)
  refine ⟨_, _, e1, by first | rfl | simp [noRoIf, noRoL, noRoV, noRoL_bys], ?_⟩
  conv => whnf
  repeat ((first | refine ifB_t ?_ | refine ⟨pureL_bys _, ?_⟩ | refine ⟨rfl, ?_⟩); conv => whnf)
  refine ⟨_, _, bb, by first | rfl | simp [noRoIf, noRoL, noRoV, noRoL_bys], ?_⟩
  conv => whnf
  repeat ((first | refine ifB_t ?_ | refine ⟨rfl, ?_⟩); conv => whnf)
  refine ⟨_, _, wakes12_ok, by first | rfl | simp [noRoIf, noRoL, noRoV, noRoL_bys], ?_⟩
  conv => whnf
  repeat ((first | refine ifB_t ?_ | refine ⟨rfl, ?_⟩); conv => whnf)
  rfl
end
section

def prevE (p : List Int) (e : Ent) : Ent := ⟨e.au, e.seq, p, e.stamp, e.kind, e.key, e.val, e.sig⟩
def linkH (e : Ent) : List Int := 135 :: ([1] ++ (([88, 32] ++ e.au) ++ (putL 0 e.seq ++ [88, 32])))
def linkR (e : Ent) : List Int := putL 0 e.stamp ++ ((putL 4 3 ++ [putL 0 e.kind, putL 3 e.key.length ++ e.key, putL 2 e.val.length ++ e.val].flatten) ++ (88 :: 64 :: e.sig))
theorem prevE_S {p : List Int} {e : Ent} (he : EntS e) (hp : Byt p ∧ p.length = 32) : EntS (prevE p e) where
 au := he.au
 seq := he.seq
 prev := hp
 stamp := he.stamp
 kind := he.kind
 key := he.key
 val := he.val
 sig := he.sig
 key' := he.key'
 val' := he.val'
theorem prevE_R {p : List Int} {e : Ent} (h2 : 2 ≤ e.seq) : entR (prevE p e) = entR e := by
 unfold entR
 rw [show (prevE p e).seq = e.seq from rfl, show (prevE p e).stamp = e.stamp from rfl, show opR (prevE p e) = opR e from rfl, dt (show e.seq ≠ 1 by omega)]
 simp
theorem entB_link {e : Ent} (he : EntS e) (hr : entR e = true) : entB e = (linkH e ++ (e.prev ++ linkR e), 0) := by
 rw [entB_yes' he hr]
 unfold entX linkH linkR
 rw [he.au.2, he.prev.2]
 simp only [List.flatten_cons, List.flatten_nil, List.append_assoc, List.cons_append, List.nil_append, List.append_nil, show putL 2 ((32 : Nat) : Int) = [88, 32] by decide, show putL 0 1 = [1] by decide]
theorem linkH_len {e : Ent} (he : EntS e) (h : 1 ≤ e.seq ∧ e.seq ≤ 200) : (linkH e).length = 39 + (if 24 ≤ e.seq then 1 else 0) := by
 unfold linkH
 have hp : (putL 0 e.seq).length = 1 + (if 24 ≤ e.seq then 1 else 0) := by
  unfold putL sizeR
  by_cases h24 : 24 ≤ e.seq
  ·rw [if_pos h24, if_neg (by omega), if_pos (by omega)]
   rfl
  ·rw [if_neg h24, if_pos (by omega)]
   rfl
 simp only [List.length_cons, List.length_append, List.length_nil, he.au.2, hp]
 omega
theorem link_inj {e : Ent} {p : List Int} (he : EntS e) (hp : p.length = 32) : decide (linkH e ++ (e.prev ++ linkR e) = linkH e ++ (p ++ linkR e)) = decide (e.prev = p) := by
 refine decide_eq_decide.2 ⟨fun h => ?_, fun h => by rw [h]⟩
 exact (List.append_inj (List.append_cancel_left h) (by rw [he.prev.2, hp])).1
end
section
--KR
attribute [local irreducible] ifB fitP Does Weaker
def PLlk : Nat → Bool × Plan := plans [(7, (false, (takesTo [0, 1, 2, 3, 4, 5, 6, 7, 8, 9, 10, 11, 12, 13, 14, 15, 17, 18, 19, 20] (.all [(16, (takes [21, 22]))])))), (12, (false, (takesTo [0, 1, 2, 3, 4, 5, 6, 7, 8, 9, 10, 11] (.all [(12, (takesTo [13, 14, 15, 16, 17, 18, 19, 20, 21] (.all [(22, (takesTo [23, 24, 25, 26, 27, 28, 29, 30, 31, 32, 33] (.all [(34, (takes [35, 36]))])))])))]))))]
set_option maxRecDepth 20000 in
set_option maxHeartbeats 4000000 in
theorem entryLinks_ok (e : Ent) (p : List Int) (oe : EntOk e) (hp : Byt p ∧ p.length = 32) : ACall Tryz.prog 9 [.agg (entC e), .agg (c32 p [])] (.bool true) [] := by
 have v1 := heavy11_ok [e]
 refine ACall.of_does TTok Tryz.func9 rfl Tryz.call9 rfl (wpc_sound (M := MRow) (PL := PLlk) (CU := cutAt [100001, 100004, 100005, 100015]) TTok mixed _ _ _ ?_)
 conv => whnf
 repeat ((refine ⟨rfl, ?_⟩); conv => whnf)
 refine Does.freeze 0 rfl (Does.freeze 1 (zs := c32 p []) (by show some (frzL 0 _ (c32 p [])) = _; rw [c32_frz]; rfl) (Does.tidy [(2, .rop (entC e)), (3, .rop (c32 p []))] [] 2 120 rfl rfl rfl (by kernel_rfl) (by kernel_rfl) ?_))
 refine wpc_sound (M := MRow) (PL := PLlk) (CU := noCut) TTok mixed _ _ _ ?_
 conv => whnf
 repeat ((first | refine ⟨entC_pure _, ?_⟩ | (refine Or.inl ⟨⟨rfl, ?_⟩, ?_⟩; (focus (first | rfl | (simp; done) | (rw [toksC_length]; omega)))) | refine ⟨rfl, ?_⟩ | refine ⟨_, rfl, ?_⟩ | refine ⟨⟨rfl, rfl⟩, ?_⟩); conv => whnf)
 cases hv : heavyEs [e] <;> rw [hv] at v1
 case true =>
  refine ⟨_, _, v1.arg1 rfl (by simp [rowsC]; rfl), by first | rfl | simp [noRoIf, noRoL, noRoV, noRoL_bys], ?_⟩
  conv => whnf
  repeat ((first | refine ifB_t ?_ | refine ⟨rfl, ?_⟩); conv => whnf)
  rfl
 refine ⟨_, _, v1.arg1 rfl (by simp [rowsC]; rfl), by first | rfl | simp [noRoIf, noRoL, noRoV, noRoL_bys], ?_⟩
 conv => whnf
 repeat ((first | refine ifB_f ?_ | refine ⟨entC_pure _, ?_⟩ | refine ⟨rfl, ?_⟩ | refine ⟨_, rfl, ?_⟩); conv => whnf)
 have he := entS_of1 oe hv
 have rm := refentry_ok e he
 cases hr : entR e <;> rw [hr] at rm
 case false =>
  refine ⟨_, _, rm, by first | rfl | simp [noRoIf, noRoL, noRoV, noRoL_bys], ?_⟩
  conv => whnf
  repeat ((first | refine ifB_t ?_ | refine ifB_f ?_ | refine ⟨rfl, ?_⟩); conv => whnf)
  rfl
 refine ⟨_, _, rm, by first | rfl | simp [noRoIf, noRoL, noRoV, noRoL_bys], ?_⟩
 conv => whnf
 repeat ((first | refine ifB_f ?_ | refine ⟨_, rfl, ?_⟩); conv => whnf)
 by_cases h2 : e.seq < 2
 ·rw [dt h2]
  conv => whnf
  repeat ((first | refine ifB_t ?_ | refine ⟨rfl, ?_⟩); conv => whnf)
  rfl
 rw [df h2]
 conv => whnf
 repeat ((first | refine ifB_f ?_ | refine ⟨entC_pure _, ?_⟩ | refine ⟨rfl, ?_⟩ | refine ⟨_, rfl, ?_⟩); conv => whnf)
 have tw := ktwin_ok e he
 refine ⟨_, _, tw, by first | rfl | simp [noRoIf, noRoL, noRoV, noRoL_bys], ?_⟩
 conv => whnf
 repeat ((first | refine ⟨(⟨by kernel_rfl, by kernel_rfl, Nat.le_of_ble_eq_true (by kernel_rfl)⟩ : AV.ones _ = true ∧ _ ∧ _), ?_⟩ | refine ⟨rfl, ?_⟩); conv => whnf)
 refine Does.tidy [(2, .rop (entC e)), (3, .rop (c32 p [])), (5, .ptr 3 0)] [(2, entC e), (3, entC e)] 4 120 rfl rfl rfl (by kernel_rfl) (by kernel_rfl) ?_
 refine wpc_sound (M := MRow) (PL := PLlk) (CU := noCut) TTok mixed _ _ _ ?_
 conv => whnf
 repeat ((first | refine ⟨(⟨by kernel_rfl, by kernel_rfl, Nat.le_of_ble_eq_true (by kernel_rfl)⟩ : AV.ones _ = true ∧ _ ∧ _), ?_⟩ | refine ⟨_, rfl, ?_⟩); conv => whnf)
 refine Does.freeze 3 rfl (Does.tidy [(2, .rop (entC e)), (3, .rop (c32 p [])), (5, .rop (entC (prevE p e)))] [(2, entC e)] 4 120 rfl rfl rfl (by kernel_rfl) (by kernel_rfl) ?_)
 refine wpc_sound (M := MRow) (PL := PLlk) (CU := noCut) TTok mixed _ _ _ ?_
 have hx := prevE_S he hp
 have rx : entR (prevE p e) = true := (prevE_R (by omega)).trans hr
 have e1 := (ebytes_ok e he).roRes2 (.inl ⟨_, _, rfl⟩)
 have e2 := (ebytes_ok _ hx).roRes2 (.inl ⟨_, _, rfl⟩)
 have yb := entB_byt hx
 have e3 := eread_ok _ yb.1 (by omega)
 rw [rdEnt_bytes hx (entB_ok0 hx rx)] at e3
 have ya := entB_byt he
 rw [entB_link he hr] at e1 ya
 rw [entB_link hx rx, show linkH (prevE p e) = linkH e from rfl, show linkR (prevE p e) = linkR e from rfl, show (prevE p e).prev = p from rfl] at e2 e3 yb
 dsimp only at ya yb e3
 have hl := linkH_len he ⟨(entR_facts hr).1.1, (entR_facts hr).1.2⟩
 have hl2 : (linkH e).length ≤ 40 := by rw [hl]; split <;> omega
 have b1 := bytes_ok (linkH e ++ (e.prev ++ linkR e)) (linkH e ++ (p ++ linkR e)) (by omega)
 rw [link_inj he hp.2] at b1
 have k1 := kent_ok _ _ hx hx
 rw [dt rfl] at k1
 have lp := he.prev.2
 clear hx rx tw rm v1
 generalize linkH e = H at *
 generalize linkR e = R at *
 have s1 := bytes_ok p p (by omega)
 rw [dt rfl] at s1
 have s2 := bytes_ok H H (by omega)
 rw [dt rfl] at s2
 have lq : (H ++ (p ++ R)).length = H.length + 32 + R.length := by simp; omega
 have s3 := bytes_ok R R (by have := yb.2; omega)
 rw [dt rfl] at s3
 dsimp only at e1 e2 e3
 have cb : ∀ i : Int, i = H.length + 32 → cutB (bys (H ++ (p ++ R))) (some i) none 1 = bys R := fun i hi => by
  rw [← List.append_assoc]
  exact cut_end (by rw [List.length_append, hp.2]; omega)
 have ca : ∀ i : Int, i = H.length + 32 → cutB (bys (H ++ (e.prev ++ R))) (some i) none 1 = bys R := fun i hi => by
  rw [← List.append_assoc]
  exact cut_end (by rw [List.length_append, lp]; omega)
 conv => whnf
 repeat ((first | refine ⟨entC_pure _, ?_⟩ | refine ⟨rfl, ?_⟩ | refine ⟨_, rfl, ?_⟩); conv => whnf)
 refine ⟨_, _, e1, by first | rfl | simp [noRoIf, noRoL, noRoV, noRoL_bys], ?_⟩
 conv => whnf
 repeat ((first | refine ⟨entC_pure _, ?_⟩ | refine ⟨rfl, ?_⟩ | refine ⟨_, rfl, ?_⟩); conv => whnf)
 refine ⟨_, _, e2, by first | rfl | simp [noRoIf, noRoL, noRoV, noRoL_bys], ?_⟩
 conv => whnf
 refine ⟨by kernel_rfl, ?_⟩
 conv => whnf
 repeat ((first | refine ifB_f ?_ | refine ⟨rfl, ?_⟩ | refine ⟨_, rfl, ?_⟩ | (refine ifB_neg (decide_eq_false (by first | (simp; done) | (simp; omega))) ?_)); conv => whnf)
 refine ⟨e.prev, p, ⟨rfl, c32_map lp, c32_map hp.2, lp, hp.2⟩, ?_⟩
 conv => whnf
 repeat ((first | refine ifB_f ?_ | refine ⟨pureL_bys _, ?_⟩ | refine ⟨rfl, ?_⟩); conv => whnf)
 generalize decide (e.prev = p) = z at b1 ⊢
 cases z
 all_goals
  refine ⟨_, _, b1, by first | rfl | simp [noRoIf, noRoL, noRoV, noRoL_bys], ?_⟩
  conv => whnf
  repeat ((first | refine ifB_f ?_ | refine ⟨_, rfl, ?_⟩); conv => whnf)
  by_cases h24 : 24 ≤ e.seq
  ·rw [dt h24]
   have hH : H.length = 40 := by rw [hl, if_pos h24]
   conv => whnf
   repeat ((first | refine ifB_t ?_ | (refine fit_i64 ⟨by first | omega | rfl | (dsimp only; omega), by first | omega | rfl | (dsimp only; omega)⟩ ?_)); conv => whnf)
   refine ⟨by kernel_rfl, ?_⟩
   conv => whnf
   repeat ((first | refine ifB_f ?_ | (refine ifB_neg (decide_eq_false (by first | omega | rfl | (dsimp only; omega))) ?_) | (refine fit_i64 ⟨by first | omega | rfl | (dsimp only; omega), by first | omega | rfl | (dsimp only; omega)⟩ ?_) | refine ⟨pureL_cutB _ _ _ _, ?_⟩ | (refine ⟨⟨by first | (simp only [List.drop_zero, List.length_drop, hds_len]; omega) | exact Nat.le_of_ble_eq_true (by kernel_rfl), okB_none _⟩, ?_⟩) | refine ⟨rfl, ?_⟩ | (refine ⟨⟨?_, ?_⟩, ?_⟩; (focus (simp; done)); (focus (first | (simp only [okB]; omega) | (simp [okB]; omega))))); conv => whnf)
   refine ⟨_, _, s1.arg22 (by simp [lenB]; omega) (cut_at (p := H) (x := p) (s := R) (by rw [hH]; rfl) (by rw [hH, hp.2]; rfl)) hp.2.symm (cut32 hp.2 _), by first | rfl | simp [noRoIf, noRoL, noRoV, noRoL_bys], ?_⟩
   conv => whnf
   repeat ((first | refine ifB_f ?_ | refine ⟨pureL_cutB _ _ _ _, ?_⟩ | refine ⟨rfl, ?_⟩ | (refine ⟨⟨?_, ?_⟩, ?_⟩; (focus (simp; done)); (focus (first | (simp only [okB]; omega) | (simp [okB]; omega))))); conv => whnf)
   refine ⟨_, _, s2.arg22 (by simp [lenB]; omega) (cut_beg (by rw [hH]; rfl)) (by simp [lenB]; omega) (cut_beg (by rw [hH]; rfl)), by first | rfl | simp [noRoIf, noRoL, noRoV, noRoL_bys], ?_⟩
   conv => whnf
   repeat ((first | refine ifB_f ?_ | (refine fit_i64 ⟨by first | omega | rfl | (dsimp only; omega), by first | omega | rfl | (dsimp only; omega)⟩ ?_) | refine ⟨pureL_cutB _ _ _ _, ?_⟩ | refine ⟨rfl, ?_⟩ | (refine ⟨⟨?_, ?_⟩, ?_⟩; (focus (simp; done)); (focus (first | (simp only [okB]; omega) | (simp [okB]; omega))))); conv => whnf)
   refine ⟨_, _, s3.arg22 (by simp [lenB]; omega) (cb _ (by rw [hH]; rfl)) (by simp [lenB]; omega) (ca _ (by rw [hH]; rfl)), by first | rfl | simp [noRoIf, noRoL, noRoV, noRoL_bys], ?_⟩
   conv => whnf
   repeat ((first | refine ifB_f ?_ | refine ⟨pureL_bys _, ?_⟩ | refine ⟨rfl, ?_⟩); conv => whnf)
   refine ⟨_, _, e3, by first | rfl | simp [noRoIf, noRoL, noRoV, noRoL_bys], ?_⟩
   conv => whnf
   repeat ((first | refine ⟨(⟨by kernel_rfl, by kernel_rfl, Nat.le_of_ble_eq_true (by kernel_rfl)⟩ : AV.ones _ = true ∧ _ ∧ _), ?_⟩ | refine ⟨rfl, ?_⟩); conv => whnf)
   refine Does.freeze 4 rfl (Does.tidy [(5, .rop (entC (prevE p e))), (11, .rop (entC (prevE p e))), (12, .int .i64 0)] [(2, entC e)] 5 120 rfl rfl rfl (by kernel_rfl) (by kernel_rfl) ?_)
   refine wpc_sound (M := MRow) (PL := PLlk) (CU := noCut) TTok mixed _ _ _ ?_
   conv => whnf
   repeat ((first | refine ifB_t ?_ | refine ⟨entC_pure _, ?_⟩ | refine ⟨rfl, ?_⟩ | refine ⟨_, rfl, ?_⟩); conv => whnf)
   refine ⟨_, _, k1, by first | rfl | simp [noRoIf, noRoL, noRoV, noRoL_bys], ?_⟩
   conv => whnf
   repeat ((first | refine ifB_t ?_ | refine ⟨rfl, ?_⟩); conv => whnf)
   refine ⟨_, _, wakes11_ok, by first | rfl | simp [noRoIf, noRoL, noRoV, noRoL_bys], ?_⟩
   conv => whnf
   repeat ((first | refine ifB_t ?_ | refine ⟨rfl, ?_⟩); conv => whnf)
   rfl
  ·rw [df h24]
   have hH : H.length = 39 := by rw [hl, if_neg h24]
   conv => whnf
   repeat ((refine ifB_f ?_); conv => whnf)
   refine ⟨by kernel_rfl, ?_⟩
   conv => whnf
   repeat ((first | refine ifB_f ?_ | (refine ifB_neg (decide_eq_false (by first | omega | rfl | (dsimp only; omega))) ?_) | (refine fit_i64 ⟨by first | omega | rfl | (dsimp only; omega), by first | omega | rfl | (dsimp only; omega)⟩ ?_) | refine ⟨pureL_cutB _ _ _ _, ?_⟩ | (refine ⟨⟨by first | (simp only [List.drop_zero, List.length_drop, hds_len]; omega) | exact Nat.le_of_ble_eq_true (by kernel_rfl), okB_none _⟩, ?_⟩) | refine ⟨rfl, ?_⟩ | (refine ⟨⟨?_, ?_⟩, ?_⟩; (focus (simp; done)); (focus (first | (simp only [okB]; omega) | (simp [okB]; omega))))); conv => whnf)
   refine ⟨_, _, s1.arg22 (by simp [lenB]; omega) (cut_at (p := H) (x := p) (s := R) (by rw [hH]; rfl) (by rw [hH, hp.2]; rfl)) hp.2.symm (cut32 hp.2 _), by first | rfl | simp [noRoIf, noRoL, noRoV, noRoL_bys], ?_⟩
   conv => whnf
   repeat ((first | refine ifB_f ?_ | refine ⟨pureL_cutB _ _ _ _, ?_⟩ | refine ⟨rfl, ?_⟩ | (refine ⟨⟨?_, ?_⟩, ?_⟩; (focus (simp; done)); (focus (first | (simp only [okB]; omega) | (simp [okB]; omega))))); conv => whnf)
   refine ⟨_, _, s2.arg22 (by simp [lenB]; omega) (cut_beg (by rw [hH]; rfl)) (by simp [lenB]; omega) (cut_beg (by rw [hH]; rfl)), by first | rfl | simp [noRoIf, noRoL, noRoV, noRoL_bys], ?_⟩
   conv => whnf
   repeat ((first | refine ifB_f ?_ | (refine fit_i64 ⟨by first | omega | rfl | (dsimp only; omega), by first | omega | rfl | (dsimp only; omega)⟩ ?_) | refine ⟨pureL_cutB _ _ _ _, ?_⟩ | refine ⟨rfl, ?_⟩ | (refine ⟨⟨?_, ?_⟩, ?_⟩; (focus (simp; done)); (focus (first | (simp only [okB]; omega) | (simp [okB]; omega))))); conv => whnf)
   refine ⟨_, _, s3.arg22 (by simp [lenB]; omega) (cb _ (by rw [hH]; rfl)) (by simp [lenB]; omega) (ca _ (by rw [hH]; rfl)), by first | rfl | simp [noRoIf, noRoL, noRoV, noRoL_bys], ?_⟩
   conv => whnf
   repeat ((first | refine ifB_f ?_ | refine ⟨pureL_bys _, ?_⟩ | refine ⟨rfl, ?_⟩); conv => whnf)
   refine ⟨_, _, e3, by first | rfl | simp [noRoIf, noRoL, noRoV, noRoL_bys], ?_⟩
   conv => whnf
   repeat ((first | refine ⟨(⟨by kernel_rfl, by kernel_rfl, Nat.le_of_ble_eq_true (by kernel_rfl)⟩ : AV.ones _ = true ∧ _ ∧ _), ?_⟩ | refine ⟨rfl, ?_⟩); conv => whnf)
   refine Does.freeze 4 rfl (Does.tidy [(5, .rop (entC (prevE p e))), (11, .rop (entC (prevE p e))), (12, .int .i64 0)] [(2, entC e)] 5 120 rfl rfl rfl (by kernel_rfl) (by kernel_rfl) ?_)
   refine wpc_sound (M := MRow) (PL := PLlk) (CU := noCut) TTok mixed _ _ _ ?_
   conv => whnf
   repeat ((first | refine ifB_t ?_ | refine ⟨entC_pure _, ?_⟩ | refine ⟨rfl, ?_⟩ | refine ⟨_, rfl, ?_⟩); conv => whnf)
   refine ⟨_, _, k1, by first | rfl | simp [noRoIf, noRoL, noRoV, noRoL_bys], ?_⟩
   conv => whnf
   repeat ((first | refine ifB_t ?_ | refine ⟨rfl, ?_⟩); conv => whnf)
   refine ⟨_, _, wakes11_ok, by first | rfl | simp [noRoIf, noRoL, noRoV, noRoL_bys], ?_⟩
   conv => whnf
   repeat ((first | refine ifB_t ?_ | refine ⟨rfl, ?_⟩); conv => whnf)
   rfl
end
section
--KR
attribute [local irreducible] ifB fitP Does Weaker
def endE (o : Nat) : Nat → Ent
 | 0 => ⟨z32, 200, z32, 9223372036854775807, 1, [107], List.replicate (40 + o) 0, z64⟩
 | 1 => ⟨z32, 200, z32, 9223372036854775807, 1, List.replicate (16 + o) 0, [], z64⟩
 | _ => ⟨z32, 200 + o, z32, 9223372036854775807, 1, [107], [], z64⟩
theorem rep_byt (n : Nat) : Byt (List.replicate n 0) := fun x hx => by rw [List.mem_replicate] at hx; omega
theorem endE_S {o : Nat} (ho : o < 2) : ∀ c, EntS (endE o c)
 | 0 => { au := ⟨rep_byt 32, rfl⟩, seq := by show _ ≤ (200 : Int) ∧ (200 : Int) < _; omega, prev := ⟨rep_byt 32, rfl⟩, stamp := by show _ ≤ (9223372036854775807 : Int) ∧ (9223372036854775807 : Int) < _; omega, kind := by show _ ≤ (1 : Int) ∧ (1 : Int) < _; omega, key := ⟨by simp [endE, Byt], by simp [endE]⟩, val := ⟨rep_byt _, by simp [endE]; omega⟩, sig := ⟨rep_byt 64, rfl⟩, key' := by simp [endE], val' := by simp [endE]; omega }
 | 1 => { au := ⟨rep_byt 32, rfl⟩, seq := by show _ ≤ (200 : Int) ∧ (200 : Int) < _; omega, prev := ⟨rep_byt 32, rfl⟩, stamp := by show _ ≤ (9223372036854775807 : Int) ∧ (9223372036854775807 : Int) < _; omega, kind := by show _ ≤ (1 : Int) ∧ (1 : Int) < _; omega, key := ⟨rep_byt _, by simp [endE]; omega⟩, val := ⟨by simp [endE, Byt], by simp [endE]⟩, sig := ⟨rep_byt 64, rfl⟩, key' := by simp [endE]; omega, val' := by simp [endE] }
 | (_ + 2) => { au := ⟨rep_byt 32, rfl⟩, seq := by show _ ≤ (200 + o : Int) ∧ (200 + o : Int) < _; omega, prev := ⟨rep_byt 32, rfl⟩, stamp := by show _ ≤ (9223372036854775807 : Int) ∧ (9223372036854775807 : Int) < _; omega, kind := by show _ ≤ (1 : Int) ∧ (1 : Int) < _; omega, key := ⟨by simp [endE, Byt], by simp [endE]⟩, val := ⟨by simp [endE, Byt], by simp [endE]⟩, sig := ⟨rep_byt 64, rfl⟩, key' := by simp [endE], val' := by simp [endE] }
theorem nil_args {g : FuncId} {m : Ent} {r : AV} (hv : m.val = []) (h : ACall Tryz.prog g [.agg (entC m)] r []) : ACall Tryz.prog g [.agg (entV m .nil)] r [] :=
 h.les (by simp [pureL, pureV, c32_pure, entV, c64_pure]) (by simp only [pureL, pureV, entC_pure]; rfl) ⟨entV_les hv, trivial⟩
theorem nil_args2 {g : FuncId} {k m : Ent} {r : AV} (hv : m.val = []) (h : ACall Tryz.prog g [.agg (entC k), .agg (entC m)] r []) : ACall Tryz.prog g [.agg (entC k), .agg (entV m .nil)] r [] :=
 h.les (by simp [pureL, pureV, c32_pure, entV, c64_pure, entC_pure]) (by simp only [pureL, pureV, entC_pure]; rfl) ⟨lesP_ent k rfl, entV_les hv, trivial⟩
theorem end_core (w : Ent) (hS : EntS w) (hr : entR w = true) : ∃ b, ACall Tryz.prog 24 [.agg (entC w)] (.tuple [.ro b.length (bys b), .int .i64 0]) [] ∧ ACall Tryz.prog 27 [.ro b.length (bys b)] (.tuple [.agg (entC w), .int .i64 0]) [] := by
 have h2 := (ebytes_ok _ hS).roRes2 (.inl ⟨_, _, rfl⟩)
 have hb := entB_byt hS
 have h3 := eread_ok _ hb.1 (by omega)
 have hz := entB_ok0 hS hr
 rw [rdEnt_bytes hS hz] at h3
 rw [hz] at h2
 exact ⟨_, h2, h3⟩
set_option maxRecDepth 20000 in
set_option maxHeartbeats 8000000 in
theorem entryEnds_ok (over what : Int) (ho : -9223372036854775808 ≤ over ∧ over < 9223372036854775808) (hw : -9223372036854775808 ≤ what ∧ what < 9223372036854775808) : ACall Tryz.prog 8 [.int .i64 over, .int .i64 what] (.bool true) [] := by
 refine ACall.of_does TTok Tryz.func8 rfl Tryz.call8 rfl (wpc_sound (M := MRow) (PL := PL0) (CU := cutAt [100003, 100009, 100013]) TTok mixed _ _ _ ?_)
 obtain ⟨o, hoo, ho2⟩ := mod_len over (n := 2) (by omega)
 obtain ⟨c, hcc, hc3⟩ := mod_len what (n := 3) (by omega)
 have w1 := wrap_u64 over
 have w2 := wrap_u64 what
 conv => whnf
 refine fit_wrap ?_
 rw [w1]
 conv => whnf
 repeat ((refine And.intro (by first | omega | rfl | (dsimp only; omega)) ?_); conv => whnf)
 rw [show (over % 18446744073709551616).tmod 2 = (o : Int) from hoo]
 conv => whnf
 repeat ((first | (refine fit_i64 ⟨by first | omega | rfl | (dsimp only; omega), by first | omega | rfl | (dsimp only; omega)⟩ ?_) | refine ⟨(⟨by kernel_rfl, by kernel_rfl, Nat.le_of_ble_eq_true (by kernel_rfl)⟩ : AV.ones _ = true ∧ _ ∧ _), ?_⟩ | refine ⟨rfl, ?_⟩ | refine ⟨⟨rfl, rfl⟩, ?_⟩); conv => whnf)
 refine Does.tidy [(0, .int .i64 o), (1, .int .i64 what), (5, .ptr 0 0)] [(0, entV (endE 0 2) .nil)] 1 75 rfl rfl rfl (by kernel_rfl) (by kernel_rfl) ?_
 refine wpc_sound (M := MRow) (PL := PL0) (CU := cutAt [100009]) TTok mixed _ _ _ ?_
 conv => whnf
 refine fit_wrap ?_
 rw [w2]
 conv => whnf
 repeat ((refine And.intro (by first | omega | rfl | (dsimp only; omega)) ?_); conv => whnf)
 rw [show (what % 18446744073709551616).tmod 3 = (c : Int) from hcc]
 clear hoo hcc w1 w2
 have hos : o = 0 ∨ o = 1 := by omega
 have hcs : c = 0 ∨ c = 1 ∨ c = 2 := by omega
 rcases hos with rfl | rfl <;> rcases hcs with rfl | rfl | rfl
 ·conv => whnf
  repeat ((first | refine ifB_t ?_ | (refine fit_i64 ⟨by first | omega | rfl | (dsimp only; omega), by first | omega | rfl | (dsimp only; omega)⟩ ?_)); conv => whnf)
  refine ⟨⟨rfl, by decide, by decide, by decide, by decide, rfl, rfl⟩, ?_⟩
  conv => whnf
  repeat ((refine ⟨(⟨by kernel_rfl, by kernel_rfl, Nat.le_of_ble_eq_true (by kernel_rfl)⟩ : AV.ones _ = true ∧ _ ∧ _), ?_⟩); conv => whnf)
  refine Does.freeze 1 rfl (Does.freeze 0 rfl (Does.tidy [(0, .int .i64 0), (5, .rop (entC (endE 0 0)))] [] 2 75 rfl rfl rfl (by kernel_rfl) (by kernel_rfl) ?_))
  refine wpc_sound (M := MRow) (PL := PL0) (CU := noCut) TTok mixed _ _ _ ?_
  have hS := endE_S (o := 0) (by omega) 0
  obtain ⟨b, hb, h3⟩ := end_core _ hS (by decide)
  have k1 := kent_ok _ _ hS hS
  rw [dt rfl] at k1
  have hb := hb
  have k1 := k1
  clear hS
  conv => whnf
  repeat ((first | refine ⟨entC_pure _, ?_⟩ | refine ⟨rfl, ?_⟩ | refine ⟨_, rfl, ?_⟩); conv => whnf)
  refine ⟨_, _, hb, by first | rfl | simp [noRoIf, noRoL, noRoV, noRoL_bys], ?_⟩
  conv => whnf
  repeat ((first | refine ifB_f ?_ | refine ⟨pureL_bys _, ?_⟩ | refine ⟨rfl, ?_⟩); conv => whnf)
  refine ⟨_, _, h3, by first | rfl | simp [noRoIf, noRoL, noRoV, noRoL_bys], ?_⟩
  conv => whnf
  repeat ((first | refine ⟨(⟨by kernel_rfl, by kernel_rfl, Nat.le_of_ble_eq_true (by kernel_rfl)⟩ : AV.ones _ = true ∧ _ ∧ _), ?_⟩ | refine ⟨rfl, ?_⟩); conv => whnf)
  refine Does.freeze 2 rfl (Does.tidy [(5, .rop (entC (endE 0 0))), (7, .int .i64 0), (8, .rop (entC (endE 0 0))), (9, .int .i64 0)] [] 3 75 rfl rfl rfl (by kernel_rfl) (by kernel_rfl) ?_)
  refine wpc_sound (M := MRow) (PL := PL0) (CU := noCut) TTok mixed _ _ _ ?_
  conv => whnf
  repeat ((first | refine ifB_t ?_ | refine ⟨entC_pure _, ?_⟩ | refine ⟨rfl, ?_⟩ | refine ⟨_, rfl, ?_⟩); conv => whnf)
  refine ⟨_, _, k1, by first | rfl | simp [noRoIf, noRoL, noRoV, noRoL_bys], ?_⟩
  conv => whnf
  repeat ((first | refine ifB_t ?_ | refine ⟨rfl, ?_⟩); conv => whnf)
  refine ⟨_, _, wakes11_ok, by first | rfl | simp [noRoIf, noRoL, noRoV, noRoL_bys], ?_⟩
  conv => whnf
  repeat ((first | refine ifB_t ?_ | refine ⟨rfl, ?_⟩); conv => whnf)
  rfl
 ·conv => whnf
  repeat ((first | refine ifB_t ?_ | refine ifB_f ?_ | (refine fit_i64 ⟨by first | omega | rfl | (dsimp only; omega), by first | omega | rfl | (dsimp only; omega)⟩ ?_)); conv => whnf)
  refine ⟨⟨rfl, by decide, by decide, by decide, by decide, rfl, rfl⟩, ?_⟩
  conv => whnf
  refine Or.inl ⟨⟨rfl, rfl, by kernel_rfl⟩, ?_⟩
  conv => whnf
  refine ⟨List.replicate 16 0, ⟨by kernel_rfl, rep_byt _⟩, ?_⟩
  conv => whnf
  repeat ((refine ⟨(⟨by kernel_rfl, by kernel_rfl, Nat.le_of_ble_eq_true (by kernel_rfl)⟩ : AV.ones _ = true ∧ _ ∧ _), ?_⟩); conv => whnf)
  refine Does.freeze 0 rfl (Does.tidy [(0, .int .i64 0), (5, .rop (entV (endE 0 1) .nil))] [(1, bys (List.replicate 16 0))] 2 75 rfl rfl rfl (by kernel_rfl) (by kernel_rfl) ?_)
  refine wpc_sound (M := MRow) (PL := PL0) (CU := noCut) TTok mixed _ _ _ ?_
  have hS := endE_S (o := 0) (by omega) 1
  obtain ⟨b, hb, h3⟩ := end_core _ hS (by decide)
  have k1 := kent_ok _ _ hS hS
  rw [dt rfl] at k1
  have hb := nil_args rfl hb
  have k1 := nil_args2 rfl k1
  clear hS
  conv => whnf
  repeat ((first | refine ⟨entC_pure _, ?_⟩ | refine ⟨rfl, ?_⟩ | refine ⟨_, rfl, ?_⟩); conv => whnf)
  refine ⟨_, _, hb, by first | rfl | simp [noRoIf, noRoL, noRoV, noRoL_bys], ?_⟩
  conv => whnf
  repeat ((first | refine ifB_f ?_ | refine ⟨pureL_bys _, ?_⟩ | refine ⟨rfl, ?_⟩); conv => whnf)
  refine ⟨_, _, h3, by first | rfl | simp [noRoIf, noRoL, noRoV, noRoL_bys], ?_⟩
  conv => whnf
  repeat ((first | refine ⟨(⟨by kernel_rfl, by kernel_rfl, Nat.le_of_ble_eq_true (by kernel_rfl)⟩ : AV.ones _ = true ∧ _ ∧ _), ?_⟩ | refine ⟨rfl, ?_⟩); conv => whnf)
  refine Does.freeze 2 rfl (Does.tidy [(5, .rop (entV (endE 0 1) .nil)), (7, .int .i64 0), (8, .rop (entC (endE 0 1))), (9, .int .i64 0)] [(1, bys (List.replicate 16 0))] 3 75 rfl rfl rfl (by kernel_rfl) (by kernel_rfl) ?_)
  refine wpc_sound (M := MRow) (PL := PL0) (CU := noCut) TTok mixed _ _ _ ?_
  conv => whnf
  repeat ((first | refine ifB_t ?_ | refine ⟨entC_pure _, ?_⟩ | refine ⟨rfl, ?_⟩ | refine ⟨_, rfl, ?_⟩); conv => whnf)
  refine ⟨_, _, k1, by first | rfl | simp [noRoIf, noRoL, noRoV, noRoL_bys], ?_⟩
  conv => whnf
  repeat ((first | refine ifB_t ?_ | refine ⟨rfl, ?_⟩); conv => whnf)
  refine ⟨_, _, wakes11_ok, by first | rfl | simp [noRoIf, noRoL, noRoV, noRoL_bys], ?_⟩
  conv => whnf
  repeat ((first | refine ifB_t ?_ | refine ⟨rfl, ?_⟩); conv => whnf)
  rfl
 ·conv => whnf
  repeat ((first | refine ifB_f ?_ | refine ⟨_, rfl, ?_⟩); conv => whnf)
  refine fit_i64 ⟨by decide, by decide⟩ ?_
  conv => whnf
  repeat ((refine ⟨(⟨by kernel_rfl, by kernel_rfl, Nat.le_of_ble_eq_true (by kernel_rfl)⟩ : AV.ones _ = true ∧ _ ∧ _), ?_⟩); conv => whnf)
  refine Does.freeze 0 rfl (Does.tidy [(0, .int .i64 0), (5, .rop (entV (endE 0 2) .nil))] [] 1 75 rfl rfl rfl (by kernel_rfl) (by kernel_rfl) ?_)
  refine wpc_sound (M := MRow) (PL := PL0) (CU := noCut) TTok mixed _ _ _ ?_
  have hS := endE_S (o := 0) (by omega) 2
  obtain ⟨b, hb, h3⟩ := end_core _ hS (by decide)
  have k1 := kent_ok _ _ hS hS
  rw [dt rfl] at k1
  have hb := nil_args rfl hb
  have k1 := nil_args2 rfl k1
  clear hS
  conv => whnf
  repeat ((first | refine ⟨entC_pure _, ?_⟩ | refine ⟨rfl, ?_⟩ | refine ⟨_, rfl, ?_⟩); conv => whnf)
  refine ⟨_, _, hb, by first | rfl | simp [noRoIf, noRoL, noRoV, noRoL_bys], ?_⟩
  conv => whnf
  repeat ((first | refine ifB_f ?_ | refine ⟨pureL_bys _, ?_⟩ | refine ⟨rfl, ?_⟩); conv => whnf)
  refine ⟨_, _, h3, by first | rfl | simp [noRoIf, noRoL, noRoV, noRoL_bys], ?_⟩
  conv => whnf
  repeat ((first | refine ⟨(⟨by kernel_rfl, by kernel_rfl, Nat.le_of_ble_eq_true (by kernel_rfl)⟩ : AV.ones _ = true ∧ _ ∧ _), ?_⟩ | refine ⟨rfl, ?_⟩); conv => whnf)
  refine Does.freeze 1 rfl (Does.tidy [(5, .rop (entV (endE 0 2) .nil)), (7, .int .i64 0), (8, .rop (entC (endE 0 2))), (9, .int .i64 0)] [] 2 75 rfl rfl rfl (by kernel_rfl) (by kernel_rfl) ?_)
  refine wpc_sound (M := MRow) (PL := PL0) (CU := noCut) TTok mixed _ _ _ ?_
  conv => whnf
  repeat ((first | refine ifB_t ?_ | refine ⟨entC_pure _, ?_⟩ | refine ⟨rfl, ?_⟩ | refine ⟨_, rfl, ?_⟩); conv => whnf)
  refine ⟨_, _, k1, by first | rfl | simp [noRoIf, noRoL, noRoV, noRoL_bys], ?_⟩
  conv => whnf
  repeat ((first | refine ifB_t ?_ | refine ⟨rfl, ?_⟩); conv => whnf)
  refine ⟨_, _, wakes11_ok, by first | rfl | simp [noRoIf, noRoL, noRoV, noRoL_bys], ?_⟩
  conv => whnf
  repeat ((first | refine ifB_t ?_ | refine ⟨rfl, ?_⟩); conv => whnf)
  rfl
 ·conv => whnf
  repeat ((first | refine ifB_t ?_ | (refine fit_i64 ⟨by first | omega | rfl | (dsimp only; omega), by first | omega | rfl | (dsimp only; omega)⟩ ?_)); conv => whnf)
  refine ⟨⟨rfl, by decide, by decide, by decide, by decide, rfl, rfl⟩, ?_⟩
  conv => whnf
  repeat ((refine ⟨(⟨by kernel_rfl, by kernel_rfl, Nat.le_of_ble_eq_true (by kernel_rfl)⟩ : AV.ones _ = true ∧ _ ∧ _), ?_⟩); conv => whnf)
  refine Does.freeze 1 rfl (Does.freeze 0 rfl (Does.tidy [(0, .int .i64 1), (5, .rop (entC (endE 1 0)))] [] 2 75 rfl rfl rfl (by kernel_rfl) (by kernel_rfl) ?_))
  refine wpc_sound (M := MRow) (PL := PL0) (CU := noCut) TTok mixed _ _ _ ?_
  have hS := endE_S (o := 1) (by omega) 0
  have hb := (ebytes_ok _ hS).roRes2 (.inl ⟨_, _, rfl⟩)
  rw [entB_no (by decide : entR (endE 1 0) = false)] at hb
  have hb := hb
  clear hS
  conv => whnf
  repeat ((first | refine ⟨entC_pure _, ?_⟩ | refine ⟨rfl, ?_⟩ | refine ⟨_, rfl, ?_⟩); conv => whnf)
  refine ⟨_, _, hb, by first | rfl | simp [noRoIf, noRoL, noRoV, noRoL_bys], ?_⟩
  conv => whnf
  repeat ((first | refine ifB_t ?_ | refine ⟨rfl, ?_⟩); conv => whnf)
  refine ⟨_, _, wakes11_ok, by first | rfl | simp [noRoIf, noRoL, noRoV, noRoL_bys], ?_⟩
  conv => whnf
  repeat ((first | refine ifB_t ?_ | refine ⟨rfl, ?_⟩); conv => whnf)
  rfl
 ·conv => whnf
  repeat ((first | refine ifB_t ?_ | refine ifB_f ?_ | (refine fit_i64 ⟨by first | omega | rfl | (dsimp only; omega), by first | omega | rfl | (dsimp only; omega)⟩ ?_)); conv => whnf)
  refine ⟨⟨rfl, by decide, by decide, by decide, by decide, rfl, rfl⟩, ?_⟩
  conv => whnf
  refine Or.inl ⟨⟨rfl, rfl, by kernel_rfl⟩, ?_⟩
  conv => whnf
  refine ⟨List.replicate 17 0, ⟨by kernel_rfl, rep_byt _⟩, ?_⟩
  conv => whnf
  repeat ((refine ⟨(⟨by kernel_rfl, by kernel_rfl, Nat.le_of_ble_eq_true (by kernel_rfl)⟩ : AV.ones _ = true ∧ _ ∧ _), ?_⟩); conv => whnf)
  refine Does.freeze 0 rfl (Does.tidy [(0, .int .i64 1), (5, .rop (entV (endE 1 1) .nil))] [(1, bys (List.replicate 17 0))] 2 75 rfl rfl rfl (by kernel_rfl) (by kernel_rfl) ?_)
  refine wpc_sound (M := MRow) (PL := PL0) (CU := noCut) TTok mixed _ _ _ ?_
  have hS := endE_S (o := 1) (by omega) 1
  have hb := (ebytes_ok _ hS).roRes2 (.inl ⟨_, _, rfl⟩)
  rw [entB_no (by decide : entR (endE 1 1) = false)] at hb
  have hb := nil_args rfl hb
  clear hS
  conv => whnf
  repeat ((first | refine ⟨entC_pure _, ?_⟩ | refine ⟨rfl, ?_⟩ | refine ⟨_, rfl, ?_⟩); conv => whnf)
  refine ⟨_, _, hb, by first | rfl | simp [noRoIf, noRoL, noRoV, noRoL_bys], ?_⟩
  conv => whnf
  repeat ((first | refine ifB_t ?_ | refine ⟨rfl, ?_⟩); conv => whnf)
  refine ⟨_, _, wakes11_ok, by first | rfl | simp [noRoIf, noRoL, noRoV, noRoL_bys], ?_⟩
  conv => whnf
  repeat ((first | refine ifB_t ?_ | refine ⟨rfl, ?_⟩); conv => whnf)
  rfl
 ·conv => whnf
  repeat ((first | refine ifB_f ?_ | refine ⟨_, rfl, ?_⟩); conv => whnf)
  refine fit_i64 ⟨by decide, by decide⟩ ?_
  conv => whnf
  repeat ((refine ⟨(⟨by kernel_rfl, by kernel_rfl, Nat.le_of_ble_eq_true (by kernel_rfl)⟩ : AV.ones _ = true ∧ _ ∧ _), ?_⟩); conv => whnf)
  refine Does.freeze 0 rfl (Does.tidy [(0, .int .i64 1), (5, .rop (entV (endE 1 2) .nil))] [] 1 75 rfl rfl rfl (by kernel_rfl) (by kernel_rfl) ?_)
  refine wpc_sound (M := MRow) (PL := PL0) (CU := noCut) TTok mixed _ _ _ ?_
  have hS := endE_S (o := 1) (by omega) 2
  have hb := (ebytes_ok _ hS).roRes2 (.inl ⟨_, _, rfl⟩)
  rw [entB_no (by decide : entR (endE 1 2) = false)] at hb
  have hb := nil_args rfl hb
  clear hS
  conv => whnf
  repeat ((first | refine ⟨entC_pure _, ?_⟩ | refine ⟨rfl, ?_⟩ | refine ⟨_, rfl, ?_⟩); conv => whnf)
  refine ⟨_, _, hb, by first | rfl | simp [noRoIf, noRoL, noRoV, noRoL_bys], ?_⟩
  conv => whnf
  repeat ((first | refine ifB_t ?_ | refine ⟨rfl, ?_⟩); conv => whnf)
  refine ⟨_, _, wakes11_ok, by first | rfl | simp [noRoIf, noRoL, noRoV, noRoL_bys], ?_⟩
  conv => whnf
  repeat ((first | refine ifB_t ?_ | refine ⟨rfl, ?_⟩); conv => whnf)
  rfl
end
section
--KR
attribute [local irreducible] ifB fitP Does Weaker
def heavyP (p : Prf) : Bool := heavyEs [p.a, p.b]
theorem prf_a {l : List Prf} {j m s : Nat} (h : j < l.length) (hm : m = 266 * j) (hs : s = 133) : takeN s (List.drop 0 (List.drop m (rowsC prfC l))) = some (entC l[j].a) := by
 rw [List.drop_zero, rowsC_at prfC_length h hm]
 unfold prfC
 rw [List.append_assoc]
 exact takeN_app (by rw [entC_length, hs])
theorem prf_b {l : List Prf} {j m s : Nat} (h : j < l.length) (hm : m = 266 * j) (hs : s = 133) : takeN s (List.drop 133 (List.drop m (rowsC prfC l))) = some (entC l[j].b) := by
 rw [rowsC_at prfC_length h hm]
 unfold prfC
 rw [List.append_assoc, List.drop_append, List.drop_eq_nil_of_le (by rw [entC_length]; exact Nat.le_refl _), List.nil_append, entC_length]
 exact takeN_app (by rw [entC_length, hs])
end
end Go.Proofs.YtdmkpmijcgiggaaGreatDoor.Abs
