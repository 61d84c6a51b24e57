/- Text PA. -/
import Derived.Test.YtdmkpmijcgiggaaGreatDoorU16
set_option linter.unusedVariables false
set_option linter.unusedSimpArgs false
--KR
namespace Go.Proofs.YtdmkpmijcgiggaaGreatDoor.Abs
open Go
attribute [local irreducible] ifB fitP Does Weaker
def flip9 (l : List Int) : List Int := [l.getD 0 0, l.getD 1 0, l.getD 2 0, l.getD 3 0, l.getD 4 0, l.getD 5 0, l.getD 6 0, l.getD 7 0, l.getD 8 0, bits .xor .u8 (l.getD 9 0) 4, l.getD 10 0, l.getD 11 0, l.getD 12 0, l.getD 13 0, l.getD 14 0, l.getD 15 0, l.getD 16 0, l.getD 17 0, l.getD 18 0, l.getD 19 0, l.getD 20 0, l.getD 21 0, l.getD 22 0, l.getD 23 0, l.getD 24 0, l.getD 25 0, l.getD 26 0, l.getD 27 0, l.getD 28 0, l.getD 29 0, l.getD 30 0, l.getD 31 0]
theorem getD_byt' {l : List Int} (h : Byt l) (i : Nat) : 0 ≤ l.getD i 0 ∧ l.getD i 0 < 256 := by
  rw [List.getD_eq_getElem?_getD]
  cases hx : l[i]? with
  | none => simp
  | some x => exact h x (List.mem_of_getElem? hx)
def seqE (n : Int) (e : Ent) : Ent := ⟨e.au, n, e.prev, e.stamp, e.kind, e.key, e.val, e.sig⟩
theorem seqE_S {n : Int} {e : Ent} (he : EntS e) (hn : -9223372036854775808 ≤ n ∧ n < 9223372036854775808) : EntS (seqE n e) where
  au := he.au
  seq := hn
  prev := he.prev
  stamp := he.stamp
  kind := he.kind
  key := he.key
  val := he.val
  sig := he.sig
  key' := he.key'
  val' := he.val'
theorem xor4 : ∀ n : Nat, n < 256 → (0 ≤ bits .xor .u8 (n : Int) 4 ∧ bits .xor .u8 (n : Int) 4 < 256) ∧ bits .xor .u8 (n : Int) 4 ≠ n := by decide +kernel
theorem flip9_ok {l : List Int} (h : Byt l) : Byt (flip9 l) ∧ (flip9 l).length = 32 := by
  refine ⟨fun x hx => ?_, rfl⟩
  unfold flip9 at hx
  simp only [List.mem_cons, List.not_mem_nil, or_false] at hx
  have g := getD_byt' h
  rcases hx with rfl | rfl | rfl | rfl | rfl | rfl | rfl | rfl | rfl | rfl | rfl | rfl | rfl | rfl | rfl | rfl | rfl | rfl | rfl | rfl | rfl | rfl | rfl | rfl | rfl | rfl | rfl | rfl | rfl | rfl | rfl | rfl
  · exact g 0
  · exact g 1
  · exact g 2
  · exact g 3
  · exact g 4
  · exact g 5
  · exact g 6
  · exact g 7
  · exact g 8
  · have := g 9
    obtain ⟨n, hn⟩ : ∃ n : Nat, l.getD 9 0 = n := ⟨(l.getD 9 0).toNat, by omega⟩
    rw [hn]
    exact (xor4 n (by omega)).1
  · exact g 10
  · exact g 11
  · exact g 12
  · exact g 13
  · exact g 14
  · exact g 15
  · exact g 16
  · exact g 17
  · exact g 18
  · exact g 19
  · exact g 20
  · exact g 21
  · exact g 22
  · exact g 23
  · exact g 24
  · exact g 25
  · exact g 26
  · exact g 27
  · exact g 28
  · exact g 29
  · exact g 30
  · exact g 31
theorem flip9_ne {l : List Int} (h : Byt l) : flip9 l ≠ l := fun e => by
  have := congrArg (fun x => x.getD 9 0) e
  have g := getD_byt' h 9
  obtain ⟨n, hn⟩ : ∃ n : Nat, l.getD 9 0 = n := ⟨(l.getD 9 0).toNat, by omega⟩
  have k : bits .xor .u8 (l.getD 9 0) 4 = l.getD 9 0 := this
  rw [hn] at k
  exact (xor4 n (by omega)).2 k
theorem ord_au {a b : Ent} (h : a.au ≠ b.au) : ordR a b = 0 := by
  unfold ordR
  split
  · rfl
  split
  · rfl
  first | rfl | rw [if_pos h]
theorem ord_seq {a b : Ent} (h : a.seq ≠ b.seq) : ordR a b = 0 := by
  unfold ordR
  split
  · rfl
  split
  · rfl
  split
  · rfl
  first | rfl | rw [if_pos h]
theorem mk_apart {a b : Ent} (h : ordR a b = 0) : mkP a b = (prf0, 1) := by unfold mkP; rw [h]; rfl
theorem prfB_apart {a b : Ent} (h : ordR a b = 0) : prfB ⟨a, b⟩ = ([], 1) := by
  unfold prfB
  rw [if_neg]
  unfold prfR
  rw [h]
  simp
set_option maxRecDepth 20000 in
set_option maxHeartbeats 4000000 in
theorem proofApart_ok (a b : Ent) (what : Int) (oa : EntOk a) (ob : EntOk b) (hw : -9223372036854775808 ≤ what ∧ what < 9223372036854775808) : ACall Tryz.prog 5 [.agg (entC a), .agg (entC b), .int .i64 what] (.bool true) [] := by
  have v1 := heavy11_ok [a, b]
  refine ACall.of_does TTok Tryz.func5 rfl Tryz.call5 rfl (wpc_sound (M := MRow) (PL := PL0) (CU := cutAt [100001, 100003, 100004, 100005, 100006, 100007, 100008, 100009]) TTok mixed _ _ _ ?_)
  conv => whnf
  repeat ((refine ⟨rfl, ?_⟩); conv => whnf)
  refine Does.tidy [(2, .int .i64 what), (3, .ptr 0 0), (4, .ptr 1 0)] [(0, entC a), (1, entC b)] 2 74 rfl rfl rfl (by kernel_rfl) (by kernel_rfl) ?_
  refine wpc_sound (M := MRow) (PL := PL0) (CU := noCut) TTok mixed _ _ _ ?_
  conv => whnf
  refine ⟨entC a, by kernel_rfl, ?_⟩
  conv => whnf
  refine ⟨entC b, by kernel_rfl, ?_⟩
  conv => whnf
  conv => whnf
  repeat ((first | (refine Or.inl ⟨⟨rfl, ?_⟩, ?_⟩; (focus (first | rfl | (simp; done) | (rw [toksC_length]; omega)))) | refine ⟨rfl, ?_⟩ | refine ⟨⟨rfl, rfl⟩, ?_⟩ | (refine And.intro ?_ ?_; (focus (first | (simp only [pureL, pureV, pureL_bys, Bool.and_true, Bool.and_self]; done) | (simp only [pureL, pureV, pureL_bys, pureL_toks, Bool.and_true, Bool.and_self]; done))))); conv => whnf)
  cases hv : heavyEs [a, b] <;> rw [hv] at v1
  case true =>
    refine ⟨_, _, v1.arg1 rfl (by simp [rowsC]; rfl), by first | rfl | simp [noRoIf, noRoL, noRoV, noRoL_bys], ?_⟩
    conv => whnf
    repeat ((first | refine ifB_t ?_ | refine ⟨rfl, ?_⟩); conv => whnf)
    rfl
  refine ⟨_, _, v1.arg1 rfl (by simp [rowsC]; rfl), by first | rfl | simp [noRoIf, noRoL, noRoV, noRoL_bys], ?_⟩
  conv => whnf
  repeat (first | (refine ifB_t ?_; conv => whnf) | (refine ifB_f ?_; conv => whnf))
  refine ⟨entC a, by kernel_rfl, ?_⟩
  conv => whnf
  repeat (first | (refine ifB_t ?_; conv => whnf) | (refine ifB_f ?_; conv => whnf))
  refine ⟨entC_pure _, ?_⟩
  conv => whnf
  refine ⟨rfl, ?_⟩
  conv => whnf
  obtain ⟨ha, hb⟩ := entS_of2 oa ob hv
  have ra := refentry_ok a ha
  have rb := refentry_ok b hb
  cases hra : entR a <;> rw [hra] at ra
  case false =>
    refine ⟨_, _, ra, by first | rfl | simp [noRoIf, noRoL, noRoV, noRoL_bys], ?_⟩
    conv => whnf
    repeat ((first | refine ifB_t ?_ | refine ifB_f ?_ | refine ⟨rfl, ?_⟩); conv => whnf)
    rfl
  refine ⟨_, _, ra, by first | rfl | simp [noRoIf, noRoL, noRoV, noRoL_bys], ?_⟩
  conv => whnf
  repeat (first | (refine ifB_t ?_; conv => whnf) | (refine ifB_f ?_; conv => whnf))
  refine ⟨entC b, by kernel_rfl, ?_⟩
  conv => whnf
  repeat (first | (refine ifB_t ?_; conv => whnf) | (refine ifB_f ?_; conv => whnf))
  refine ⟨entC_pure _, ?_⟩
  conv => whnf
  refine ⟨rfl, ?_⟩
  conv => whnf
  cases hrb : entR b <;> rw [hrb] at rb
  case false =>
    refine ⟨_, _, rb, by first | rfl | simp [noRoIf, noRoL, noRoV, noRoL_bys], ?_⟩
    conv => whnf
    repeat ((first | refine ifB_t ?_ | refine ifB_f ?_ | refine ⟨rfl, ?_⟩); conv => whnf)
    rfl
  refine ⟨_, _, rb, by first | rfl | simp [noRoIf, noRoL, noRoV, noRoL_bys], ?_⟩
  conv => whnf
  repeat ((refine ifB_f ?_); conv => whnf)
  refine Does.tidy [(2, .int .i64 what), (3, .ptr 0 0), (4, .ptr 1 0)] [(0, entC a), (1, entC b), (2, entC a ++ (entC b ++ []))] 3 74 rfl rfl rfl (by kernel_rfl) (by kernel_rfl) ?_
  refine wpc_sound (M := MRow) (PL := PL0) (CU := noCut) TTok mixed _ _ _ ?_
  have k0 := kprf_ok prf0 prf0 ⟨ent0_S2, ent0_S2⟩ ⟨ent0_S2, ent0_S2⟩
  rw [dt rfl] at k0
  clear ra rb v1
  conv => whnf
  repeat ((refine And.intro (by first | omega | rfl | (dsimp only; omega)) ?_); conv => whnf)
  by_cases hp : what.tmod 2 = 0
  · rw [dt hp]
    conv => whnf
    repeat ((refine ifB_t ?_); conv => whnf)
    refine wpc_sound (M := MRow) (PL := PL0) (CU := noCut) TTok mixed _ _ _ ?_
    conv => whnf
    refine ⟨c32 a.au [], by kernel_rfl, ?_⟩
    conv => whnf
    refine ⟨(⟨by kernel_rfl, by kernel_rfl, Nat.le_of_ble_eq_true (by kernel_rfl)⟩ : AV.ones _ = true ∧ _ ∧ _), ?_⟩
    conv => whnf
    refine Does.tidy [(2, .int .i64 what), (3, .ptr 0 0), (4, .ptr 1 0)] [(0, entC a), (1, entC (auE a.au b)), (2, entC a ++ (entC b ++ []))] 3 74 rfl rfl rfl (by kernel_rfl) (by kernel_rfl) ?_
    refine wpc_sound (M := MRow) (PL := PL0) (CU := noCut) TTok mixed _ _ _ ?_
    conv => whnf
    repeat ((first | refine ⟨(⟨by kernel_rfl, by kernel_rfl, Nat.le_of_ble_eq_true (by kernel_rfl)⟩ : AV.ones _ = true ∧ _ ∧ _), ?_⟩ | refine ⟨_, rfl, ?_⟩ | (refine And.intro (by first | omega | rfl | (dsimp only; omega)) ?_)); conv => whnf)
    have sa := ha
    have sb := auE_S hb (flip9_ok ha.au.1)
    have oo : ordR (a) (auE (flip9 a.au) b) = 0 := ord_au (fun h => flip9_ne ha.au.1 h.symm)
    have e1 := pmake_ok (a) (auE (flip9 a.au) b) sa sb
    rw [mk_apart oo] at e1
    have e2 := (pbytes_ok ⟨a, auE (flip9 a.au) b⟩ ⟨sa, sb⟩).roRes2 (.inl ⟨_, _, rfl⟩)
    rw [prfB_apart oo] at e2
    dsimp only at e1 e2
    refine Does.freeze 0 rfl (Does.freeze 1 (zs := entC (auE (flip9 a.au) b)) (by show some (frzL 0 _ (entC (auE (flip9 a.au) b))) = _; rw [entC_frz]) (Does.tidy [(3, .rop (entC (a))), (4, .rop (entC (auE (flip9 a.au) b)))] [(2, entC a ++ (entC b ++ []))] 3 74 rfl rfl rfl (by kernel_rfl) (by kernel_rfl) ?_))
    clear oo
    generalize (auE (flip9 a.au) b) = y at *
    refine wpc_sound (M := MRow) (PL := PL0) (CU := noCut) TTok mixed _ _ _ ?_
    conv => whnf
    repeat ((first | refine ⟨entC_pure _, ?_⟩ | refine ⟨rfl, ?_⟩ | refine ⟨_, rfl, ?_⟩); conv => whnf)
    refine ⟨_, _, e1, by first | rfl | simp [noRoIf, noRoL, noRoV, noRoL_bys], ?_⟩
    conv => whnf
    repeat ((first | refine ⟨(⟨by kernel_rfl, by kernel_rfl, Nat.le_of_ble_eq_true (by kernel_rfl)⟩ : AV.ones _ = true ∧ _ ∧ _), ?_⟩ | refine ⟨rfl, ?_⟩); conv => whnf)
    refine Does.freeze 3 rfl (Does.tidy [(3, .rop (entC a)), (4, .rop (entC y)), (7, .rop (prfC prf0)), (8, .int .i64 1)] [(2, entC a ++ (entC b ++ []))] 4 74 rfl rfl rfl (by kernel_rfl) (by kernel_rfl) ?_)
    refine wpc_sound (M := MRow) (PL := PL0) (CU := noCut) TTok mixed _ _ _ ?_
    conv => whnf
    repeat ((first | refine ⟨_, rfl, ?_⟩ | refine ⟨⟨rfl, rfl⟩, ?_⟩); conv => whnf)
    refine ⟨(show pureL (prfC ⟨a, y⟩) = true from prfC_pure _), ?_⟩
    conv => whnf
    repeat ((refine ⟨rfl, ?_⟩); conv => whnf)
    refine ⟨_, _, e2, by first | rfl | simp [noRoIf, noRoL, noRoV, noRoL_bys], ?_⟩
    conv => whnf
    repeat ((first | refine ifB_t ?_ | refine ⟨entC_pure _, ?_⟩ | refine ⟨rfl, ?_⟩ | refine ⟨_, rfl, ?_⟩); conv => whnf)
    refine ⟨_, _, prf0_args k0, by first | rfl | simp [noRoIf, noRoL, noRoV, noRoL_bys], ?_⟩
    conv => whnf
    repeat ((first | refine ifB_t ?_ | refine ⟨rfl, ?_⟩); conv => whnf)
    refine ⟨_, _, wakes12_ok, by first | rfl | simp [noRoIf, noRoL, noRoV, noRoL_bys], ?_⟩
    conv => whnf
    repeat ((first | refine ifB_t ?_ | refine ⟨rfl, ?_⟩); conv => whnf)
    rfl
  · rw [df hp]
    conv => whnf
    repeat ((refine ifB_f ?_); conv => whnf)
    refine wpc_sound (M := MRow) (PL := PL0) (CU := noCut) TTok mixed _ _ _ ?_
    conv => whnf
    refine ⟨c32 a.au [], by kernel_rfl, ?_⟩
    conv => whnf
    refine ⟨(⟨by kernel_rfl, by kernel_rfl, Nat.le_of_ble_eq_true (by kernel_rfl)⟩ : AV.ones _ = true ∧ _ ∧ _), ?_⟩
    conv => whnf
    refine Does.tidy [(2, .int .i64 what), (3, .ptr 0 0), (4, .ptr 1 0)] [(0, entC a), (1, entC (auE a.au b)), (2, entC a ++ (entC b ++ []))] 3 74 rfl rfl rfl (by kernel_rfl) (by kernel_rfl) ?_
    refine wpc_sound (M := MRow) (PL := PL0) (CU := noCut) TTok mixed _ _ _ ?_
    conv => whnf
    repeat ((refine ⟨(⟨by kernel_rfl, by kernel_rfl, Nat.le_of_ble_eq_true (by kernel_rfl)⟩ : AV.ones _ = true ∧ _ ∧ _), ?_⟩); conv => whnf)
    have sa := seqE_S (n := 2) ha (by omega)
    have sb := seqE_S (n := 3) (auE_S hb ha.au) (by omega)
    have oo : ordR (seqE 2 a) (seqE 3 (auE a.au b)) = 0 := ord_seq (by show (2 : Int) ≠ 3; omega)
    have e1 := pmake_ok (seqE 2 a) (seqE 3 (auE a.au b)) sa sb
    rw [mk_apart oo] at e1
    have e2 := (pbytes_ok ⟨seqE 2 a, seqE 3 (auE a.au b)⟩ ⟨sa, sb⟩).roRes2 (.inl ⟨_, _, rfl⟩)
    rw [prfB_apart oo] at e2
    dsimp only at e1 e2
    refine Does.freeze 0 rfl (Does.freeze 1 (zs := entC (seqE 3 (auE a.au b))) (by show some (frzL 0 _ (entC (seqE 3 (auE a.au b)))) = _; rw [entC_frz]) (Does.tidy [(3, .rop (entC (seqE 2 a))), (4, .rop (entC (seqE 3 (auE a.au b))))] [(2, entC a ++ (entC b ++ []))] 3 74 rfl rfl rfl (by kernel_rfl) (by kernel_rfl) ?_))
    clear oo
    generalize (seqE 2 a) = x at *
    generalize (seqE 3 (auE a.au b)) = y at *
    refine wpc_sound (M := MRow) (PL := PL0) (CU := noCut) TTok mixed _ _ _ ?_
    conv => whnf
    repeat ((first | refine ⟨entC_pure _, ?_⟩ | refine ⟨rfl, ?_⟩ | refine ⟨_, rfl, ?_⟩); conv => whnf)
    refine ⟨_, _, e1, by first | rfl | simp [noRoIf, noRoL, noRoV, noRoL_bys], ?_⟩
    conv => whnf
    repeat ((first | refine ⟨(⟨by kernel_rfl, by kernel_rfl, Nat.le_of_ble_eq_true (by kernel_rfl)⟩ : AV.ones _ = true ∧ _ ∧ _), ?_⟩ | refine ⟨rfl, ?_⟩); conv => whnf)
    refine Does.freeze 3 rfl (Does.tidy [(3, .rop (entC x)), (4, .rop (entC y)), (7, .rop (prfC prf0)), (8, .int .i64 1)] [(2, entC a ++ (entC b ++ []))] 4 74 rfl rfl rfl (by kernel_rfl) (by kernel_rfl) ?_)
    refine wpc_sound (M := MRow) (PL := PL0) (CU := noCut) TTok mixed _ _ _ ?_
    conv => whnf
    repeat ((first | refine ⟨_, rfl, ?_⟩ | refine ⟨⟨rfl, rfl⟩, ?_⟩); conv => whnf)
    refine ⟨(show pureL (prfC ⟨x, y⟩) = true from prfC_pure _), ?_⟩
    conv => whnf
    repeat ((refine ⟨rfl, ?_⟩); conv => whnf)
    refine ⟨_, _, e2, by first | rfl | simp [noRoIf, noRoL, noRoV, noRoL_bys], ?_⟩
    conv => whnf
    repeat ((first | refine ifB_t ?_ | refine ⟨entC_pure _, ?_⟩ | refine ⟨rfl, ?_⟩ | refine ⟨_, rfl, ?_⟩); conv => whnf)
    refine ⟨_, _, prf0_args k0, by first | rfl | simp [noRoIf, noRoL, noRoV, noRoL_bys], ?_⟩
    conv => whnf
    repeat ((first | refine ifB_t ?_ | refine ⟨rfl, ?_⟩); conv => whnf)
    refine ⟨_, _, wakes12_ok, by first | rfl | simp [noRoIf, noRoL, noRoV, noRoL_bys], ?_⟩
    conv => whnf
    repeat ((first | refine ifB_t ?_ | refine ⟨rfl, ?_⟩); conv => whnf)
    rfl
end Go.Proofs.YtdmkpmijcgiggaaGreatDoor.Abs
