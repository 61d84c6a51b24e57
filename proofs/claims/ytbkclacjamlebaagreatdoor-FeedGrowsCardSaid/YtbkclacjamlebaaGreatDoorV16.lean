/- Texts KP to KT, merged. -/
import Derived.Test.YtbkclacjamlebaaGreatDoorV15
set_option linter.unusedVariables false
set_option linter.unusedSimpArgs false
namespace Go.Proofs.YtbkclacjamlebaaGreatDoor.Abs
open Go
section
--KR
attribute [local irreducible] ifB fitP Does Weaker
def fa0 (l : List Int) : List Int := [bits .xor .u8 (l.getD 0 0) 1, l.getD 1 0, l.getD 2 0, l.getD 3 0, l.getD 4 0, l.getD 5 0, l.getD 6 0, l.getD 7 0, l.getD 8 0, l.getD 9 0, l.getD 10 0, l.getD 11 0, l.getD 12 0, l.getD 13 0, l.getD 14 0, l.getD 15 0, l.getD 16 0, l.getD 17 0, l.getD 18 0, l.getD 19 0, l.getD 20 0, l.getD 21 0, l.getD 22 0, l.getD 23 0, l.getD 24 0, l.getD 25 0, l.getD 26 0, l.getD 27 0, l.getD 28 0, l.getD 29 0, l.getD 30 0, l.getD 31 0]
def fp5 (l : List Int) : List Int := [l.getD 0 0, l.getD 1 0, l.getD 2 0, l.getD 3 0, l.getD 4 0, bits .xor .u8 (l.getD 5 0) 1, l.getD 6 0, l.getD 7 0, l.getD 8 0, l.getD 9 0, l.getD 10 0, l.getD 11 0, l.getD 12 0, l.getD 13 0, l.getD 14 0, l.getD 15 0, l.getD 16 0, l.getD 17 0, l.getD 18 0, l.getD 19 0, l.getD 20 0, l.getD 21 0, l.getD 22 0, l.getD 23 0, l.getD 24 0, l.getD 25 0, l.getD 26 0, l.getD 27 0, l.getD 28 0, l.getD 29 0, l.getD 30 0, l.getD 31 0]
def fs0 (l : List Int) : List Int := [bits .xor .u8 (l.getD 0 0) 1, l.getD 1 0, l.getD 2 0, l.getD 3 0, l.getD 4 0, l.getD 5 0, l.getD 6 0, l.getD 7 0, l.getD 8 0, l.getD 9 0, l.getD 10 0, l.getD 11 0, l.getD 12 0, l.getD 13 0, l.getD 14 0, l.getD 15 0, l.getD 16 0, l.getD 17 0, l.getD 18 0, l.getD 19 0, l.getD 20 0, l.getD 21 0, l.getD 22 0, l.getD 23 0, l.getD 24 0, l.getD 25 0, l.getD 26 0, l.getD 27 0, l.getD 28 0, l.getD 29 0, l.getD 30 0, l.getD 31 0, l.getD 32 0, l.getD 33 0, l.getD 34 0, l.getD 35 0, l.getD 36 0, l.getD 37 0, l.getD 38 0, l.getD 39 0, l.getD 40 0, l.getD 41 0, l.getD 42 0, l.getD 43 0, l.getD 44 0, l.getD 45 0, l.getD 46 0, l.getD 47 0, l.getD 48 0, l.getD 49 0, l.getD 50 0, l.getD 51 0, l.getD 52 0, l.getD 53 0, l.getD 54 0, l.getD 55 0, l.getD 56 0, l.getD 57 0, l.getD 58 0, l.getD 59 0, l.getD 60 0, l.getD 61 0, l.getD 62 0, l.getD 63 0]
theorem xor1 : ∀ n : Nat, n < 256 → (0 ≤ bits .xor .u8 (n : Int) 1 ∧ bits .xor .u8 (n : Int) 1 < 256) ∧ bits .xor .u8 (n : Int) 1 ≠ n := by decide +kernel
theorem getD_byt' {l : List Int} (h : Byt l) (i : Nat) : 0 ≤ l.getD i 0 ∧ l.getD i 0 < 256 := by
 rw [List.getD_eq_getElem?_getD]
 cases hx : l[i]? with
 | none => simp
 | some x => exact h x (List.mem_of_getElem? hx)
theorem xor1b {x : Int} (h : 0 ≤ x ∧ x < 256) : (0 ≤ bits .xor .u8 x 1 ∧ bits .xor .u8 x 1 < 256) ∧ bits .xor .u8 x 1 ≠ x := by
 obtain ⟨n, rfl⟩ : ∃ n : Nat, x = n := ⟨x.toNat, by omega⟩
 exact xor1 n (by omega)
theorem fa0_ok {l : List Int} (h : Byt l) : Byt (fa0 l) ∧ (fa0 l).length = 32 := by
 refine ⟨fun x hx => ?_, rfl⟩
 unfold fa0 at hx
 simp only [List.mem_cons, List.not_mem_nil, or_false] at hx
 rcases hx with rfl | rfl | rfl | rfl | rfl | rfl | rfl | rfl | rfl | rfl | rfl | rfl | rfl | rfl | rfl | rfl | rfl | rfl | rfl | rfl | rfl | rfl | rfl | rfl | rfl | rfl | rfl | rfl | rfl | rfl | rfl | rfl
 ·exact (xor1b (getD_byt' h 0)).1
 ·exact getD_byt' h 1
 ·exact getD_byt' h 2
 ·exact getD_byt' h 3
 ·exact getD_byt' h 4
 ·exact getD_byt' h 5
 ·exact getD_byt' h 6
 ·exact getD_byt' h 7
 ·exact getD_byt' h 8
 ·exact getD_byt' h 9
 ·exact getD_byt' h 10
 ·exact getD_byt' h 11
 ·exact getD_byt' h 12
 ·exact getD_byt' h 13
 ·exact getD_byt' h 14
 ·exact getD_byt' h 15
 ·exact getD_byt' h 16
 ·exact getD_byt' h 17
 ·exact getD_byt' h 18
 ·exact getD_byt' h 19
 ·exact getD_byt' h 20
 ·exact getD_byt' h 21
 ·exact getD_byt' h 22
 ·exact getD_byt' h 23
 ·exact getD_byt' h 24
 ·exact getD_byt' h 25
 ·exact getD_byt' h 26
 ·exact getD_byt' h 27
 ·exact getD_byt' h 28
 ·exact getD_byt' h 29
 ·exact getD_byt' h 30
 ·exact getD_byt' h 31
theorem fa0_ne {l : List Int} (h : Byt l) : fa0 l ≠ l := fun k => by
 have : (fa0 l).getD 0 0 = l.getD 0 0 := congrArg (fun x => x.getD 0 0) k
 exact (xor1b (getD_byt' h 0)).2 this
theorem fp5_ok {l : List Int} (h : Byt l) : Byt (fp5 l) ∧ (fp5 l).length = 32 := by
 refine ⟨fun x hx => ?_, rfl⟩
 unfold fp5 at hx
 simp only [List.mem_cons, List.not_mem_nil, or_false] at hx
 rcases hx with rfl | rfl | rfl | rfl | rfl | rfl | rfl | rfl | rfl | rfl | rfl | rfl | rfl | rfl | rfl | rfl | rfl | rfl | rfl | rfl | rfl | rfl | rfl | rfl | rfl | rfl | rfl | rfl | rfl | rfl | rfl | rfl
 ·exact getD_byt' h 0
 ·exact getD_byt' h 1
 ·exact getD_byt' h 2
 ·exact getD_byt' h 3
 ·exact getD_byt' h 4
 ·exact (xor1b (getD_byt' h 5)).1
 ·exact getD_byt' h 6
 ·exact getD_byt' h 7
 ·exact getD_byt' h 8
 ·exact getD_byt' h 9
 ·exact getD_byt' h 10
 ·exact getD_byt' h 11
 ·exact getD_byt' h 12
 ·exact getD_byt' h 13
 ·exact getD_byt' h 14
 ·exact getD_byt' h 15
 ·exact getD_byt' h 16
 ·exact getD_byt' h 17
 ·exact getD_byt' h 18
 ·exact getD_byt' h 19
 ·exact getD_byt' h 20
 ·exact getD_byt' h 21
 ·exact getD_byt' h 22
 ·exact getD_byt' h 23
 ·exact getD_byt' h 24
 ·exact getD_byt' h 25
 ·exact getD_byt' h 26
 ·exact getD_byt' h 27
 ·exact getD_byt' h 28
 ·exact getD_byt' h 29
 ·exact getD_byt' h 30
 ·exact getD_byt' h 31
theorem fp5_ne {l : List Int} (h : Byt l) : fp5 l ≠ l := fun k => by
 have : (fp5 l).getD 5 0 = l.getD 5 0 := congrArg (fun x => x.getD 5 0) k
 exact (xor1b (getD_byt' h 5)).2 this
theorem fs0_ok {l : List Int} (h : Byt l) : Byt (fs0 l) ∧ (fs0 l).length = 64 := by
 refine ⟨fun x hx => ?_, rfl⟩
 unfold fs0 at hx
 simp only [List.mem_cons, List.not_mem_nil, or_false] at hx
 rcases hx with rfl | rfl | rfl | rfl | rfl | rfl | rfl | rfl | rfl | rfl | rfl | rfl | rfl | rfl | rfl | rfl | rfl | rfl | rfl | rfl | rfl | rfl | rfl | rfl | rfl | rfl | rfl | rfl | rfl | rfl | rfl | rfl | rfl | rfl | rfl | rfl | rfl | rfl | rfl | rfl | rfl | rfl | rfl | rfl | rfl | rfl | rfl | rfl | rfl | rfl | rfl | rfl | rfl | rfl | rfl | rfl | rfl | rfl | rfl | rfl | rfl | rfl | rfl | rfl
 ·exact (xor1b (getD_byt' h 0)).1
 ·exact getD_byt' h 1
 ·exact getD_byt' h 2
 ·exact getD_byt' h 3
 ·exact getD_byt' h 4
 ·exact getD_byt' h 5
 ·exact getD_byt' h 6
 ·exact getD_byt' h 7
 ·exact getD_byt' h 8
 ·exact getD_byt' h 9
 ·exact getD_byt' h 10
 ·exact getD_byt' h 11
 ·exact getD_byt' h 12
 ·exact getD_byt' h 13
 ·exact getD_byt' h 14
 ·exact getD_byt' h 15
 ·exact getD_byt' h 16
 ·exact getD_byt' h 17
 ·exact getD_byt' h 18
 ·exact getD_byt' h 19
 ·exact getD_byt' h 20
 ·exact getD_byt' h 21
 ·exact getD_byt' h 22
 ·exact getD_byt' h 23
 ·exact getD_byt' h 24
 ·exact getD_byt' h 25
 ·exact getD_byt' h 26
 ·exact getD_byt' h 27
 ·exact getD_byt' h 28
 ·exact getD_byt' h 29
 ·exact getD_byt' h 30
 ·exact getD_byt' h 31
 ·exact getD_byt' h 32
 ·exact getD_byt' h 33
 ·exact getD_byt' h 34
 ·exact getD_byt' h 35
 ·exact getD_byt' h 36
 ·exact getD_byt' h 37
 ·exact getD_byt' h 38
 ·exact getD_byt' h 39
 ·exact getD_byt' h 40
 ·exact getD_byt' h 41
 ·exact getD_byt' h 42
 ·exact getD_byt' h 43
 ·exact getD_byt' h 44
 ·exact getD_byt' h 45
 ·exact getD_byt' h 46
 ·exact getD_byt' h 47
 ·exact getD_byt' h 48
 ·exact getD_byt' h 49
 ·exact getD_byt' h 50
 ·exact getD_byt' h 51
 ·exact getD_byt' h 52
 ·exact getD_byt' h 53
 ·exact getD_byt' h 54
 ·exact getD_byt' h 55
 ·exact getD_byt' h 56
 ·exact getD_byt' h 57
 ·exact getD_byt' h 58
 ·exact getD_byt' h 59
 ·exact getD_byt' h 60
 ·exact getD_byt' h 61
 ·exact getD_byt' h 62
 ·exact getD_byt' h 63
theorem fs0_ne {l : List Int} (h : Byt l) : fs0 l ≠ l := fun k => by
 have : (fs0 l).getD 0 0 = l.getD 0 0 := congrArg (fun x => x.getD 0 0) k
 exact (xor1b (getD_byt' h 0)).2 this
def nxE (au : List Int) (n : Int) (w : List Int) (e : Ent) : Ent := ⟨au, n, w, e.stamp, e.kind, e.key, e.val, e.sig⟩
theorem nxE_R {au : List Int} {n : Int} {w : List Int} {e : Ent} (h : entR e = true) (h1 : 1 ≤ n ∧ n ≤ 200) (hw : n = 1 → w = z32) : entR (nxE au n w e) = true := by
 unfold entR opR at h ⊢
 simp only [Bool.and_eq_true, Bool.or_eq_true, decide_eq_true_eq] at h ⊢
 obtain ⟨⟨⟨_, _⟩, h4⟩, h5⟩ := h
 refine ⟨⟨⟨⟨h1.1, h1.2⟩, ?_⟩, h4⟩, h5⟩
 by_cases c : n = 1
 ·exact .inr (hw c)
 ·exact .inl c
theorem nxE_S {au : List Int} {n : Int} {w : List Int} {e : Ent} (h : EntS e) (h1 : 1 ≤ n ∧ n ≤ 200) (ha : Byt au ∧ au.length = 32) (hw : Byt w ∧ w.length = 32) : EntS (nxE au n w e) :=
 { h with au := ha, prev := hw, seq := by show _ ≤ n ∧ n < _; omega }
theorem sgE_R {e : Ent} (s : List Int) (h : entR e = true) : entR ⟨e.au, e.seq, e.prev, e.stamp, e.kind, e.key, e.val, s⟩ = true := h
def wantE (f : Fd) (w : Int) : Int := if f.shut = true then (if w = 16 then 16 else 15) else w
theorem push_au {f : Fd} {x : Ent} (hl : lookR f = true) (hr : entR x = true) (h : x.au ≠ f.au) : pushE f x = wantE f 16 := by
 unfold pushE wantE
 rw [hl, hr, if_neg (by decide), if_neg (by decide), if_pos h]
 split <;> rfl
theorem push_rest {f : Fd} {x : Ent} {w : Int} (hl : lookR f = true) (hr : entR x = true) (h : x.au = f.au) (h16 : w ≠ 16)
  (hw : (if x.seq ≤ f.es.length then (if f.es.getD (x.seq - 1).toNat ent0 = x then (11 : Int) else 14) else if x.seq > (f.es.length : Int) + 1 then 13 else if x.prev ≠ (folL f.au f.es).1 then 12 else 0) = w) : pushE f x = wantE f w := by
 unfold pushE wantE
 rw [hl, hr, if_neg (by decide), if_neg (by decide), if_neg (fun k => k h), if_neg h16]
 split
 ·rfl
 ·exact hw
theorem push_gap {f : Fd} {x : Ent} (hl : lookR f = true) (hr : entR x = true) (h : x.au = f.au) (hs : x.seq > (f.es.length : Int) + 1) : pushE f x = wantE f 13 := push_rest hl hr h (by decide) (by rw [if_neg (show ¬ x.seq ≤ f.es.length by omega), if_pos hs])
theorem push_chain {f : Fd} {x : Ent} (hl : lookR f = true) (hr : entR x = true) (h : x.au = f.au) (hs : x.seq = (f.es.length : Int) + 1) (hp : x.prev ≠ (folL f.au f.es).1) : pushE f x = wantE f 12 :=
 push_rest hl hr h (by decide) (by rw [if_neg (show ¬ x.seq ≤ f.es.length by omega), if_neg (show ¬ x.seq > (f.es.length : Int) + 1 by omega), if_pos hp])
theorem push_next {f : Fd} {x : Ent} (hl : lookR f = true) (hr : entR x = true) (h : x.au = f.au) (hs : x.seq = (f.es.length : Int) + 1) (hp : x.prev = (folL f.au f.es).1) : pushE f x = wantE f 0 :=
 push_rest hl hr h (by decide) (by rw [if_neg (show ¬ x.seq ≤ f.es.length by omega), if_neg (show ¬ x.seq > (f.es.length : Int) + 1 by omega), if_neg (fun k => k hp)])
theorem push_fork {f : Fd} {x : Ent} (hl : lookR f = true) (hr : entR x = true) (h : x.au = f.au) (hs : x.seq ≤ f.es.length) (hp : f.es.getD (x.seq - 1).toNat ent0 ≠ x) : pushE f x = wantE f 14 :=
 push_rest hl hr h (by decide) (by rw [if_pos hs, if_neg hp])
theorem fol_at {au : List Int} : ∀ (l : List Ent) (i : Nat) (w : List Int), (folGo au i w l).2 = true → ∀ (k : Nat) (hk : k < l.length), l[k].au = au ∧ l[k].seq = (i : Int) + k + 1
 | [], _, _, _, k, hk => absurd hk (Nat.not_lt_zero _)
 | x :: l, i, w, h, k, hk => by
  rw [folGo] at h
  split at h
  ·rename_i ho
   unfold okE at ho
   simp only [Bool.and_eq_true, decide_eq_true_eq] at ho
   cases k with
   | zero => exact ⟨ho.1.1.2, by have := ho.1.2; simp; omega⟩
   | succ k =>
    have := fol_at l (i + 1) _ h k (by simpa using hk)
    exact ⟨this.1, by have := this.2; simp; omega⟩
  ·cases h
theorem fol_byt {f : Fd} (hl : lookR f = true) : Byt (folL f.au f.es).1 := by
 by_cases c : f.es.length = 0
 ·rw [List.length_eq_zero_iff.1 c]
  exact fun x hx => by rw [show (folL f.au []).1 = z32 from rfl] at hx; simp only [z32, List.mem_replicate] at hx; omega
 ·have := fol_last hl (f.es.length - 1) (by omega)
  rw [show f.es.length - 1 + 1 = f.es.length by omega, List.take_length] at this
  rw [this]
  exact shaL_byt _
def PLfe : Nat → Bool × Plan := plans [(5, (false, (takesTo [0, 1, 2, 3, 5] (.all [(4, (.all [(6, (takesTo [7] (.all [(8, (takesTo [9] (.all [(10, .done)])))])))])), (6, (takesTo [7] (.all [(4, (.all [(8, (takesTo [9] (.all [(10, .done)])))])), (8, (.all [(4, (takesTo [9] (.all [(10, .done)])))]))])))])))), (12, (false, (takesTo [0, 1, 3] (.all [(2, (.all [(4, (takesTo [5] (.all [(6, .done)])))])), (4, (.all [(2, (takesTo [5] (.all [(6, .done)])))]))]))))]
set_option maxRecDepth 20000 in
set_option maxHeartbeats 8000000 in
theorem feedErrors_ok (f : Fd) (e : Ent) (what : Int) (of : FdO f) (oe : EntOk e) (hk : -9223372036854775808 ≤ what ∧ what < 9223372036854775808) : ACall Tryz.prog 6 [.agg (fdC f), .agg (entC e), .int .i64 what] (.bool true) [] := by
 have v1 := heavy17_ok f
 have v2 := heavy11_ok [e]
 refine ACall.of_does TTok Tryz.func6 rfl Tryz.call6 rfl (wpc_sound (M := MFd) (PL := PLfe) (CU := cutAt [100001, 100003, 100004, 200005, 100006, 100007, 100008, 100009, 100010, 100012, 100013, 100016, 100020, 100021, 100023, 100025, 100026, 100028]) TTok mixed _ _ _ ?_)
 conv => whnf
 repeat ((refine ⟨rfl, ?_⟩); conv => whnf)
 refine Does.freeze 0 rfl (Does.freeze 1 (zs := entC e) (by show some (frzL 0 _ (entC e)) = _; rw [entC_frz]) (Does.tidy [(2, .int .i64 what), (3, .rop (fdC f)), (4, .rop (entC e))] [] 2 124 rfl rfl rfl (by kernel_rfl) (by kernel_rfl) ?_))
 refine wpc_sound (M := MFd) (PL := PLfe) (CU := noCut) TTok mixed _ _ _ ?_
 conv => whnf
 repeat ((refine ⟨_, rfl, ?_⟩); conv => whnf)
 refine ⟨(show pureL _ = true from fdC_pure f), ?_⟩
 conv => whnf
 repeat ((refine ⟨rfl, ?_⟩); conv => whnf)
 cases hv : heavyF f <;> rw [hv] at v1
 case true =>
  refine ⟨_, _, v1, by first | rfl | simp [noRoIf, noRoL, noRoV, noRoL_bys], ?_⟩
  conv => whnf
  repeat ((first | refine ifB_t ?_ | refine ⟨rfl, ?_⟩); conv => whnf)
  rfl
 refine ⟨_, _, v1, by first | rfl | simp [noRoIf, noRoL, noRoV, noRoL_bys], ?_⟩
 conv => whnf
 repeat ((first | refine ifB_f ?_ | refine ⟨entC_pure _, ?_⟩ | (refine Or.inl ⟨⟨rfl, ?_⟩, ?_⟩; (focus (first | rfl | (simp; done) | (rw [toksC_length]; omega)))) | refine ⟨rfl, ?_⟩ | refine ⟨_, rfl, ?_⟩ | refine ⟨⟨rfl, rfl⟩, ?_⟩); conv => whnf)
 cases hv2 : heavyEs [e] <;> rw [hv2] at v2
 case true =>
  refine ⟨_, _, v2.arg1 rfl (by simp [rowsC]; rfl), by first | rfl | simp [noRoIf, noRoL, noRoV, noRoL_bys], ?_⟩
  conv => whnf
  repeat ((first | refine ifB_t ?_ | refine ifB_f ?_ | refine ⟨rfl, ?_⟩); conv => whnf)
  rfl
 refine ⟨_, _, v2.arg1 rfl (by simp [rowsC]; rfl), by first | rfl | simp [noRoIf, noRoL, noRoV, noRoL_bys], ?_⟩
 conv => whnf
 repeat ((first | refine ifB_f ?_ | refine ⟨_, rfl, ?_⟩); conv => whnf)
 obtain ⟨hf, hl60⟩ := fdS_of of hv
 have he := entS_of1 oe hv2
 have rm := rfeed_ok f hf
 have rn := refentry_ok e he
 have tw := ktwin_ok e he
 refine ⟨(show pureL _ = true from fdC_pure f), ?_⟩
 conv => whnf
 repeat ((refine ⟨rfl, ?_⟩); conv => whnf)
 cases hr : lookR f <;> rw [hr] at rm
 case false =>
  refine ⟨_, _, rm, by first | rfl | simp [noRoIf, noRoL, noRoV, noRoL_bys], ?_⟩
  conv => whnf
  repeat ((first | refine ifB_t ?_ | refine ifB_f ?_ | refine ⟨rfl, ?_⟩); conv => whnf)
  rfl
 refine ⟨_, _, rm, by first | rfl | simp [noRoIf, noRoL, noRoV, noRoL_bys], ?_⟩
 conv => whnf
 repeat ((first | refine ifB_f ?_ | refine ⟨entC_pure _, ?_⟩ | refine ⟨rfl, ?_⟩ | refine ⟨_, rfl, ?_⟩); conv => whnf)
 cases hre : entR e <;> rw [hre] at rn
 case false =>
  refine ⟨_, _, rn, by first | rfl | simp [noRoIf, noRoL, noRoV, noRoL_bys], ?_⟩
  conv => whnf
  repeat ((first | refine ifB_t ?_ | refine ifB_f ?_ | refine ⟨rfl, ?_⟩); conv => whnf)
  rfl
 refine ⟨_, _, rn, by first | rfl | simp [noRoIf, noRoL, noRoV, noRoL_bys], ?_⟩
 conv => whnf
 repeat ((first | refine ifB_f ?_ | refine ⟨_, rfl, ?_⟩); conv => whnf)
 by_cases h50 : 50 ≤ f.es.length
 ·conv => whnf
  repeat ((first | (refine ifB_pos (decide_eq_true (by first | omega | rfl | (dsimp only; omega))) ?_) | refine ⟨rfl, ?_⟩); conv => whnf)
  rfl
 have rl := rlast_ok f hf hr
 have fl := fol_len hf
 conv => whnf
 repeat ((refine ifB_neg (decide_eq_false (by first | omega | rfl | (dsimp only; omega))) ?_); conv => whnf)
 refine wpc_sound (M := MFd) (PL := PLfe) (CU := noCut) TTok mixed _ _ _ ?_
 conv => whnf
 repeat ((refine ⟨_, rfl, ?_⟩); conv => whnf)
 refine ⟨(show pureL _ = true from fdC_pure f), ?_⟩
 conv => whnf
 repeat ((refine ⟨rfl, ?_⟩); conv => whnf)
 refine ⟨_, _, rl, by first | rfl | simp [noRoIf, noRoL, noRoV, noRoL_bys], ?_⟩
 conv => whnf
 repeat ((first | refine ⟨(⟨by kernel_rfl, by kernel_rfl, Nat.le_of_ble_eq_true (by kernel_rfl)⟩ : AV.ones _ = true ∧ _ ∧ _), ?_⟩ | refine ⟨rfl, ?_⟩); conv => whnf)
 have bw := fol_byt hr
 generalize hw : (folL f.au f.es).1 = w at fl bw ⊢
 refine Does.freeze 3 (zs := c32 w []) (by kernel_rfl) (Does.tidy [(2, .int .i64 what), (3, .rop (fdC f)), (4, .rop (entC e)), (7, .int .i64 f.es.length), (8, .rop (c32 w []))] [(2, entC e ++ [])] 4 124 rfl rfl rfl (by kernel_rfl) (by kernel_rfl) ?_)
 refine wpc_sound (M := MFd) (PL := PLfe) (CU := noCut) TTok mixed _ _ _ ?_
 conv => whnf
 repeat ((first | refine ⟨entC_pure _, ?_⟩ | refine ⟨rfl, ?_⟩ | refine ⟨_, rfl, ?_⟩); conv => whnf)
 refine ⟨_, _, tw, by first | rfl | simp [noRoIf, noRoL, noRoV, noRoL_bys], ?_⟩
 conv => whnf
 repeat ((first | refine ⟨(⟨by kernel_rfl, by kernel_rfl, Nat.le_of_ble_eq_true (by kernel_rfl)⟩ : AV.ones _ = true ∧ _ ∧ _), ?_⟩ | refine ⟨rfl, ?_⟩); conv => whnf)
 refine Does.seqCut (fun _ : Unit => mkSt [(2, .int .i64 what), (3, .rop (fdC f)), (4, .rop (entC e)), (7, .int .i64 f.es.length), (8, .rop (c32 w [])), (9, .ptr 4 0)] [(2, entC e ++ []), (4, entC (nxE f.au (f.es.length + 1) w e))] 5 124) (fun _ => True) ?_ ?_
 ·refine Does.tidy [(2, .int .i64 what), (3, .rop (fdC f)), (4, .rop (entC e)), (7, .int .i64 f.es.length), (8, .rop (c32 w [])), (9, .ptr 4 0)] [(2, entC e ++ []), (4, entC e)] 5 124 rfl rfl rfl (by kernel_rfl) (by kernel_rfl) ?_
  refine wpc_sound (M := MFd) (PL := PLfe) (CU := noCut) TTok mixed _ _ _ ?_
  conv => whnf
  refine ⟨by kernel_rfl, ?_⟩
  conv => whnf
  repeat' (first | (refine fit_i64 ⟨by first | omega | rfl | (dsimp only; omega), by first | omega | rfl | (dsimp only; omega)⟩ ?_; (conv => whnf)) | (refine ⟨(⟨by kernel_rfl, by kernel_rfl, Nat.le_of_ble_eq_true (by kernel_rfl)⟩ : AV.ones _ = true ∧ _ ∧ _), ?_⟩; (conv => whnf)) | (refine ⟨rfl, ?_⟩; (conv => whnf)) | (exact ⟨(), trivial, Weaker.tidy _ _ 5 124 rfl rfl rfl (by kernel_rfl) (by kernel_rfl)⟩) | (refine ⟨_, rfl, ?_⟩; conv => whnf) | (refine And.intro ?_ ?_ <;> conv => whnf))
 intro _ _
 obtain ⟨c, hcc, hc5⟩ := mod_len what (n := 5) (by omega)
 have ww := wrap_u64 what
 refine wpc_sound (M := MFd) (PL := PLfe) (CU := cutAt [8]) TTok mixed _ _ _ ?_
 conv => whnf
 have hw1 : (f.es.length : Int) + 1 = 1 → w = z32 := fun k => by
  have : f.es = [] := List.length_eq_zero_iff.1 (by omega)
  rw [← hw, this]
  rfl
 clear rl rm rn
 refine Does.seqCut (fun g : Ent × Int => mkSt [(3, .rop (fdC f)), (7, .int .i64 f.es.length), (9, .ptr 4 0), (10, .int .i64 g.2)] [(2, entC e ++ []), (4, entC (g.1))] 5 124) (fun g => EntS g.1 ∧ pushE f g.1 = wantE f g.2) ?_ ?_
 ·refine wpc_sound (M := MFd) (PL := PLfe) (CU := cutAt [100021]) TTok mixed _ _ _ ?_
  conv => whnf
  refine fit_wrap ?_
  rw [ww]
  conv => whnf
  repeat ((refine And.intro (by first | omega | rfl | (dsimp only; omega)) ?_); conv => whnf)
  rw [show (what % 18446744073709551616).tmod 5 = (c : Int) from hcc]
  clear hcc ww
  have hcs : c = 0 ∨ c = 1 ∨ c = 2 ∨ c = 3 ∨ c = 4 := by omega
  rcases hcs with rfl | rfl | rfl | rfl | rfl
  ·conv => whnf
   repeat ((first | refine ifB_t ?_ | refine ⟨(⟨by kernel_rfl, by kernel_rfl, Nat.le_of_ble_eq_true (by kernel_rfl)⟩ : AV.ones _ = true ∧ _ ∧ _), ?_⟩ | refine ⟨_, rfl, ?_⟩ | (refine And.intro (by first | omega | rfl | (dsimp only; omega)) ?_)); conv => whnf)
   exact ⟨(nxE (fa0 f.au) (f.es.length + 1) w e, 16), ⟨nxE_S he ⟨by omega, by omega⟩ (fa0_ok of.au.1) ⟨bw, fl⟩, push_au hr (nxE_R hre ⟨by omega, by omega⟩ hw1) (fa0_ne of.au.1)⟩, Weaker.tidy [(3, .rop (fdC f)), (7, .int .i64 f.es.length), (9, .ptr 4 0), (10, .int .i64 16)] [(2, entC e ++ []), (4, entC (nxE (fa0 f.au) (f.es.length + 1) w e))] 5 124 rfl rfl rfl (by kernel_rfl) (by kernel_rfl)⟩
  ·conv => whnf
   repeat ((first | refine ifB_t ?_ | refine ifB_f ?_); conv => whnf)
   refine ⟨by kernel_rfl, ?_⟩
   conv => whnf
   repeat ((refine fit_i64 ⟨by first | omega | rfl | (dsimp only; omega), by first | omega | rfl | (dsimp only; omega)⟩ ?_); conv => whnf)
   refine ⟨?_, ?_⟩
   ·conv => whnf
    repeat ((first | refine ⟨(⟨by kernel_rfl, by kernel_rfl, Nat.le_of_ble_eq_true (by kernel_rfl)⟩ : AV.ones _ = true ∧ _ ∧ _), ?_⟩ | refine ⟨_, rfl, ?_⟩); conv => whnf)
    exact ⟨(nxE f.au (f.es.length + 2) w e, 13), ⟨nxE_S he ⟨by omega, by omega⟩ of.au ⟨bw, fl⟩, push_gap hr (nxE_R hre ⟨by omega, by omega⟩ (fun k => by omega)) rfl (show (f.es.length : Int) + 2 > f.es.length + 1 by omega)⟩, Weaker.tidy [(3, .rop (fdC f)), (7, .int .i64 f.es.length), (9, .ptr 4 0), (10, .int .i64 13)] [(2, entC e ++ []), (4, entC (nxE f.au (f.es.length + 2) w e))] 5 124 rfl rfl rfl (by kernel_rfl) (by kernel_rfl)⟩
   ·conv => whnf
    repeat ((first | refine ⟨(⟨by kernel_rfl, by kernel_rfl, Nat.le_of_ble_eq_true (by kernel_rfl)⟩ : AV.ones _ = true ∧ _ ∧ _), ?_⟩ | refine ⟨_, rfl, ?_⟩); conv => whnf)
    exact ⟨(nxE f.au (f.es.length + 2) w e, 13), ⟨nxE_S he ⟨by omega, by omega⟩ of.au ⟨bw, fl⟩, push_gap hr (nxE_R hre ⟨by omega, by omega⟩ (fun k => by omega)) rfl (show (f.es.length : Int) + 2 > f.es.length + 1 by omega)⟩, Weaker.tidy [(3, .rop (fdC f)), (7, .int .i64 f.es.length), (9, .ptr 4 0), (10, .int .i64 13)] [(2, entC e ++ []), (4, entC (nxE f.au (f.es.length + 2) w e))] 5 124 rfl rfl rfl (by kernel_rfl) (by kernel_rfl)⟩
  ·by_cases c0 : f.es.length = 0
   ·conv => whnf
    repeat ((first | refine ifB_t ?_ | refine ifB_f ?_ | (refine ifB_neg (decide_eq_false (by first | omega | rfl | (dsimp only; omega))) ?_)); conv => whnf)
    exact ⟨((nxE f.au (f.es.length + 1) w e), 0), ⟨nxE_S he ⟨by omega, by omega⟩ of.au ⟨bw, fl⟩, push_next hr (nxE_R hre ⟨by omega, by omega⟩ hw1) rfl rfl hw.symm⟩, Weaker.tidy [(3, .rop (fdC f)), (7, .int .i64 f.es.length), (9, .ptr 4 0), (10, .int .i64 0)] [(2, entC e ++ []), (4, entC ((nxE f.au (f.es.length + 1) w e)))] 5 124 rfl rfl rfl (by kernel_rfl) (by kernel_rfl)⟩
   ·conv => whnf
    repeat ((first | refine ifB_t ?_ | refine ifB_f ?_ | (refine ifB_pos (decide_eq_true (by first | omega | rfl | (dsimp only; omega))) ?_) | refine ⟨(⟨by kernel_rfl, by kernel_rfl, Nat.le_of_ble_eq_true (by kernel_rfl)⟩ : AV.ones _ = true ∧ _ ∧ _), ?_⟩ | refine ⟨_, rfl, ?_⟩ | (refine And.intro (by first | omega | rfl | (dsimp only; omega)) ?_)); conv => whnf)
    exact ⟨(nxE f.au (f.es.length + 1) (fp5 w) e, 12), ⟨nxE_S he ⟨by omega, by omega⟩ of.au (fp5_ok bw), push_chain hr (nxE_R hre ⟨by omega, by omega⟩ (fun k => by omega)) rfl rfl (by rw [hw]; exact fp5_ne bw)⟩, Weaker.tidy [(3, .rop (fdC f)), (7, .int .i64 f.es.length), (9, .ptr 4 0), (10, .int .i64 12)] [(2, entC e ++ []), (4, entC (nxE f.au (f.es.length + 1) (fp5 w) e))] 5 124 rfl rfl rfl (by kernel_rfl) (by kernel_rfl)⟩
  ·by_cases c0 : f.es.length = 0
   ·conv => whnf
    repeat ((first | refine ifB_t ?_ | refine ifB_f ?_ | (refine ifB_neg (decide_eq_false (by first | omega | rfl | (dsimp only; omega))) ?_)); conv => whnf)
    exact ⟨((nxE f.au (f.es.length + 1) w e), 0), ⟨nxE_S he ⟨by omega, by omega⟩ of.au ⟨bw, fl⟩, push_next hr (nxE_R hre ⟨by omega, by omega⟩ hw1) rfl rfl hw.symm⟩, Weaker.tidy [(3, .rop (fdC f)), (7, .int .i64 f.es.length), (9, .ptr 4 0), (10, .int .i64 0)] [(2, entC e ++ []), (4, entC ((nxE f.au (f.es.length + 1) w e)))] 5 124 rfl rfl rfl (by kernel_rfl) (by kernel_rfl)⟩
   ·have hj : f.es.length - 1 < f.es.length := by omega
    have hg := hf.es _ (List.getElem_mem hj)
    have hgr := fol_R (w := z32) (show (folGo f.au 0 z32 f.es).2 = true from look_fol hr) _ (List.getElem_mem hj)
    have hat := fol_at f.es 0 z32 (look_fol hr) _ hj
    have hgd : f.es.getD (f.es.length - 1) ent0 = f.es[f.es.length - 1] := by rw [List.getD_eq_getElem?_getD, List.getElem?_eq_getElem hj]; rfl
    have twg := ktwin_ok _ hg
    conv => whnf
    repeat ((first | refine ifB_t ?_ | refine ifB_f ?_ | (refine ifB_pos (decide_eq_true (by first | omega | rfl | (dsimp only; omega))) ?_)); conv => whnf)
    refine ⟨_, rfl, ?_⟩
    conv => whnf
    repeat ((first | (refine fit_i64 ⟨by first | omega | rfl | (dsimp only; omega), by first | omega | rfl | (dsimp only; omega)⟩ ?_) | (refine ⟨⟨?_, ?_, ?_⟩, ?_⟩; (focus omega); (focus (first | omega | (simp; done) | (simp; omega))); (focus (first | (rw [prfs_len]; simp; omega) | (rw [ents_len]; simp; omega) | (rw [hds_len]; simp; omega) | (rw [lets_len]; simp; omega))))); conv => whnf)
    refine ⟨_, takeN_row entC_length (j := f.es.length - 1) hj (by simp; omega) rfl, ?_⟩
    conv => whnf
    repeat ((first | refine ⟨entC_pure _, ?_⟩ | refine ⟨rfl, ?_⟩); conv => whnf)
    generalize f.es[f.es.length - 1] = g at hg hgr hat hgd twg ⊢
    refine ⟨_, _, twg, by first | rfl | simp [noRoIf, noRoL, noRoV, noRoL_bys], ?_⟩
    conv => whnf
    repeat ((refine ⟨(⟨by kernel_rfl, by kernel_rfl, Nat.le_of_ble_eq_true (by kernel_rfl)⟩ : AV.ones _ = true ∧ _ ∧ _), ?_⟩); conv => whnf)
    refine Does.tidy [(3, .rop (fdC f)), (7, .int .i64 f.es.length), (9, .ptr 4 0)] [(2, entC e ++ []), (4, entC g)] 5 124 rfl rfl rfl (by kernel_rfl) (by kernel_rfl) ?_
    refine wpc_sound (M := MFd) (PL := PLfe) (CU := noCut) TTok mixed _ _ _ ?_
    conv => whnf
    repeat ((first | refine ⟨(⟨by kernel_rfl, by kernel_rfl, Nat.le_of_ble_eq_true (by kernel_rfl)⟩ : AV.ones _ = true ∧ _ ∧ _), ?_⟩ | refine ⟨_, rfl, ?_⟩ | (refine And.intro (by first | omega | rfl | (dsimp only; omega)) ?_)); conv => whnf)
    exact ⟨((⟨g.au, g.seq, g.prev, g.stamp, g.kind, g.key, g.val, fs0 g.sig⟩ : Ent), 14), ⟨{ hg with sig := fs0_ok hg.sig.1 }, push_fork hr (sgE_R _ hgr) hat.1 (show g.seq ≤ _ by omega) (by rw [show (g.seq - 1).toNat = f.es.length - 1 by omega, hgd]; exact fun k => fs0_ne hg.sig.1 (congrArg Ent.sig k).symm)⟩, Weaker.tidy [(3, .rop (fdC f)), (7, .int .i64 f.es.length), (9, .ptr 4 0), (10, .int .i64 14)] [(2, entC e ++ []), (4, entC ((⟨g.au, g.seq, g.prev, g.stamp, g.kind, g.key, g.val, fs0 g.sig⟩ : Ent)))] 5 124 rfl rfl rfl (by kernel_rfl) (by kernel_rfl)⟩
  ·conv => whnf
   repeat ((refine ifB_f ?_); conv => whnf)
   exact ⟨((nxE f.au (f.es.length + 1) w e), 0), ⟨nxE_S he ⟨by omega, by omega⟩ of.au ⟨bw, fl⟩, push_next hr (nxE_R hre ⟨by omega, by omega⟩ hw1) rfl rfl hw.symm⟩, Weaker.tidy [(3, .rop (fdC f)), (7, .int .i64 f.es.length), (9, .ptr 4 0), (10, .int .i64 0)] [(2, entC e ++ []), (4, entC ((nxE f.au (f.es.length + 1) w e)))] 5 124 rfl rfl rfl (by kernel_rfl) (by kernel_rfl)⟩
 rintro ⟨x, W⟩ ⟨hx, hp⟩
 dsimp only at hx hp ⊢
 have pk := fpush_ok f x hf hx
 refine Does.freeze 4 (zs := entC x) (by kernel_rfl) (Does.tidy [(3, .rop (fdC f)), (7, .int .i64 f.es.length), (9, .rop (entC x)), (10, .int .i64 W)] [(2, entC e ++ [])] 5 124 rfl rfl rfl (by kernel_rfl) (by kernel_rfl) ?_)
 refine wpc_sound (M := MFd) (PL := PLfe) (CU := cutAt [100026]) TTok mixed _ _ _ ?_
 have fin0 : pushE f x = 0 → pushF f x = ⟨f.au, f.es ++ [x], f.shut, f.pf⟩ := fun h => if_pos h
 have ln := dt (show (((f.es ++ [x]).length : Nat) : Int) = (f.es.length : Int) + 1 by simp)
 unfold wantE at hp
 cases hs : f.shut <;> rw [hs] at hp
 ·rw [if_neg (by decide)] at hp
  rw [hp] at pk fin0
  by_cases w0 : W = 0
  ·subst w0
   obtain ⟨y, hy, hz⟩ : ∃ y : Fd, y = pushF f x ∧ decide ((y.es.length : Int) = (f.es.length : Int) + 1) = true := ⟨_, rfl, by rw [fin0 rfl]; exact ln⟩
   rw [← hy] at pk
   clear hy
   conv => whnf
   repeat ((refine ⟨_, rfl, ?_⟩); conv => whnf)
   rw [hs]
   conv => whnf
   repeat ((first | refine ifB_f ?_ | refine ⟨_, rfl, ?_⟩); conv => whnf)
   refine ⟨(show pureL _ = true from fdC_pure f), ?_⟩
   conv => whnf
   repeat ((first | refine ⟨entC_pure _, ?_⟩ | refine ⟨rfl, ?_⟩); conv => whnf)
   refine ⟨_, _, pk, by first | rfl | simp [noRoIf, noRoL, noRoV, noRoL_bys], ?_⟩
   conv => whnf
   repeat ((first | refine ⟨(⟨by kernel_rfl, by kernel_rfl, Nat.le_of_ble_eq_true (by kernel_rfl)⟩ : AV.ones _ = true ∧ _ ∧ _), ?_⟩ | refine ⟨rfl, ?_⟩); conv => whnf)
   refine Does.tidy [(7, .int .i64 f.es.length), (10, .int .i64 0), (11, .ptr 5 0), (12, .int .i64 0)] [(2, entC e ++ []), (5, fdC y)] 6 124 rfl rfl rfl (by kernel_rfl) (by kernel_rfl) ?_
   refine wpc_sound (M := MFd) (PL := PLfe) (CU := noCut) TTok mixed _ _ _ ?_
   conv => whnf
   repeat ((first | refine ifB_f ?_ | (refine fit_i64 ⟨by first | omega | rfl | (dsimp only; omega), by first | omega | rfl | (dsimp only; omega)⟩ ?_) | refine ⟨_, rfl, ?_⟩); conv => whnf)
   rw [hz]
   conv => whnf
   repeat ((first | refine ifB_t ?_ | refine ⟨rfl, ?_⟩); conv => whnf)
   refine ⟨_, _, wakes17_ok, by first | rfl | simp [noRoIf, noRoL, noRoV, noRoL_bys], ?_⟩
   conv => whnf
   repeat ((first | refine ifB_t ?_ | refine ⟨rfl, ?_⟩); conv => whnf)
   rfl
  ·generalize pushF f x = y at pk
   conv => whnf
   repeat ((refine ⟨_, rfl, ?_⟩); conv => whnf)
   rw [hs]
   conv => whnf
   repeat ((first | refine ifB_f ?_ | refine ⟨_, rfl, ?_⟩); conv => whnf)
   refine ⟨(show pureL _ = true from fdC_pure f), ?_⟩
   conv => whnf
   repeat ((first | refine ⟨entC_pure _, ?_⟩ | refine ⟨rfl, ?_⟩); conv => whnf)
   refine ⟨_, _, pk, by first | rfl | simp [noRoIf, noRoL, noRoV, noRoL_bys], ?_⟩
   conv => whnf
   repeat ((first | refine ⟨(⟨by kernel_rfl, by kernel_rfl, Nat.le_of_ble_eq_true (by kernel_rfl)⟩ : AV.ones _ = true ∧ _ ∧ _), ?_⟩ | refine ⟨rfl, ?_⟩); conv => whnf)
   refine Does.tidy [(7, .int .i64 f.es.length), (10, .int .i64 W), (11, .ptr 5 0), (12, .int .i64 W)] [(2, entC e ++ []), (5, fdC y)] 6 124 rfl rfl rfl (by kernel_rfl) (by kernel_rfl) ?_
   refine wpc_sound (M := MFd) (PL := PLfe) (CU := noCut) TTok mixed _ _ _ ?_
   conv => whnf
   repeat ((first | refine ifB_t ?_ | (refine ifB_neg (decide_eq_false (by first | omega | rfl | (dsimp only; omega))) ?_) | (refine ifB_pos (decide_eq_true (by first | omega | rfl | (dsimp only; omega))) ?_) | refine ⟨rfl, ?_⟩); conv => whnf)
   refine ⟨_, _, wakes17_ok, by first | rfl | simp [noRoIf, noRoL, noRoV, noRoL_bys], ?_⟩
   conv => whnf
   repeat ((first | refine ifB_t ?_ | refine ⟨rfl, ?_⟩); conv => whnf)
   rfl
 ·rw [if_pos rfl] at hp
  clear fin0
  generalize pushF f x = y at pk
  by_cases w16 : W = 16
  ·subst w16
   rw [hp, if_pos rfl] at pk
   conv => whnf
   repeat ((refine ⟨_, rfl, ?_⟩); conv => whnf)
   rw [hs]
   conv => whnf
   repeat ((first | refine ifB_t ?_ | refine ifB_f ?_ | refine ⟨_, rfl, ?_⟩); conv => whnf)
   refine ⟨(show pureL _ = true from fdC_pure f), ?_⟩
   conv => whnf
   repeat ((first | refine ⟨entC_pure _, ?_⟩ | refine ⟨rfl, ?_⟩); conv => whnf)
   refine ⟨_, _, pk, by first | rfl | simp [noRoIf, noRoL, noRoV, noRoL_bys], ?_⟩
   conv => whnf
   repeat ((first | refine ⟨(⟨by kernel_rfl, by kernel_rfl, Nat.le_of_ble_eq_true (by kernel_rfl)⟩ : AV.ones _ = true ∧ _ ∧ _), ?_⟩ | refine ⟨rfl, ?_⟩); conv => whnf)
   refine Does.tidy [(7, .int .i64 f.es.length), (10, .int .i64 16), (11, .ptr 5 0), (12, .int .i64 16)] [(2, entC e ++ []), (5, fdC y)] 6 124 rfl rfl rfl (by kernel_rfl) (by kernel_rfl) ?_
   refine wpc_sound (M := MFd) (PL := PLfe) (CU := noCut) TTok mixed _ _ _ ?_
   conv => whnf
   repeat ((first | refine ifB_t ?_ | refine ifB_f ?_ | refine ⟨rfl, ?_⟩); conv => whnf)
   refine ⟨_, _, wakes17_ok, by first | rfl | simp [noRoIf, noRoL, noRoV, noRoL_bys], ?_⟩
   conv => whnf
   repeat ((first | refine ifB_t ?_ | refine ⟨rfl, ?_⟩); conv => whnf)
   rfl
  ·rw [hp, if_neg w16] at pk
   conv => whnf
   repeat ((refine ⟨_, rfl, ?_⟩); conv => whnf)
   rw [hs]
   conv => whnf
   repeat ((first | refine ifB_t ?_ | (refine ifB_pos (decide_eq_true (by first | omega | rfl | (dsimp only; omega))) ?_) | refine ⟨_, rfl, ?_⟩); conv => whnf)
   refine ⟨(show pureL _ = true from fdC_pure f), ?_⟩
   conv => whnf
   repeat ((first | refine ⟨entC_pure _, ?_⟩ | refine ⟨rfl, ?_⟩); conv => whnf)
   refine ⟨_, _, pk, by first | rfl | simp [noRoIf, noRoL, noRoV, noRoL_bys], ?_⟩
   conv => whnf
   repeat ((first | refine ⟨(⟨by kernel_rfl, by kernel_rfl, Nat.le_of_ble_eq_true (by kernel_rfl)⟩ : AV.ones _ = true ∧ _ ∧ _), ?_⟩ | refine ⟨rfl, ?_⟩); conv => whnf)
   refine Does.tidy [(7, .int .i64 f.es.length), (10, .int .i64 15), (11, .ptr 5 0), (12, .int .i64 15)] [(2, entC e ++ []), (5, fdC y)] 6 124 rfl rfl rfl (by kernel_rfl) (by kernel_rfl) ?_
   refine wpc_sound (M := MFd) (PL := PLfe) (CU := noCut) TTok mixed _ _ _ ?_
   conv => whnf
   repeat ((first | refine ifB_t ?_ | refine ifB_f ?_ | refine ⟨rfl, ?_⟩); conv => whnf)
   refine ⟨_, _, wakes17_ok, by first | rfl | simp [noRoIf, noRoL, noRoV, noRoL_bys], ?_⟩
   conv => whnf
   repeat ((first | refine ifB_t ?_ | refine ⟨rfl, ?_⟩); conv => whnf)
   rfl
end
section
--KR
attribute [local irreducible] ifB fitP Does Weaker
theorem refopO_ok (e : Ent) (he : EntOk e) : ACall Tryz.prog 50 [.agg (opC e)] (.bool (opR e)) [] := by
 have hk := he.key.2
 have hv := he.val.2
 have hi := in_ok (e.key.length : Int) 1 16
 unfold opR
 refine ACall.of_does TTok Tryz.func50 rfl Tryz.call50 rfl (wpc_sound (M := MF) (PL := PL0) (CU := noCut) TTok mixed _ _ _ ?_)
 by_cases c1 : 1 ≤ e.key.length
 ·rw [dt c1]
  by_cases c2 : e.key.length ≤ 16
  ·rw [dt c2]
   have hu := refUtf8_ok e.key he.key.1 (by omega)
   rw [dt (show (1 : Int) ≤ e.key.length ∧ (e.key.length : Int) ≤ 16 by omega)] at hi
   cases c3 : validR e.key <;> rw [c3] at hu
   ·conv => whnf
    repeat ((first | refine ⟨rfl, ?_⟩ | refine ⟨_, rfl, ?_⟩); conv => whnf)
    refine ⟨_, _, hi, by first | rfl | simp [noRoIf, noRoL, noRoV, noRoL_bys], ?_⟩
    conv => whnf
    repeat ((first | refine ifB_t ?_ | refine ⟨pureL_bys _, ?_⟩ | (refine Or.inl ⟨⟨rfl, ?_⟩, ?_⟩; (focus (first | rfl | (simp; done) | (rw [toksC_length]; omega)))) | refine ⟨rfl, ?_⟩ | refine ⟨_, rfl, ?_⟩); conv => whnf)
    refine ⟨_, _, hu, by first | rfl | simp [noRoIf, noRoL, noRoV, noRoL_bys], ?_⟩
    conv => whnf
    repeat ((first | refine ifB_t ?_ | refine ifB_f ?_ | refine ⟨rfl, ?_⟩); conv => whnf)
    rfl
   ·by_cases c4 : e.kind = 1
    ·rw [dt c4, df (show ¬ e.kind = 2 by omega)]
     by_cases c5 : e.val.length ≤ 40
     ·rw [dt c5]
      conv => whnf
      repeat ((first | refine ⟨rfl, ?_⟩ | refine ⟨_, rfl, ?_⟩); conv => whnf)
      refine ⟨_, _, hi, by first | rfl | simp [noRoIf, noRoL, noRoV, noRoL_bys], ?_⟩
      conv => whnf
      repeat ((first | refine ifB_t ?_ | refine ⟨pureL_bys _, ?_⟩ | (refine Or.inl ⟨⟨rfl, ?_⟩, ?_⟩; (focus (first | rfl | (simp; done) | (rw [toksC_length]; omega)))) | refine ⟨rfl, ?_⟩ | refine ⟨_, rfl, ?_⟩); conv => whnf)
      refine ⟨_, _, hu, by first | rfl | simp [noRoIf, noRoL, noRoV, noRoL_bys], ?_⟩
      conv => whnf
      repeat ((first | refine ifB_t ?_ | (refine ifB_pos (decide_eq_true (by first | omega | rfl | (dsimp only; omega))) ?_) | refine ⟨rfl, ?_⟩ | refine ⟨_, rfl, ?_⟩); conv => whnf)
      rfl
     ·rw [df c5]
      conv => whnf
      repeat ((first | refine ⟨rfl, ?_⟩ | refine ⟨_, rfl, ?_⟩); conv => whnf)
      refine ⟨_, _, hi, by first | rfl | simp [noRoIf, noRoL, noRoV, noRoL_bys], ?_⟩
      conv => whnf
      repeat ((first | refine ifB_t ?_ | refine ⟨pureL_bys _, ?_⟩ | (refine Or.inl ⟨⟨rfl, ?_⟩, ?_⟩; (focus (first | rfl | (simp; done) | (rw [toksC_length]; omega)))) | refine ⟨rfl, ?_⟩ | refine ⟨_, rfl, ?_⟩); conv => whnf)
      refine ⟨_, _, hu, by first | rfl | simp [noRoIf, noRoL, noRoV, noRoL_bys], ?_⟩
      conv => whnf
      repeat ((first | refine ifB_t ?_ | refine ifB_f ?_ | (refine ifB_neg (decide_eq_false (by first | omega | rfl | (dsimp only; omega))) ?_) | (refine ifB_pos (decide_eq_true (by first | omega | rfl | (dsimp only; omega))) ?_) | refine ⟨rfl, ?_⟩ | refine ⟨_, rfl, ?_⟩); conv => whnf)
      rfl
    ·rw [df c4]
     by_cases c6 : e.kind = 2
     ·rw [dt c6]
      by_cases c7 : e.val.length = 0
      ·rw [dt c7]
       conv => whnf
       repeat ((first | refine ⟨rfl, ?_⟩ | refine ⟨_, rfl, ?_⟩); conv => whnf)
       refine ⟨_, _, hi, by first | rfl | simp [noRoIf, noRoL, noRoV, noRoL_bys], ?_⟩
       conv => whnf
       repeat ((first | refine ifB_t ?_ | refine ⟨pureL_bys _, ?_⟩ | (refine Or.inl ⟨⟨rfl, ?_⟩, ?_⟩; (focus (first | rfl | (simp; done) | (rw [toksC_length]; omega)))) | refine ⟨rfl, ?_⟩ | refine ⟨_, rfl, ?_⟩); conv => whnf)
       refine ⟨_, _, hu, by first | rfl | simp [noRoIf, noRoL, noRoV, noRoL_bys], ?_⟩
       conv => whnf
       repeat ((first | refine ifB_t ?_ | refine ifB_f ?_ | (refine ifB_neg (decide_eq_false (by first | omega | rfl | (dsimp only; omega))) ?_) | (refine ifB_pos (decide_eq_true (by first | omega | rfl | (dsimp only; omega))) ?_) | refine ⟨_, rfl, ?_⟩); conv => whnf)
       exact ⟨dt (by omega), rfl⟩
      ·rw [df c7]
       conv => whnf
       repeat ((first | refine ⟨rfl, ?_⟩ | refine ⟨_, rfl, ?_⟩); conv => whnf)
       refine ⟨_, _, hi, by first | rfl | simp [noRoIf, noRoL, noRoV, noRoL_bys], ?_⟩
       conv => whnf
       repeat ((first | refine ifB_t ?_ | refine ⟨pureL_bys _, ?_⟩ | (refine Or.inl ⟨⟨rfl, ?_⟩, ?_⟩; (focus (first | rfl | (simp; done) | (rw [toksC_length]; omega)))) | refine ⟨rfl, ?_⟩ | refine ⟨_, rfl, ?_⟩); conv => whnf)
       refine ⟨_, _, hu, by first | rfl | simp [noRoIf, noRoL, noRoV, noRoL_bys], ?_⟩
       conv => whnf
       repeat ((first | refine ifB_t ?_ | refine ifB_f ?_ | (refine ifB_neg (decide_eq_false (by first | omega | rfl | (dsimp only; omega))) ?_) | (refine ifB_pos (decide_eq_true (by first | omega | rfl | (dsimp only; omega))) ?_) | refine ⟨_, rfl, ?_⟩); conv => whnf)
       exact ⟨df (by omega), rfl⟩
     ·rw [df c6]
      conv => whnf
      repeat ((first | refine ⟨rfl, ?_⟩ | refine ⟨_, rfl, ?_⟩); conv => whnf)
      refine ⟨_, _, hi, by first | rfl | simp [noRoIf, noRoL, noRoV, noRoL_bys], ?_⟩
      conv => whnf
      repeat ((first | refine ifB_t ?_ | refine ⟨pureL_bys _, ?_⟩ | (refine Or.inl ⟨⟨rfl, ?_⟩, ?_⟩; (focus (first | rfl | (simp; done) | (rw [toksC_length]; omega)))) | refine ⟨rfl, ?_⟩ | refine ⟨_, rfl, ?_⟩); conv => whnf)
      refine ⟨_, _, hu, by first | rfl | simp [noRoIf, noRoL, noRoV, noRoL_bys], ?_⟩
      conv => whnf
      repeat ((first | refine ifB_t ?_ | refine ifB_f ?_ | (refine ifB_neg (decide_eq_false (by first | omega | rfl | (dsimp only; omega))) ?_) | refine ⟨rfl, ?_⟩ | refine ⟨_, rfl, ?_⟩); conv => whnf)
      rfl
  ·rw [df c2]
   rw [df (show ¬ ((1 : Int) ≤ e.key.length ∧ (e.key.length : Int) ≤ 16) by omega)] at hi
   conv => whnf
   repeat ((first | refine ⟨rfl, ?_⟩ | refine ⟨_, rfl, ?_⟩); conv => whnf)
   refine ⟨_, _, hi, by first | rfl | simp [noRoIf, noRoL, noRoV, noRoL_bys], ?_⟩
   conv => whnf
   repeat ((first | refine ifB_f ?_ | refine ⟨rfl, ?_⟩); conv => whnf)
   rfl
 ·rw [df c1]
  rw [df (show ¬ ((1 : Int) ≤ e.key.length ∧ (e.key.length : Int) ≤ 16) by omega)] at hi
  conv => whnf
  repeat ((first | refine ⟨rfl, ?_⟩ | refine ⟨_, rfl, ?_⟩); conv => whnf)
  refine ⟨_, _, hi, by first | rfl | simp [noRoIf, noRoL, noRoV, noRoL_bys], ?_⟩
  conv => whnf
  repeat ((first | refine ifB_f ?_ | refine ⟨rfl, ?_⟩); conv => whnf)
  rfl
theorem refentryO_ok (e : Ent) (he : EntOk e) : ACall Tryz.prog 15 [.agg (entC e)] (.bool (entR e)) [] := by
 have ho := refopO_ok e he
 have hi := in_ok e.seq 1 200
 unfold entR
 refine ACall.of_does TTok Tryz.func15 rfl Tryz.call15 rfl (wpc_sound (M := MF) (PL := PL0) (CU := noCut) TTok mixed _ _ _ ?_)
 by_cases c1 : 1 ≤ e.seq ∧ e.seq ≤ 200
 ·rw [dt c1.1, dt c1.2]
  rw [dt c1] at hi
  by_cases c3 : e.seq = 1
  ·rw [df (show ¬ e.seq ≠ 1 by omega)]
   by_cases c4 : e.prev = z32
   ·rw [dt c4]
    by_cases c5 : 0 ≤ e.stamp
    ·rw [dt c5]
     conv => whnf
     repeat ((first | refine ⟨rfl, ?_⟩ | refine ⟨_, rfl, ?_⟩); conv => whnf)
     refine ⟨_, _, hi, by first | rfl | simp [noRoIf, noRoL, noRoV, noRoL_bys], ?_⟩
     conv => whnf
     repeat ((first | refine ifB_t ?_ | refine ifB_f ?_ | (refine ifB_neg (decide_eq_false (by first | omega | rfl | (dsimp only; omega))) ?_) | refine ⟨_, rfl, ?_⟩); conv => whnf)
     refine ⟨e.prev, z32, ⟨rfl, c32_map he.prev.2, rfl, he.prev.2, rfl⟩, ?_⟩
     conv => whnf
     repeat ((first | refine ifB_t ?_ | refine ifB_f ?_ | (refine ifB_pos (decide_eq_true (by first | omega | rfl | (dsimp only; omega))) ?_) | refine ⟨entC_pure _, ?_⟩ | refine ⟨rfl, ?_⟩ | refine ⟨_, rfl, ?_⟩); conv => whnf)
     rw [dt c4]
     conv => whnf
     cases c6 : opR e <;> rw [c6] at ho
     ·refine ⟨_, _, ho, by first | rfl | simp [noRoIf, noRoL, noRoV, noRoL_bys], ?_⟩
      conv => whnf
      repeat ((first | refine ifB_t ?_ | refine ⟨rfl, ?_⟩); conv => whnf)
      rfl
     ·refine ⟨_, _, ho, by first | rfl | simp [noRoIf, noRoL, noRoV, noRoL_bys], ?_⟩
      conv => whnf
      repeat ((first | refine ifB_t ?_ | refine ⟨rfl, ?_⟩); conv => whnf)
      rfl
    ·rw [df c5]
     conv => whnf
     repeat ((first | refine ⟨rfl, ?_⟩ | refine ⟨_, rfl, ?_⟩); conv => whnf)
     refine ⟨_, _, hi, by first | rfl | simp [noRoIf, noRoL, noRoV, noRoL_bys], ?_⟩
     conv => whnf
     repeat ((first | refine ifB_t ?_ | refine ifB_f ?_ | (refine ifB_neg (decide_eq_false (by first | omega | rfl | (dsimp only; omega))) ?_) | refine ⟨_, rfl, ?_⟩); conv => whnf)
     refine ⟨e.prev, z32, ⟨rfl, c32_map he.prev.2, rfl, he.prev.2, rfl⟩, ?_⟩
     conv => whnf
     repeat ((first | refine ifB_t ?_ | refine ifB_f ?_ | (refine ifB_neg (decide_eq_false (by first | omega | rfl | (dsimp only; omega))) ?_) | (refine ifB_pos (decide_eq_true (by first | omega | rfl | (dsimp only; omega))) ?_) | refine ⟨rfl, ?_⟩ | refine ⟨_, rfl, ?_⟩); conv => whnf)
     rfl
   ·rw [df c4]
    conv => whnf
    repeat ((first | refine ⟨rfl, ?_⟩ | refine ⟨_, rfl, ?_⟩); conv => whnf)
    refine ⟨_, _, hi, by first | rfl | simp [noRoIf, noRoL, noRoV, noRoL_bys], ?_⟩
    conv => whnf
    repeat ((first | refine ifB_t ?_ | refine ifB_f ?_ | (refine ifB_neg (decide_eq_false (by first | omega | rfl | (dsimp only; omega))) ?_) | refine ⟨_, rfl, ?_⟩); conv => whnf)
    refine ⟨e.prev, z32, ⟨rfl, c32_map he.prev.2, rfl, he.prev.2, rfl⟩, ?_⟩
    conv => whnf
    repeat ((first | refine ifB_t ?_ | refine ifB_f ?_ | (refine ifB_neg (decide_eq_false (by first | omega | rfl | (dsimp only; omega))) ?_) | refine ⟨rfl, ?_⟩); conv => whnf)
    rfl
  ·rw [dt (show e.seq ≠ 1 from c3)]
   by_cases c5 : 0 ≤ e.stamp
   ·rw [dt c5]
    conv => whnf
    repeat ((first | refine ⟨rfl, ?_⟩ | refine ⟨_, rfl, ?_⟩); conv => whnf)
    refine ⟨_, _, hi, by first | rfl | simp [noRoIf, noRoL, noRoV, noRoL_bys], ?_⟩
    conv => whnf
    repeat ((first | refine ifB_t ?_ | (refine ifB_pos (decide_eq_true (by first | omega | rfl | (dsimp only; omega))) ?_) | refine ⟨entC_pure _, ?_⟩ | refine ⟨rfl, ?_⟩ | refine ⟨_, rfl, ?_⟩); conv => whnf)
    cases c6 : opR e <;> rw [c6] at ho
    ·refine ⟨_, _, ho, by first | rfl | simp [noRoIf, noRoL, noRoV, noRoL_bys], ?_⟩
     conv => whnf
     repeat ((first | refine ifB_t ?_ | refine ⟨rfl, ?_⟩); conv => whnf)
     rfl
    ·refine ⟨_, _, ho, by first | rfl | simp [noRoIf, noRoL, noRoV, noRoL_bys], ?_⟩
     conv => whnf
     repeat ((first | refine ifB_t ?_ | refine ⟨rfl, ?_⟩); conv => whnf)
     rfl
   ·rw [df c5]
    conv => whnf
    repeat ((first | refine ⟨rfl, ?_⟩ | refine ⟨_, rfl, ?_⟩); conv => whnf)
    refine ⟨_, _, hi, by first | rfl | simp [noRoIf, noRoL, noRoV, noRoL_bys], ?_⟩
    conv => whnf
    repeat ((first | refine ifB_t ?_ | refine ifB_f ?_ | (refine ifB_neg (decide_eq_false (by first | omega | rfl | (dsimp only; omega))) ?_) | (refine ifB_pos (decide_eq_true (by first | omega | rfl | (dsimp only; omega))) ?_) | refine ⟨rfl, ?_⟩ | refine ⟨_, rfl, ?_⟩); conv => whnf)
    rfl
 ·have : (decide (1 ≤ e.seq) && decide (e.seq ≤ 200)) = false := by
   rw [Bool.and_eq_false_iff]
   by_cases h : 1 ≤ e.seq
   ·exact .inr (df (fun k => c1 ⟨h, k⟩))
   ·exact .inl (df h)
  rw [this]
  rw [df c1] at hi
  conv => whnf
  repeat ((first | refine ⟨rfl, ?_⟩ | refine ⟨_, rfl, ?_⟩); conv => whnf)
  refine ⟨_, _, hi, by first | rfl | simp [noRoIf, noRoL, noRoV, noRoL_bys], ?_⟩
  conv => whnf
  repeat ((first | refine ifB_f ?_ | refine ⟨rfl, ?_⟩); conv => whnf)
  rfl
theorem entS_ofR {e : Ent} (h : EntOk e) (hr : entR e = true) : EntS e := by
 have := entR_facts hr
 exact { h with key' := by omega, val' := by omega }
theorem prfR_no1 {p : Prf} (h : entR p.a = false) : prfR p = false := by
 unfold prfR ordR
 rw [if_pos (by rw [entB_no h]; simp)]
 rfl
theorem prfR_no2 {p : Prf} (h : entR p.b = false) : prfR p = false := by
 cases k : entR p.a
 ·exact prfR_no1 k
 unfold prfR ordR
 split
 ·rfl
 rw [if_pos (by rw [entB_no h]; simp)]
 rfl
set_option maxRecDepth 20000 in
set_option maxHeartbeats 4000000 in
theorem refproofO_ok (p : Prf) (hp : PrfO p) : ACall Tryz.prog 37 [.agg (prfC p)] (.bool (prfR p)) [] := by
 have h1 := refentryO_ok p.a hp.1
 have h2 := refentryO_ok p.b hp.2
 cases c1 : entR p.a
 ·rw [prfR_no1 c1]
  rw [c1] at h1
  refine ACall.of_does TTok Tryz.func37 rfl Tryz.call37 rfl (wpc_sound (M := MF) (PL := PLrp) (CU := cutAt [100001]) TTok mixed _ _ _ ?_)
  conv => whnf
  repeat ((refine ⟨rfl, ?_⟩); conv => whnf)
  refine Does.freeze 0 rfl (Does.tidy [(1, .rop (prfC p))] [] 1 40 rfl rfl rfl (by kernel_rfl) (by kernel_rfl) ?_)
  refine wpc_sound (M := MF) (PL := PLrp) (CU := noCut) TTok mixed _ _ _ ?_
  conv => whnf
  refine ⟨by kernel_rfl, ?_⟩
  conv => whnf
  repeat ((first | refine ⟨entC_pure _, ?_⟩ | refine ⟨rfl, ?_⟩ | refine ⟨_, rfl, ?_⟩); conv => whnf)
  refine ⟨_, _, h1, by first | rfl | simp [noRoIf, noRoL, noRoV, noRoL_bys], ?_⟩
  conv => whnf
  repeat ((first | refine ifB_f ?_ | refine ⟨rfl, ?_⟩); conv => whnf)
  conv => whnf
  repeat' (first | (refine ifB_f ?_; (conv => whnf)) | (refine ⟨rfl, ?_⟩; (conv => whnf)) | (rfl) | (refine ⟨_, rfl, ?_⟩; conv => whnf) | (refine And.intro ?_ ?_ <;> conv => whnf))
 cases c2 : entR p.b
 ·rw [prfR_no2 c2]
  rw [c1] at h1
  rw [c2] at h2
  refine ACall.of_does TTok Tryz.func37 rfl Tryz.call37 rfl (wpc_sound (M := MF) (PL := PLrp) (CU := cutAt [100001]) TTok mixed _ _ _ ?_)
  conv => whnf
  repeat ((refine ⟨rfl, ?_⟩); conv => whnf)
  refine Does.freeze 0 rfl (Does.tidy [(1, .rop (prfC p))] [] 1 40 rfl rfl rfl (by kernel_rfl) (by kernel_rfl) ?_)
  refine wpc_sound (M := MF) (PL := PLrp) (CU := noCut) TTok mixed _ _ _ ?_
  conv => whnf
  refine ⟨by kernel_rfl, ?_⟩
  conv => whnf
  repeat ((first | refine ⟨entC_pure _, ?_⟩ | refine ⟨rfl, ?_⟩ | refine ⟨_, rfl, ?_⟩); conv => whnf)
  refine ⟨_, _, h1, by first | rfl | simp [noRoIf, noRoL, noRoV, noRoL_bys], ?_⟩
  conv => whnf
  repeat ((first | refine ifB_t ?_ | refine ⟨entC_pure _, ?_⟩ | refine ⟨rfl, ?_⟩ | refine ⟨_, rfl, ?_⟩); conv => whnf)
  refine ⟨_, _, h2, by first | rfl | simp [noRoIf, noRoL, noRoV, noRoL_bys], ?_⟩
  conv => whnf
  repeat ((first | refine ifB_t ?_ | refine ifB_f ?_ | refine ⟨rfl, ?_⟩); conv => whnf)
  conv => whnf
  repeat' (first | (refine ifB_f ?_; (conv => whnf)) | (refine ⟨rfl, ?_⟩; (conv => whnf)) | (rfl) | (refine ⟨_, rfl, ?_⟩; conv => whnf) | (refine And.intro ?_ ?_ <;> conv => whnf))
 exact refproof_ok p ⟨entS_ofR hp.1 c1, entS_ofR hp.2 c2⟩
end
section
--KR
attribute [local irreducible] ifB fitP Does Weaker
theorem lt_asym2 : ∀ {x y : List Int}, bytesLt x y = true → bytesLt y x = false
 | [], [], h => by simp [bytesLt] at h
 | [], _ :: _, _ => by simp [bytesLt]
 | _ :: _, [], h => by simp [bytesLt] at h
 | a :: x, b :: y, h => by
  have ih := @lt_asym2 x y
  simp only [bytesLt] at h ⊢
  by_cases h1 : a < b
  ·have h2 : ¬ b < a := by omega
   have h3 : ¬ b = a := by omega
   simp [h2, h3]
  ·by_cases h2 : a = b
   ·subst h2
    simp at h ⊢
    exact ih h
   ·simp [h1, h2] at h
theorem prfR_facts {p : Prf} (h : prfR p = true) : entR p.a = true ∧ entR p.b = true ∧ bytesLt (entB p.a).1 (entB p.b).1 = true := by
 have a1 : entR p.a = true := by
  cases k : entR p.a
  ·rw [prfR_no1 k] at h; cases h
  ·rfl
 have a2 : entR p.b = true := by
  cases k : entR p.b
  ·rw [prfR_no2 k] at h; cases h
  ·rfl
 refine ⟨a1, a2, ?_⟩
 unfold prfR ordR at h
 split at h
 ·cases h
 split at h
 ·cases h
 split at h
 ·cases h
 split at h
 ·cases h
 rw [cmp_neg] at h
 exact h
theorem prfR_flip {p : Prf} (h : prfR p = true) : prfR ⟨p.b, p.a⟩ = false := by
 cases k : prfR ⟨p.b, p.a⟩
 ·rfl
 ·have h1 := (prfR_facts h).2.2
  have h2 := (prfR_facts k).2.2
  rw [lt_asym2 h1] at h2
  cases h2
theorem look_shut {f : Fd} {p : Prf} (h : lookR f = true) (b : Bool) (hb : (prfR p && decide (p.a.au = f.au)) = b) : lookR ⟨f.au, f.es, true, p⟩ = b := by
 unfold lookR at h ⊢
 rw [Bool.and_eq_true] at h
 dsimp only
 rw [h.1, if_pos rfl, hb]
 rfl
theorem look_open {f : Fd} {p : Prf} (h : prfR p = true) : lookR ⟨f.au, f.es, false, p⟩ = false := by
 unfold lookR
 dsimp only
 rw [if_neg (by decide), df (fun k => by rw [k] at h; exact absurd h (by rw [prfR_no1 rfl]; decide)), Bool.and_false]
theorem push_shut {f : Fd} {x : Ent} (hl : lookR f = true) (hr : entR x = true) (h : x.au = f.au) (hs : f.shut = true) : pushE f x = 15 := by
 unfold pushE
 rw [hl, hr, if_neg (by decide), if_neg (by decide), if_neg (fun k => k h), if_pos hs]
set_option maxRecDepth 20000 in
set_option maxHeartbeats 8000000 in
theorem feedShut_ok (f : Fd) (p : Prf) (e : Ent) (of : FdO f) (op : PrfO p) (oe : EntOk e) : ACall Tryz.prog 7 [.agg (fdC f), .agg (prfC p), .agg (entC e)] (.bool true) [] := by
 have v1 := heavy17_ok f
 refine ACall.of_does TTok Tryz.func7 rfl Tryz.call7 rfl (wpc_sound (M := MFd) (PL := PL0) (CU := cutAt [100001, 100003, 100004, 100005, 100006, 100008, 100009, 100010, 100012, 100013, 100015, 100017, 100018, 100019, 100020, 100021]) TTok mixed _ _ _ ?_)
 conv => whnf
 repeat ((refine ⟨rfl, ?_⟩); conv => whnf)
 refine Does.freeze 0 rfl (Does.freeze 1 (zs := prfC p) (by show some (frzL 0 _ (prfC p)) = _; rw [prfC_frz]) (Does.freeze 2 (zs := entC e) (by show some (frzL 1 _ (frzL 0 _ (entC e))) = _; rw [entC_frz, entC_frz]) (Does.tidy [(3, .rop (fdC f)), (4, .rop (prfC p)), (5, .rop (entC e))] [] 3 100 rfl rfl rfl (by kernel_rfl) (by kernel_rfl) ?_)))
 refine wpc_sound (M := MFd) (PL := PL0) (CU := noCut) TTok mixed _ _ _ ?_
 conv => whnf
 repeat ((refine ⟨_, rfl, ?_⟩); conv => whnf)
 refine ⟨(show pureL _ = true from fdC_pure f), ?_⟩
 conv => whnf
 repeat ((refine ⟨rfl, ?_⟩); conv => whnf)
 cases hv : heavyF f <;> rw [hv] at v1
 case true =>
  refine ⟨_, _, v1, by first | rfl | simp [noRoIf, noRoL, noRoV, noRoL_bys], ?_⟩
  conv => whnf
  repeat ((first | refine ifB_t ?_ | refine ⟨rfl, ?_⟩); conv => whnf)
  rfl
 refine ⟨_, _, v1, by first | rfl | simp [noRoIf, noRoL, noRoV, noRoL_bys], ?_⟩
 conv => whnf
 repeat ((first | refine ifB_f ?_ | refine ⟨_, rfl, ?_⟩); conv => whnf)
 obtain ⟨hf, hl60⟩ := fdS_of of hv
 have rm := rfeed_ok f hf
 refine ⟨(show pureL _ = true from fdC_pure f), ?_⟩
 conv => whnf
 repeat ((refine ⟨rfl, ?_⟩); conv => whnf)
 cases hr : lookR f <;> rw [hr] at rm
 case false =>
  refine ⟨_, _, rm, by first | rfl | simp [noRoIf, noRoL, noRoV, noRoL_bys], ?_⟩
  conv => whnf
  repeat ((first | refine ifB_t ?_ | refine ifB_f ?_ | refine ⟨rfl, ?_⟩); conv => whnf)
  rfl
 refine ⟨_, _, rm, by first | rfl | simp [noRoIf, noRoL, noRoV, noRoL_bys], ?_⟩
 conv => whnf
 repeat ((first | refine ifB_f ?_ | refine ⟨rfl, ?_⟩ | refine ⟨_, rfl, ?_⟩ | (refine And.intro ?_ ?_; (focus (first | (simp only [pureL, pureV, pureL_bys, Bool.and_true, Bool.and_self]; done) | (simp only [pureL, pureV, pureL_bys, pureL_toks, Bool.and_true, Bool.and_self]; done))))); conv => whnf)
 have rp := refproofO_ok p op
 cases hpr : prfR p <;> rw [hpr] at rp
 case false =>
  refine ⟨_, _, rp, by first | rfl | simp [noRoIf, noRoL, noRoV, noRoL_bys], ?_⟩
  conv => whnf
  repeat ((first | refine ifB_t ?_ | refine ifB_f ?_ | refine ⟨rfl, ?_⟩); conv => whnf)
  rfl
 refine ⟨_, _, rp, by first | rfl | simp [noRoIf, noRoL, noRoV, noRoL_bys], ?_⟩
 conv => whnf
 repeat ((first | refine ifB_f ?_ | refine ⟨entC_pure _, ?_⟩ | refine ⟨rfl, ?_⟩ | refine ⟨_, rfl, ?_⟩); conv => whnf)
 have re := refentryO_ok e oe
 cases her : entR e <;> rw [her] at re
 case false =>
  refine ⟨_, _, re, by first | rfl | simp [noRoIf, noRoL, noRoV, noRoL_bys], ?_⟩
  conv => whnf
  repeat ((first | refine ifB_t ?_ | refine ifB_f ?_ | refine ⟨rfl, ?_⟩); conv => whnf)
  rfl
 refine ⟨_, _, re, by first | rfl | simp [noRoIf, noRoL, noRoV, noRoL_bys], ?_⟩
 conv => whnf
 repeat ((refine ifB_f ?_); conv => whnf)
 have he := entS_ofR oe her
 have hp : PrfS p := ⟨entS_ofR op.1 (prfR_facts hpr).1, entS_ofR op.2 (prfR_facts hpr).2.1⟩
 have tf := ktwinf_ok f hf (by omega)
 have tp := ktwinp_ok p hp
 have te := ktwin_ok e he
 have gS : FdS (⟨f.au, f.es, true, p⟩ : Fd) := { au := hf.au, es := hf.es, pf := hp, el := hf.el }
 have hS : FdS (⟨f.au, f.es, false, p⟩ : Fd) := { au := hf.au, es := hf.es, pf := hp, el := hf.el }
 have sS : FdS (⟨f.au, f.es, true, ⟨p.b, p.a⟩⟩ : Fd) := { au := hf.au, es := hf.es, pf := ⟨hp.2, hp.1⟩, el := hf.el }
 have c1 := fcheck_ok _ gS
 have c2 := fcheck_ok _ hS
 rw [look_open hpr, if_neg (by decide)] at c2
 have c3 := fcheck_ok _ sS
 rw [look_shut hr false (by rw [prfR_flip hpr]; rfl), if_neg (by decide)] at c3
 have c4 := check_proof_ok p hp
 rw [hpr, if_pos rfl] at c4
 have tg := ktwinf_ok _ gS (by show f.es.length ≤ _; omega)
 clear rm rp re v1
 refine wpc_sound (M := MFd) (PL := PL0) (CU := noCut) TTok mixed _ _ _ ?_
 conv => whnf
 repeat ((refine ⟨_, rfl, ?_⟩); conv => whnf)
 refine ⟨(show pureL _ = true from fdC_pure f), ?_⟩
 conv => whnf
 repeat ((refine ⟨rfl, ?_⟩); conv => whnf)
 refine ⟨_, _, tf, by first | rfl | simp [noRoIf, noRoL, noRoV, noRoL_bys], ?_⟩
 conv => whnf
 repeat ((first | refine ⟨(⟨by kernel_rfl, by kernel_rfl, Nat.le_of_ble_eq_true (by kernel_rfl)⟩ : AV.ones _ = true ∧ _ ∧ _), ?_⟩ | refine ⟨rfl, ?_⟩); conv => whnf)
 refine Does.tidy [(3, .rop (fdC f)), (4, .rop (prfC p)), (5, .rop (entC e)), (7, .ptr 3 0)] [(3, fdC f)] 4 100 rfl rfl rfl (by kernel_rfl) (by kernel_rfl) ?_
 refine wpc_sound (M := MFd) (PL := PL0) (CU := noCut) TTok mixed _ _ _ ?_
 conv => whnf
 repeat ((first | refine ⟨rfl, ?_⟩ | refine ⟨_, rfl, ?_⟩ | (refine And.intro ?_ ?_; (focus (first | (simp only [pureL, pureV, pureL_bys, Bool.and_true, Bool.and_self]; done) | (simp only [pureL, pureV, pureL_bys, pureL_toks, Bool.and_true, Bool.and_self]; done))))); conv => whnf)
 refine ⟨_, _, tp, by first | rfl | simp [noRoIf, noRoL, noRoV, noRoL_bys], ?_⟩
 conv => whnf
 repeat ((refine ⟨(⟨by kernel_rfl, by kernel_rfl, Nat.le_of_ble_eq_true (by kernel_rfl)⟩ : AV.ones _ = true ∧ _ ∧ _), ?_⟩); conv => whnf)
 refine Does.tidy [(3, .rop (fdC f)), (4, .rop (prfC p)), (5, .rop (entC e)), (7, .ptr 3 0)] [(3, fdC (⟨f.au, f.es, true, p⟩ : Fd))] 4 100 rfl rfl rfl (by kernel_rfl) (by kernel_rfl) ?_
 refine wpc_sound (M := MFd) (PL := PL0) (CU := noCut) TTok mixed _ _ _ ?_
 conv => whnf
 repeat ((refine ⟨_, rfl, ?_⟩); conv => whnf)
 refine ⟨p.a.au, f.au, ⟨rfl, c32_map op.1.au.2, c32_map of.au.2, op.1.au.2, of.au.2⟩, ?_⟩
 conv => whnf
 by_cases own : p.a.au = f.au
 ·rw [dt own]
  rw [look_shut hr true (by rw [hpr, dt own]; rfl), if_pos rfl] at c1
  conv => whnf
  refine Does.tidy [(3, .rop (fdC f)), (4, .rop (prfC p)), (5, .rop (entC e)), (7, .ptr 3 0), (8, .bool true)] [(3, fdC (⟨f.au, f.es, true, p⟩ : Fd))] 4 100 rfl rfl rfl (by kernel_rfl) (by kernel_rfl) ?_
  refine wpc_sound (M := MFd) (PL := PL0) (CU := noCut) TTok mixed _ _ _ ?_
  conv => whnf
  refine ⟨fdC (⟨f.au, f.es, true, p⟩ : Fd), by kernel_rfl, ?_⟩
  conv => whnf
  refine ⟨(show pureL _ = true from fdC_pure _), ?_⟩
  conv => whnf
  repeat ((refine ⟨rfl, ?_⟩); conv => whnf)
  refine ⟨_, _, c1, by first | rfl | simp [noRoIf, noRoL, noRoV, noRoL_bys], ?_⟩
  conv => whnf
  repeat ((first | refine ifB_f ?_ | refine ⟨rfl, ?_⟩ | refine ⟨_, rfl, ?_⟩ | (refine And.intro ?_ ?_; (focus (first | (simp only [pureL, pureV, pureL_bys, Bool.and_true, Bool.and_self]; done) | (simp only [pureL, pureV, pureL_bys, pureL_toks, Bool.and_true, Bool.and_self]; done))))); conv => whnf)
  refine ⟨_, _, c4, by first | rfl | simp [noRoIf, noRoL, noRoV, noRoL_bys], ?_⟩
  conv => whnf
  repeat ((refine ifB_f ?_); conv => whnf)
  refine Does.tidy [(3, .rop (fdC f)), (4, .rop (prfC p)), (5, .rop (entC e)), (7, .ptr 3 0), (8, .bool true)] [(3, fdC (⟨f.au, f.es, true, p⟩ : Fd))] 4 100 rfl rfl rfl (by kernel_rfl) (by kernel_rfl) ?_
  refine wpc_sound (M := MFd) (PL := PL0) (CU := noCut) TTok mixed _ _ _ ?_
  conv => whnf
  refine ⟨fdC (⟨f.au, f.es, true, p⟩ : Fd), by kernel_rfl, ?_⟩
  conv => whnf
  refine ⟨(show pureL _ = true from fdC_pure _), ?_⟩
  conv => whnf
  repeat ((refine ⟨rfl, ?_⟩); conv => whnf)
  refine ⟨_, _, tg, by first | rfl | simp [noRoIf, noRoL, noRoV, noRoL_bys], ?_⟩
  conv => whnf
  repeat ((first | refine ⟨(⟨by kernel_rfl, by kernel_rfl, Nat.le_of_ble_eq_true (by kernel_rfl)⟩ : AV.ones _ = true ∧ _ ∧ _), ?_⟩ | refine ⟨rfl, ?_⟩); conv => whnf)
  refine Does.tidy [(3, .rop (fdC f)), (4, .rop (prfC p)), (5, .rop (entC e)), (7, .ptr 3 0), (8, .bool true), (9, .ptr 4 0)] [(3, fdC (⟨f.au, f.es, true, p⟩ : Fd)), (4, fdC (⟨f.au, f.es, true, p⟩ : Fd))] 5 100 rfl rfl rfl (by kernel_rfl) (by kernel_rfl) ?_
  refine wpc_sound (M := MFd) (PL := PL0) (CU := noCut) TTok mixed _ _ _ ?_
  conv => whnf
  repeat ((refine ⟨(⟨by kernel_rfl, by kernel_rfl, Nat.le_of_ble_eq_true (by kernel_rfl)⟩ : AV.ones _ = true ∧ _ ∧ _), ?_⟩); conv => whnf)
  refine Does.tidy [(3, .rop (fdC f)), (4, .rop (prfC p)), (5, .rop (entC e)), (7, .ptr 3 0), (8, .bool true), (9, .ptr 4 0)] [(3, fdC (⟨f.au, f.es, true, p⟩ : Fd)), (4, fdC (⟨f.au, f.es, false, p⟩ : Fd))] 5 100 rfl rfl rfl (by kernel_rfl) (by kernel_rfl) ?_
  refine wpc_sound (M := MFd) (PL := PL0) (CU := noCut) TTok mixed _ _ _ ?_
  conv => whnf
  refine ⟨fdC (⟨f.au, f.es, false, p⟩ : Fd), by kernel_rfl, ?_⟩
  conv => whnf
  refine ⟨(show pureL _ = true from fdC_pure _), ?_⟩
  conv => whnf
  repeat ((refine ⟨rfl, ?_⟩); conv => whnf)
  refine ⟨_, _, c2, by first | rfl | simp [noRoIf, noRoL, noRoV, noRoL_bys], ?_⟩
  conv => whnf
  repeat ((refine ifB_f ?_); conv => whnf)
  refine Does.tidy [(3, .rop (fdC f)), (4, .rop (prfC p)), (5, .rop (entC e)), (7, .ptr 3 0), (8, .bool true)] [(3, fdC (⟨f.au, f.es, true, p⟩ : Fd)), (4, fdC (⟨f.au, f.es, false, p⟩ : Fd))] 5 100 rfl rfl rfl (by kernel_rfl) (by kernel_rfl) ?_
  refine wpc_sound (M := MFd) (PL := PL0) (CU := noCut) TTok mixed _ _ _ ?_
  conv => whnf
  refine ⟨entC p.b, by kernel_rfl, ?_⟩
  conv => whnf
  refine ⟨entC p.a, by kernel_rfl, ?_⟩
  conv => whnf
  repeat ((refine ⟨(⟨by kernel_rfl, by kernel_rfl, Nat.le_of_ble_eq_true (by kernel_rfl)⟩ : AV.ones _ = true ∧ _ ∧ _), ?_⟩); conv => whnf)
  refine Does.tidy [(3, .rop (fdC f)), (4, .rop (prfC p)), (5, .rop (entC e)), (7, .ptr 3 0), (8, .bool true)] [(3, fdC (⟨f.au, f.es, true, ⟨p.b, p.a⟩⟩ : Fd)), (4, fdC (⟨f.au, f.es, false, p⟩ : Fd))] 5 100 rfl rfl rfl (by kernel_rfl) (by kernel_rfl) ?_
  refine wpc_sound (M := MFd) (PL := PL0) (CU := noCut) TTok mixed _ _ _ ?_
  conv => whnf
  refine ⟨fdC (⟨f.au, f.es, true, ⟨p.b, p.a⟩⟩ : Fd), by kernel_rfl, ?_⟩
  conv => whnf
  refine ⟨(show pureL _ = true from fdC_pure _), ?_⟩
  conv => whnf
  repeat ((refine ⟨rfl, ?_⟩); conv => whnf)
  refine ⟨_, _, c3, by first | rfl | simp [noRoIf, noRoL, noRoV, noRoL_bys], ?_⟩
  conv => whnf
  repeat ((refine ifB_f ?_); conv => whnf)
  refine wpc_sound (M := MFd) (PL := PL0) (CU := noCut) TTok mixed _ _ _ ?_
  conv => whnf
  repeat ((refine ifB_f ?_); conv => whnf)
  refine Does.tidy [(3, .rop (fdC f)), (5, .rop (entC e)), (7, .ptr 3 0)] [(3, fdC (⟨f.au, f.es, true, ⟨p.b, p.a⟩⟩ : Fd)), (4, fdC (⟨f.au, f.es, false, p⟩ : Fd))] 5 100 rfl rfl rfl (by kernel_rfl) (by kernel_rfl) ?_
  refine wpc_sound (M := MFd) (PL := PL0) (CU := noCut) TTok mixed _ _ _ ?_
  conv => whnf
  refine ⟨entC p.a, by kernel_rfl, ?_⟩
  conv => whnf
  refine ⟨entC p.b, by kernel_rfl, ?_⟩
  conv => whnf
  repeat ((refine ⟨(⟨by kernel_rfl, by kernel_rfl, Nat.le_of_ble_eq_true (by kernel_rfl)⟩ : AV.ones _ = true ∧ _ ∧ _), ?_⟩); conv => whnf)
  refine Does.tidy [(3, .rop (fdC f)), (5, .rop (entC e)), (7, .ptr 3 0)] [(3, fdC (⟨f.au, f.es, true, p⟩ : Fd)), (4, fdC (⟨f.au, f.es, false, p⟩ : Fd))] 5 100 rfl rfl rfl (by kernel_rfl) (by kernel_rfl) ?_
  refine wpc_sound (M := MFd) (PL := PL0) (CU := noCut) TTok mixed _ _ _ ?_
  conv => whnf
  repeat ((first | refine ⟨entC_pure _, ?_⟩ | refine ⟨rfl, ?_⟩ | refine ⟨_, rfl, ?_⟩); conv => whnf)
  refine ⟨_, _, te, by first | rfl | simp [noRoIf, noRoL, noRoV, noRoL_bys], ?_⟩
  conv => whnf
  repeat ((first | refine ⟨(⟨by kernel_rfl, by kernel_rfl, Nat.le_of_ble_eq_true (by kernel_rfl)⟩ : AV.ones _ = true ∧ _ ∧ _), ?_⟩ | refine ⟨rfl, ?_⟩); conv => whnf)
  refine Does.tidy [(3, .rop (fdC f)), (7, .ptr 3 0), (10, .ptr 5 0)] [(3, fdC (⟨f.au, f.es, true, p⟩ : Fd)), (4, fdC (⟨f.au, f.es, false, p⟩ : Fd)), (5, entC e)] 6 100 rfl rfl rfl (by kernel_rfl) (by kernel_rfl) ?_
  refine wpc_sound (M := MFd) (PL := PL0) (CU := noCut) TTok mixed _ _ _ ?_
  conv => whnf
  repeat ((first | refine ⟨(⟨by kernel_rfl, by kernel_rfl, Nat.le_of_ble_eq_true (by kernel_rfl)⟩ : AV.ones _ = true ∧ _ ∧ _), ?_⟩ | refine ⟨_, rfl, ?_⟩); conv => whnf)
  refine Does.tidy [(7, .ptr 3 0), (10, .ptr 5 0)] [(3, fdC (⟨f.au, f.es, true, p⟩ : Fd)), (4, fdC (⟨f.au, f.es, false, p⟩ : Fd)), (5, entC (⟨f.au, e.seq, e.prev, e.stamp, e.kind, e.key, e.val, e.sig⟩ : Ent))] 6 100 rfl rfl rfl (by kernel_rfl) (by kernel_rfl) ?_
  refine wpc_sound (M := MFd) (PL := PL0) (CU := noCut) TTok mixed _ _ _ ?_
  have xS : EntS (⟨f.au, e.seq, e.prev, e.stamp, e.kind, e.key, e.val, e.sig⟩ : Ent) := { he with au := of.au }
  have pk := fpush_ok _ _ gS xS
  rw [push_shut (look_shut hr true (by rw [hpr, dt own]; rfl)) (show entR (⟨f.au, e.seq, e.prev, e.stamp, e.kind, e.key, e.val, e.sig⟩ : Ent) = true from her) rfl rfl] at pk
  generalize pushF (⟨f.au, f.es, true, p⟩ : Fd) (⟨f.au, e.seq, e.prev, e.stamp, e.kind, e.key, e.val, e.sig⟩ : Ent) = y at pk
  conv => whnf
  refine ⟨fdC (⟨f.au, f.es, true, p⟩ : Fd), by kernel_rfl, ?_⟩
  conv => whnf
  refine ⟨entC (⟨f.au, e.seq, e.prev, e.stamp, e.kind, e.key, e.val, e.sig⟩ : Ent), by kernel_rfl, ?_⟩
  conv => whnf
  refine ⟨(show pureL _ = true from fdC_pure _), ?_⟩
  conv => whnf
  repeat ((first | refine ⟨entC_pure _, ?_⟩ | refine ⟨rfl, ?_⟩); conv => whnf)
  refine ⟨_, _, pk, by first | rfl | simp [noRoIf, noRoL, noRoV, noRoL_bys], ?_⟩
  conv => whnf
  repeat ((first | refine ⟨(⟨by kernel_rfl, by kernel_rfl, Nat.le_of_ble_eq_true (by kernel_rfl)⟩ : AV.ones _ = true ∧ _ ∧ _), ?_⟩ | refine ⟨rfl, ?_⟩); conv => whnf)
  refine Does.tidy [(12, .int .i64 15)] [(3, fdC (⟨f.au, f.es, true, p⟩ : Fd)), (4, fdC (⟨f.au, f.es, false, p⟩ : Fd)), (5, entC (⟨f.au, e.seq, e.prev, e.stamp, e.kind, e.key, e.val, e.sig⟩ : Ent)), (6, fdC y)] 7 100 rfl rfl rfl (by kernel_rfl) (by kernel_rfl) ?_
  refine wpc_sound (M := MFd) (PL := PL0) (CU := noCut) TTok mixed _ _ _ ?_
  conv => whnf
  repeat ((first | refine ifB_t ?_ | refine ⟨rfl, ?_⟩); conv => whnf)
  refine ⟨_, _, wakes17_ok, by first | rfl | simp [noRoIf, noRoL, noRoV, noRoL_bys], ?_⟩
  conv => whnf
  repeat ((first | refine ifB_t ?_ | refine ⟨rfl, ?_⟩); conv => whnf)
  rfl
 ·rw [df own]
  rw [look_shut hr false (by rw [hpr, df own]; rfl), if_neg (by decide)] at c1
  conv => whnf
  refine Does.tidy [(3, .rop (fdC f)), (4, .rop (prfC p)), (5, .rop (entC e)), (7, .ptr 3 0), (8, .bool false)] [(3, fdC (⟨f.au, f.es, true, p⟩ : Fd))] 4 100 rfl rfl rfl (by kernel_rfl) (by kernel_rfl) ?_
  refine wpc_sound (M := MFd) (PL := PL0) (CU := noCut) TTok mixed _ _ _ ?_
  conv => whnf
  refine ⟨fdC (⟨f.au, f.es, true, p⟩ : Fd), by kernel_rfl, ?_⟩
  conv => whnf
  refine ⟨(show pureL _ = true from fdC_pure _), ?_⟩
  conv => whnf
  repeat ((refine ⟨rfl, ?_⟩); conv => whnf)
  refine ⟨_, _, c1, by first | rfl | simp [noRoIf, noRoL, noRoV, noRoL_bys], ?_⟩
  conv => whnf
  repeat ((first | refine ifB_f ?_ | refine ⟨rfl, ?_⟩ | refine ⟨_, rfl, ?_⟩ | (refine And.intro ?_ ?_; (focus (first | (simp only [pureL, pureV, pureL_bys, Bool.and_true, Bool.and_self]; done) | (simp only [pureL, pureV, pureL_bys, pureL_toks, Bool.and_true, Bool.and_self]; done))))); conv => whnf)
  refine ⟨_, _, c4, by first | rfl | simp [noRoIf, noRoL, noRoV, noRoL_bys], ?_⟩
  conv => whnf
  repeat ((refine ifB_f ?_); conv => whnf)
  refine Does.tidy [(3, .rop (fdC f)), (4, .rop (prfC p)), (5, .rop (entC e)), (7, .ptr 3 0), (8, .bool false)] [(3, fdC (⟨f.au, f.es, true, p⟩ : Fd))] 4 100 rfl rfl rfl (by kernel_rfl) (by kernel_rfl) ?_
  refine wpc_sound (M := MFd) (PL := PL0) (CU := noCut) TTok mixed _ _ _ ?_
  conv => whnf
  refine ⟨fdC (⟨f.au, f.es, true, p⟩ : Fd), by kernel_rfl, ?_⟩
  conv => whnf
  refine ⟨(show pureL _ = true from fdC_pure _), ?_⟩
  conv => whnf
  repeat ((refine ⟨rfl, ?_⟩); conv => whnf)
  refine ⟨_, _, tg, by first | rfl | simp [noRoIf, noRoL, noRoV, noRoL_bys], ?_⟩
  conv => whnf
  repeat ((first | refine ⟨(⟨by kernel_rfl, by kernel_rfl, Nat.le_of_ble_eq_true (by kernel_rfl)⟩ : AV.ones _ = true ∧ _ ∧ _), ?_⟩ | refine ⟨rfl, ?_⟩); conv => whnf)
  refine Does.tidy [(3, .rop (fdC f)), (4, .rop (prfC p)), (5, .rop (entC e)), (7, .ptr 3 0), (8, .bool false), (9, .ptr 4 0)] [(3, fdC (⟨f.au, f.es, true, p⟩ : Fd)), (4, fdC (⟨f.au, f.es, true, p⟩ : Fd))] 5 100 rfl rfl rfl (by kernel_rfl) (by kernel_rfl) ?_
  refine wpc_sound (M := MFd) (PL := PL0) (CU := noCut) TTok mixed _ _ _ ?_
  conv => whnf
  repeat ((refine ⟨(⟨by kernel_rfl, by kernel_rfl, Nat.le_of_ble_eq_true (by kernel_rfl)⟩ : AV.ones _ = true ∧ _ ∧ _), ?_⟩); conv => whnf)
  refine Does.tidy [(3, .rop (fdC f)), (4, .rop (prfC p)), (5, .rop (entC e)), (7, .ptr 3 0), (8, .bool false), (9, .ptr 4 0)] [(3, fdC (⟨f.au, f.es, true, p⟩ : Fd)), (4, fdC (⟨f.au, f.es, false, p⟩ : Fd))] 5 100 rfl rfl rfl (by kernel_rfl) (by kernel_rfl) ?_
  refine wpc_sound (M := MFd) (PL := PL0) (CU := noCut) TTok mixed _ _ _ ?_
  conv => whnf
  refine ⟨fdC (⟨f.au, f.es, false, p⟩ : Fd), by kernel_rfl, ?_⟩
  conv => whnf
  refine ⟨(show pureL _ = true from fdC_pure _), ?_⟩
  conv => whnf
  repeat ((refine ⟨rfl, ?_⟩); conv => whnf)
  refine ⟨_, _, c2, by first | rfl | simp [noRoIf, noRoL, noRoV, noRoL_bys], ?_⟩
  conv => whnf
  repeat ((refine ifB_f ?_); conv => whnf)
  refine Does.tidy [(3, .rop (fdC f)), (4, .rop (prfC p)), (5, .rop (entC e)), (7, .ptr 3 0), (8, .bool false)] [(3, fdC (⟨f.au, f.es, true, p⟩ : Fd)), (4, fdC (⟨f.au, f.es, false, p⟩ : Fd))] 5 100 rfl rfl rfl (by kernel_rfl) (by kernel_rfl) ?_
  refine wpc_sound (M := MFd) (PL := PL0) (CU := noCut) TTok mixed _ _ _ ?_
  conv => whnf
  refine ⟨entC p.b, by kernel_rfl, ?_⟩
  conv => whnf
  refine ⟨entC p.a, by kernel_rfl, ?_⟩
  conv => whnf
  repeat ((refine ⟨(⟨by kernel_rfl, by kernel_rfl, Nat.le_of_ble_eq_true (by kernel_rfl)⟩ : AV.ones _ = true ∧ _ ∧ _), ?_⟩); conv => whnf)
  refine Does.tidy [(3, .rop (fdC f)), (4, .rop (prfC p)), (5, .rop (entC e)), (7, .ptr 3 0), (8, .bool false)] [(3, fdC (⟨f.au, f.es, true, ⟨p.b, p.a⟩⟩ : Fd)), (4, fdC (⟨f.au, f.es, false, p⟩ : Fd))] 5 100 rfl rfl rfl (by kernel_rfl) (by kernel_rfl) ?_
  refine wpc_sound (M := MFd) (PL := PL0) (CU := noCut) TTok mixed _ _ _ ?_
  conv => whnf
  refine ⟨fdC (⟨f.au, f.es, true, ⟨p.b, p.a⟩⟩ : Fd), by kernel_rfl, ?_⟩
  conv => whnf
  refine ⟨(show pureL _ = true from fdC_pure _), ?_⟩
  conv => whnf
  repeat ((refine ⟨rfl, ?_⟩); conv => whnf)
  refine ⟨_, _, c3, by first | rfl | simp [noRoIf, noRoL, noRoV, noRoL_bys], ?_⟩
  conv => whnf
  repeat ((refine ifB_f ?_); conv => whnf)
  refine wpc_sound (M := MFd) (PL := PL0) (CU := noCut) TTok mixed _ _ _ ?_
  conv => whnf
  repeat ((first | refine ifB_t ?_ | refine ⟨rfl, ?_⟩); conv => whnf)
  refine ⟨_, _, wakes17_ok, by first | rfl | simp [noRoIf, noRoL, noRoV, noRoL_bys], ?_⟩
  conv => whnf
  repeat ((refine ⟨rfl, ?_⟩); conv => whnf)
  rfl
end
section
--KR
attribute [local irreducible] ifB fitP Does Weaker
theorem fdC_les {o : Nat → Option Nat} (f : Fd) : lesP o (fdC f) (fdC f) := c32_les ⟨⟨rfl, rfl, ents_pure _⟩, rfl, prfC_les f.pf⟩
theorem fd0_les {o : Nat → Option Nat} : lesP o (fdC fd0) zeroF := wkF_les z32
theorem z32_S : Byt z32 ∧ z32.length = 32 := ⟨fun x hx => by simp only [z32, List.mem_replicate] at hx; omega, rfl⟩
def PLfg : Nat → Bool × Plan := plans [(7, (false, (takesTo [1, 2, 3, 4] (.all [(0, (.all [(5, (takesTo [6, 7, 8] (.all [(9, (.all [(10, (takes [11]))]))]))), (9, (.all [(5, (takesTo [6, 7, 8] (.all [(10, (takes [11]))])))]))])), (9, (.all [(0, (.all [(5, (takesTo [6, 7, 8] (.all [(10, (takes [11]))])))]))]))])))),
 (14, (false, (takesTo [0, 1, 2, 3, 4] (.all [(5, (takesTo [6, 7, 8] (.all [(9, (.all [(10, (takes [11]))]))]))), (9, (.all [(5, (takesTo [6, 7, 8] (.all [(10, (takes [11]))])))]))]))))]
theorem ent_cell {l : List Ent} {j m : Nat} (h : j < l.length) (hm : m = 133 * j) : (List.drop 32 (List.drop m (rowsC entC l)))[0]? = some (.int .i64 l[j].seq) := by rw [rowsC_at entC_length h hm]; rfl
set_option maxRecDepth 20000 in
set_option maxHeartbeats 8000000 in
theorem feedGrows_ok (au : List Int) (l : List Ent) (oa : Byt au ∧ au.length = 32) (ol : ∀ e ∈ l, EntOk e) (hn : l.length ≤ 9223372036854775807) : ACall Tryz.prog 5 [.agg (c32 au []), .ro l.length (rowsC entC l)] (.bool true) [] := by
 have v1 := heavy11_ok l
 have hw := wakes17_ok
 refine ACall.of_does TTok Tryz.func5 rfl Tryz.call5 rfl (wpc_sound (M := MFd) (PL := PL0) (CU := cutAt [100001, 100003, 100004, 100018]) TTok mixed _ _ _ ?_)
 conv => whnf
 repeat ((refine ⟨rfl, ?_⟩); conv => whnf)
 refine Does.freeze 0 (zs := c32 au []) (by kernel_rfl) (Does.tidy [(1, .ro l.length (rowsC entC l)), (2, .rop (c32 au []))] [] 1 112 rfl rfl rfl (by kernel_rfl) (by kernel_rfl) ?_)
 refine wpc_sound (M := MFd) (PL := PL0) (CU := noCut) TTok mixed _ _ _ ?_
 conv => whnf
 repeat ((first | refine ⟨rfl, ?_⟩ | refine ⟨(show pureL (rowsC _ _) = true from by first | exact prfs_pure _ | exact ents_pure _ | exact hds_pure _ | exact lets_pure _), ?_⟩); conv => whnf)
 cases hv : heavyEs l <;> rw [hv] at v1
 case true =>
  refine ⟨_, _, v1, by first | rfl | simp [noRoIf, noRoL, noRoV, noRoL_bys], ?_⟩
  conv => whnf
  repeat ((first | refine ifB_t ?_ | refine ⟨rfl, ?_⟩); conv => whnf)
  rfl
 refine ⟨_, _, v1, by first | rfl | simp [noRoIf, noRoL, noRoV, noRoL_bys], ?_⟩
 conv => whnf
 repeat ((refine ifB_f ?_); conv => whnf)
 have hs : ∀ e ∈ l, EntS e := fun e he => { ol e he with key' := by have := (heavyEs_no hv).2 e he; omega, val' := by have := (heavyEs_no hv).2 e he; omega }
 by_cases h60 : 60 < l.length
 ·conv => whnf
  repeat ((first | (refine ifB_pos (decide_eq_true (by first | omega | rfl | (dsimp only; omega))) ?_) | refine ⟨rfl, ?_⟩); conv => whnf)
  rfl
 conv => whnf
 repeat ((refine ifB_neg (decide_eq_false (by first | omega | rfl | (dsimp only; omega))) ?_); conv => whnf)
 refine wpc_sound (M := MFd) (PL := PL0) (CU := noCut) TTok mixed _ _ _ ?_
 conv => whnf
 repeat ((first | refine ⟨(⟨by kernel_rfl, by kernel_rfl, Nat.le_of_ble_eq_true (by kernel_rfl)⟩ : AV.ones _ = true ∧ _ ∧ _), ?_⟩ | refine ⟨rfl, ?_⟩ | refine ⟨_, rfl, ?_⟩ | refine ⟨⟨rfl, rfl⟩, ?_⟩); conv => whnf)
 refine Does.tidy [(1, .ro l.length (rowsC entC l)), (2, .rop (c32 au [])), (5, .ptr 1 0)] [(1, c32 au (.nil :: .bool false :: (zeroE ++ zeroE)))] 2 112 rfl rfl rfl (by kernel_rfl) (by kernel_rfl) ?_
 refine wpc_sound (M := MFd) (PL := PL0) (CU := noCut) TTok mixed _ _ _ ?_
 conv => whnf
 refine Does.loop (fun g : Nat × Fd => mkSt [(1, .ro l.length (rowsC entC l)), (2, .rop (c32 au [])), (5, .ptr 0 0), (6, .int .i64 g.1)] [(0, fdC g.2)] 1 112)
  (fun g => g.1 ≤ l.length ∧ FdS g.2 ∧ g.2.au = au ∧ g.2.shut = false ∧ g.2.es.length ≤ g.1) (fun g => l.length - g.1) ?_ (0, wkF au) ⟨Nat.zero_le _, wkF_S oa, rfl, rfl, Nat.le_refl _⟩ ?_
 ·rintro ⟨c, f⟩ ⟨hc, hf, hau, hsh, hlen⟩
  dsimp only at hc hf hau hsh hlen ⊢
  refine wpc_sound (M := MFd) (PL := PL0) (CU := cutAt [200007]) TTok mixed _ _ _ ?_
  rcases Nat.lt_or_ge c l.length with c1 | c1
  ·have he := hs _ (List.getElem_mem c1)
   have pk := fpush_ok f l[c] hf he
   have pS : FdS (pushF f l[c]) := by
    unfold pushF
    split
    ·exact push_S hf he (by omega)
    ·exact wkF_S z32_S
   conv => whnf
   repeat ((refine ifB_pos (decide_eq_true (by first | omega | rfl | (dsimp only; omega))) ?_); conv => whnf)
   refine Does.seqCut (fun _ : Unit => mkSt [(1, .ro l.length (rowsC entC l)), (2, .rop (c32 au [])), (5, .ptr 0 0), (6, .int .i64 c), (7, .ptr 1 0), (8, .int .i64 (pushE f l[c]))] [(0, fdC f), (1, fdC (pushF f l[c]))] 2 112) (fun _ => True) ?_ ?_
   ·refine wpc_sound (M := MFd) (PL := PLfg) (CU := noCut) TTok mixed _ _ _ ?_
    conv => whnf
    refine ⟨by kernel_rfl, ?_⟩
    conv => whnf
    repeat ((refine ⟨⟨?_, ?_, ?_⟩, ?_⟩; (focus omega); (focus (first | omega | (simp; done) | (simp; omega))); (focus (first | (rw [prfs_len]; simp; omega) | (rw [ents_len]; simp; omega) | (rw [hds_len]; simp; omega) | (rw [lets_len]; simp; omega)))); conv => whnf)
    refine ⟨roLoad_ok rfl (by rw [List.length_drop, ents_len]; simp; omega), ?_⟩
    conv => whnf
    refine ⟨_, takeN_row entC_length c1 (by simp; omega) rfl, ?_⟩
    conv => whnf
    generalize l[c] = x at pk ⊢
    generalize pushE f x = E at pk ⊢
    generalize pushF f x = y at pk ⊢
    refine ⟨?_, ?_⟩
    ·conv => whnf
     refine ⟨fdC f, by kernel_rfl, ?_⟩
     conv => whnf
     refine ⟨?_, ?_⟩
     ·conv => whnf
      refine ⟨(show pureL _ = true from fdC_pure _), ?_⟩
      conv => whnf
      repeat ((first | refine ⟨entC_pure _, ?_⟩ | refine ⟨rfl, ?_⟩); conv => whnf)
      refine ⟨_, _, pk, by first | rfl | simp [noRoIf, noRoL, noRoV, noRoL_bys], ?_⟩
      conv => whnf
      repeat ((first | refine ⟨(⟨by kernel_rfl, by kernel_rfl, Nat.le_of_ble_eq_true (by kernel_rfl)⟩ : AV.ones _ = true ∧ _ ∧ _), ?_⟩ | refine ⟨rfl, ?_⟩); conv => whnf)
      exact ⟨(), trivial, Weaker.tidy _ [(0, fdC f), (1, fdC y)] 2 112 rfl rfl rfl (by kernel_rfl) (by kernel_rfl)⟩
     ·conv => whnf
      repeat ((refine ⟨rfl, ?_⟩); conv => whnf)
      refine ⟨(show pureL _ = true from fdC_pure _), ?_⟩
      conv => whnf
      repeat ((first | refine ⟨entC_pure _, ?_⟩ | refine ⟨rfl, ?_⟩); conv => whnf)
      refine ⟨_, _, pk, by first | rfl | simp [noRoIf, noRoL, noRoV, noRoL_bys], ?_⟩
      conv => whnf
      repeat ((refine ⟨(⟨by kernel_rfl, by kernel_rfl, Nat.le_of_ble_eq_true (by kernel_rfl)⟩ : AV.ones _ = true ∧ _ ∧ _), ?_⟩); conv => whnf)
      exact ⟨(), trivial, Weaker.tidy _ [(0, fdC f), (1, fdC y)] 2 112 rfl rfl rfl (by kernel_rfl) (by kernel_rfl)⟩
    ·conv => whnf
     repeat ((refine ⟨rfl, ?_⟩); conv => whnf)
     refine ⟨fdC f, by kernel_rfl, ?_⟩
     conv => whnf
     refine ⟨(show pureL _ = true from fdC_pure _), ?_⟩
     conv => whnf
     repeat ((first | refine ⟨entC_pure _, ?_⟩ | refine ⟨rfl, ?_⟩); conv => whnf)
     refine ⟨_, _, pk, by first | rfl | simp [noRoIf, noRoL, noRoV, noRoL_bys], ?_⟩
     conv => whnf
     repeat ((refine ⟨(⟨by kernel_rfl, by kernel_rfl, Nat.le_of_ble_eq_true (by kernel_rfl)⟩ : AV.ones _ = true ∧ _ ∧ _), ?_⟩); conv => whnf)
     exact ⟨(), trivial, Weaker.tidy _ [(0, fdC f), (1, fdC y)] 2 112 rfl rfl rfl (by kernel_rfl) (by kernel_rfl)⟩
   intro _ _
   refine Does.freeze 1 (zs := fdC (pushF f l[c])) (by kernel_rfl) (Does.tidy [(1, .ro l.length (rowsC entC l)), (2, .rop (c32 au [])), (5, .ptr 0 0), (6, .int .i64 c), (7, .rop (fdC (pushF f l[c]))), (8, .int .i64 (pushE f l[c]))] [(0, fdC f)] 2 112 rfl rfl rfl (by kernel_rfl) (by kernel_rfl) ?_)
   refine wpc_sound (M := MFd) (PL := PL0) (CU := cutAt [100012, 200014]) TTok mixed _ _ _ ?_
   by_cases h0 : pushE f l[c] = 0
   case neg =>
    rw [show pushF f l[c] = fd0 from if_neg h0]
    have kf := ACall.les (kfeed_ok fd0 fd0 (wkF_S z32_S) (wkF_S z32_S)) (xs := [.agg (fdC fd0), .agg zeroF]) (by simp [pureL, pureV, fdC_pure]; rfl) (by simp only [pureL, pureV, fdC_pure, Bool.and_self]) ⟨fdC_les fd0, fd0_les, trivial⟩
    rw [dt rfl] at kf
    generalize pushE f l[c] = E at h0 ⊢
    conv => whnf
    repeat ((first | (refine ifB_pos (decide_eq_true (by first | omega | rfl | (dsimp only; omega))) ?_) | refine ⟨rfl, ?_⟩ | refine ⟨_, rfl, ?_⟩); conv => whnf)
    refine ⟨_, _, kf, by first | rfl | simp [noRoIf, noRoL, noRoV, noRoL_bys], ?_⟩
    conv => whnf
    repeat ((first | refine ifB_f ?_ | (refine fit_i64 ⟨by first | omega | rfl | (dsimp only; omega), by first | omega | rfl | (dsimp only; omega)⟩ ?_)); conv => whnf)
    exact ⟨(c + 1, f), ⟨by dsimp only; omega, hf, hau, hsh, by dsimp only; omega⟩, by dsimp only; omega, Weaker.trans (Weaker.tidy [(1, .ro l.length (rowsC entC l)), (2, .rop (c32 au [])), (5, .ptr 0 0), (6, .int .i64 ((c : Int) + 1))] [(0, fdC f)] 2 112 rfl rfl rfl (by kernel_rfl) (by kernel_rfl)) (weaker_of [(0, 0)] rfl rfl ⟨⟨rfl, rfl, ents_pure _⟩, ⟨rfl, by simp [c32_pure, pureL]⟩, ⟨rfl, rfl⟩, ⟨rfl, rfl⟩, trivial⟩ ⟨fdC_les _, trivial⟩)⟩
   obtain ⟨p1, p2, p3, p4⟩ := push_ok h0
   have q1 := fcheck_ok _ pS
   have q5 := fpush_ok (pushF f l[c]) l[c] pS he
   have hP : pushF f l[c] = ⟨f.au, f.es ++ [l[c]], f.shut, f.pf⟩ := if_pos h0
   rw [hP] at q1 q5 pS ⊢
   rw [push_look h0, if_pos rfl] at q1
   rw [push_twice h0] at q5
   rw [h0]
   have q2 := kents_ok f.es f.es hf.es hf.es hf.el hf.el
   rw [dt rfl] at q2
   have q3 := kent_ok l[c] l[c] he he
   rw [dt rfl] at q3
   have hcut : cutB (rowsC entC (f.es ++ [l[c]])) none (some (f.es.length : Int)) 133 = rowsC entC f.es := by rw [cutE_to, List.take_left']; rfl
   have hget : (f.es ++ [l[c]])[f.es.length]'(by simp) = l[c] := by simp
   have hsq : l[c].seq = (f.es.length : Int) + 1 := by
    unfold okE at p3
    simp only [Bool.and_eq_true, decide_eq_true_eq] at p3
    exact p3.1.2
   obtain ⟨F, hF⟩ : ∃ F : Fd, (⟨f.au, f.es ++ [l[c]], f.shut, f.pf⟩ : Fd) = F := ⟨_, rfl⟩
   conv => whnf
   repeat ((first | refine ifB_f ?_ | refine ⟨_, rfl, ?_⟩); conv => whnf)
   refine Does.tidy [(1, .ro l.length (rowsC entC l)), (2, .rop (c32 au [])), (5, .ptr 0 0), (6, .int .i64 c), (7, .rop (fdC ⟨f.au, f.es ++ [l[c]], f.shut, f.pf⟩)), (9, .int .i64 f.es.length)] [(0, fdC f)] 2 112 rfl rfl rfl (by kernel_rfl) (by kernel_rfl) ?_
   refine Does.quiet TTok mixed (M := MFd) [] [0, 5, 13, 17, 23, 26, 30, 36, 37, 42, 49] (takesTo [0] (.all [(1, (takesTo [2, 3, 4, 5, 6, 7, 8, 9, 10, 11, 12, 13, 14, 15, 16, 17] (.all [(18, (takesTo [19, 20, 21, 22, 23, 24, 25, 26, 27, 28, 29, 30] (.all [(31, (takes [32, 33, 34, 35, 36, 37, 38, 39, 40, 41, 42, 43, 44, 45, 46, 47, 48, 49, 50, 51, 52, 53]))])))])))])) (by kernel_rfl) ?_
   conv => whnf
   repeat ((refine ⟨_, rfl, ?_⟩); conv => whnf)
   refine ⟨(show pureL _ = true from fdC_pure _), ?_⟩
   conv => whnf
   repeat ((refine ⟨rfl, ?_⟩); conv => whnf)
   refine ⟨_, _, q1, by first | rfl | simp [noRoIf, noRoL, noRoV, noRoL_bys], ?_⟩
   conv => whnf
   repeat ((first | refine ifB_f ?_ | (refine fit_i64 ⟨by first | omega | rfl | (dsimp only; omega), by first | omega | rfl | (dsimp only; omega)⟩ ?_) | refine ⟨_, rfl, ?_⟩ | (refine ifB_neg (decide_eq_false (by first | (simp; done) | (simp; omega))) ?_)); conv => whnf)
   refine ⟨⟨by rw [ents_len, Nat.mul_comm], show (0 : Int) ≤ f.es.length ∧ (f.es.length : Int) ≤ (f.es ++ [l[c]]).length from ⟨by omega, by simp; omega⟩⟩, ?_⟩
   conv => whnf
   repeat ((first | refine ifB_f ?_ | refine ⟨_, rfl, ?_⟩); conv => whnf)
   refine ⟨(show pureL (cutB (rowsC entC (f.es ++ [l[c]])) none (some (f.es.length : Int)) 133) = true from by rw [hcut]; exact ents_pure _), ?_⟩
   conv => whnf
   repeat ((first | refine ⟨rfl, ?_⟩ | refine ⟨(show pureL (rowsC _ _) = true from by first | exact prfs_pure _ | exact ents_pure _ | exact hds_pure _ | exact lets_pure _), ?_⟩); conv => whnf)
   refine ⟨_, _, (q2.arg1 rfl hcut), by first | rfl | simp [noRoIf, noRoL, noRoV, noRoL_bys], ?_⟩
   conv => whnf
   repeat ((first | refine ifB_f ?_ | refine ⟨_, rfl, ?_⟩ | (refine ⟨⟨?_, ?_, ?_⟩, ?_⟩; (focus omega); (focus (first | omega | (simp; done) | (simp; omega))); (focus (first | (rw [prfs_len]; simp; omega) | (rw [ents_len]; simp; omega) | (rw [hds_len]; simp; omega) | (rw [lets_len]; simp; omega))))); conv => whnf)
   refine ⟨_, (takeN_row entC_length (l := f.es ++ [l[c]]) (j := f.es.length) (by simp) (by simp; omega) rfl).trans (congrArg (fun e => some (entC e)) hget), ?_⟩
   conv => whnf
   repeat ((first | refine ifB_f ?_ | (refine ⟨⟨?_, ?_, ?_⟩, ?_⟩; (focus omega); (focus (first | omega | (simp; done) | (simp; omega))); (focus (first | (rw [prfs_len]; simp; omega) | (rw [ents_len]; simp; omega) | (rw [hds_len]; simp; omega) | (rw [lets_len]; simp; omega))))); conv => whnf)
   refine ⟨_, takeN_row entC_length c1 (by simp; omega) rfl, ?_⟩
   conv => whnf
   repeat ((first | refine ifB_f ?_ | refine ⟨entC_pure _, ?_⟩ | refine ⟨rfl, ?_⟩); conv => whnf)
   refine ⟨_, _, q3, by first | rfl | simp [noRoIf, noRoL, noRoV, noRoL_bys], ?_⟩
   conv => whnf
   repeat ((first | refine ifB_f ?_ | refine ⟨_, rfl, ?_⟩); conv => whnf)
   refine ⟨f.au, au, ⟨rfl, c32_map hf.au.2, c32_map oa.2, hf.au.2, oa.2⟩, ?_⟩
   rw [dt hau]
   conv => whnf
   repeat ((first | refine ifB_f ?_ | refine ⟨_, rfl, ?_⟩); conv => whnf)
   refine ifB_neg hsh ?_
   conv => whnf
   repeat ((first | refine ifB_f ?_ | (refine ⟨⟨?_, ?_, ?_⟩, ?_⟩; (focus omega); (focus (first | omega | (simp; done) | (simp; omega))); (focus (first | (rw [prfs_len]; simp; omega) | (rw [ents_len]; simp; omega) | (rw [hds_len]; simp; omega) | (rw [lets_len]; simp; omega))))); conv => whnf)
   refine ⟨_, ent_cell c1 (by simp; omega), ?_⟩
   conv => whnf
   repeat ((first | refine ifB_f ?_ | (refine ifB_neg (decide_eq_false (by first | omega | rfl | (dsimp only; omega))) ?_) | (refine fit_i64 ⟨by first | omega | rfl | (dsimp only; omega), by first | omega | rfl | (dsimp only; omega)⟩ ?_)); conv => whnf)
   have eS : F.es.length = f.es.length + 1 := by rw [← hF]; simp
   have eA : F.au = au := by rw [← hF]; exact hau
   have eH : F.shut = false := by rw [← hF]; exact hsh
   rw [hF] at q5 pS ⊢
   clear hF hget hcut q1 q2 q3
   generalize pushF F l[c] = y at q5 ⊢
   refine Does.seqCut (fun _ : Unit => mkSt [(1, .ro l.length (rowsC entC l)), (2, .rop (c32 au [])), (5, .ptr 0 0), (6, .int .i64 c), (7, .rop (fdC F)), (11, .int .i64 11)] [(0, fdC f), (2, fdC y)] 3 112) (fun _ => True) ?_ ?_
   ·refine wpc_sound (M := MFd) (PL := PLfg) (CU := noCut) TTok mixed _ _ _ ?_
    conv => whnf
    refine ⟨by kernel_rfl, ?_⟩
    conv => whnf
    repeat ((first | refine ⟨rfl, ?_⟩ | refine ⟨_, rfl, ?_⟩ | (refine ⟨⟨?_, ?_, ?_⟩, ?_⟩; (focus omega); (focus (first | omega | (simp; done) | (simp; omega))); (focus (first | (rw [prfs_len]; simp; omega) | (rw [ents_len]; simp; omega) | (rw [hds_len]; simp; omega) | (rw [lets_len]; simp; omega))))); conv => whnf)
    refine ⟨roLoad_ok rfl (by rw [List.length_drop, ents_len]; simp; omega), ?_⟩
    conv => whnf
    refine ⟨_, takeN_row entC_length c1 (by simp; omega) rfl, ?_⟩
    conv => whnf
    generalize l[c] = x at q5 ⊢
    refine ⟨?_, ?_⟩
    ·conv => whnf
     refine ⟨(show pureL _ = true from fdC_pure _), ?_⟩
     conv => whnf
     repeat ((first | refine ⟨entC_pure _, ?_⟩ | refine ⟨rfl, ?_⟩); conv => whnf)
     refine ⟨_, _, q5, by first | rfl | simp [noRoIf, noRoL, noRoV, noRoL_bys], ?_⟩
     conv => whnf
     repeat ((first | refine ⟨(⟨by kernel_rfl, by kernel_rfl, Nat.le_of_ble_eq_true (by kernel_rfl)⟩ : AV.ones _ = true ∧ _ ∧ _), ?_⟩ | refine ⟨rfl, ?_⟩); conv => whnf)
     exact ⟨(), trivial, Weaker.tidy _ [(0, fdC f), (2, fdC y)] 3 112 rfl rfl rfl (by kernel_rfl) (by kernel_rfl)⟩
    ·conv => whnf
     repeat ((refine ⟨rfl, ?_⟩); conv => whnf)
     refine ⟨(show pureL _ = true from fdC_pure _), ?_⟩
     conv => whnf
     repeat ((first | refine ⟨entC_pure _, ?_⟩ | refine ⟨rfl, ?_⟩); conv => whnf)
     refine ⟨_, _, q5, by first | rfl | simp [noRoIf, noRoL, noRoV, noRoL_bys], ?_⟩
     conv => whnf
     repeat ((refine ⟨(⟨by kernel_rfl, by kernel_rfl, Nat.le_of_ble_eq_true (by kernel_rfl)⟩ : AV.ones _ = true ∧ _ ∧ _), ?_⟩); conv => whnf)
     exact ⟨(), trivial, Weaker.tidy _ [(0, fdC f), (2, fdC y)] 3 112 rfl rfl rfl (by kernel_rfl) (by kernel_rfl)⟩
   intro _ _
   refine wpc_sound (M := MFd) (PL := PLfg) (CU := noCut) TTok mixed _ _ _ ?_
   conv => whnf
   repeat ((first | refine ifB_f ?_ | (refine fit_i64 ⟨by first | omega | rfl | (dsimp only; omega), by first | omega | rfl | (dsimp only; omega)⟩ ?_) | refine ⟨(⟨by kernel_rfl, by kernel_rfl, Nat.le_of_ble_eq_true (by kernel_rfl)⟩ : AV.ones _ = true ∧ _ ∧ _), ?_⟩ | refine ⟨_, rfl, ?_⟩); conv => whnf)
   exact ⟨(c + 1, F), ⟨by dsimp only; omega, pS, eA, eH, by dsimp only; omega⟩, by dsimp only; omega, Weaker.trans (Weaker.tidy [(1, .ro l.length (rowsC entC l)), (2, .rop (c32 au [])), (5, .ptr 0 0), (6, .int .i64 ((c : Int) + 1))] [(0, fdC F), (2, fdC y)] 3 112 rfl rfl rfl (by kernel_rfl) (by kernel_rfl)) (weaker_of [(0, 0)] rfl rfl ⟨⟨rfl, rfl, ents_pure _⟩, ⟨rfl, by simp [c32_pure, pureL]⟩, ⟨rfl, rfl⟩, ⟨rfl, rfl⟩, trivial⟩ ⟨fdC_les _, trivial⟩)⟩
  ·conv => whnf
   repeat ((refine ifB_neg (decide_eq_false (by first | omega | rfl | (dsimp only; omega))) ?_); conv => whnf)
   refine wpc_sound (M := MFd) (PL := PL0) (CU := noCut) TTok mixed _ _ _ ?_
   conv => whnf
   repeat ((refine ⟨rfl, ?_⟩); conv => whnf)
   refine ⟨_, _, hw, by first | rfl | simp [noRoIf, noRoL, noRoV, noRoL_bys], ?_⟩
   conv => whnf
   repeat ((refine ⟨rfl, ?_⟩); conv => whnf)
   rfl
 ·exact weaker_of [(0, 1)] rfl rfl ⟨⟨rfl, rfl, ents_pure _⟩, ⟨rfl, by simp [c32_pure, pureL]⟩, ⟨rfl, rfl⟩, ⟨rfl, rfl⟩, trivial⟩ ⟨wkF_les au, trivial⟩
end
section

theorem ents_of_ty {n : Nat} {xs : List AV} (h : TyL TT (n + 5) 52 xs) : ∃ l : List Ent, xs = [.ro l.length (rowsC entC l)] ∧ ((∀ e ∈ l, EntOk e) ∧ l.length ≤ 9223372036854775807) := by
 obtain ⟨es, rfl, hl, he⟩ := h
 obtain ⟨l, h1, h2, h3⟩ := rows_of_ty (fun y h => ent_of_ty h) es he
 exact ⟨l, by simp [h1, h2], h3, by omega⟩
theorem feedGrows_row (au : List Int) (l : List Ent) (oa : Byt au ∧ au.length = 32) (ol : (∀ e ∈ l, EntOk e) ∧ l.length ≤ 9223372036854775807) : ACall Tryz.prog 5 [.agg (c32 au []), .ro l.length (rowsC entC l)] (.bool true) [] :=
 feedGrows_ok au l oa ol.1 ol.2
end
end Go.Proofs.YtbkclacjamlebaaGreatDoor.Abs
