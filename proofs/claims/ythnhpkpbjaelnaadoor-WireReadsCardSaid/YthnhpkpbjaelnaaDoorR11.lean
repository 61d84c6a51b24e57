/- Texts EM to FM1, merged. -/
import Derived.Test.YthnhpkpbjaelnaaDoorR10
set_option linter.unusedVariables false
set_option linter.unusedSimpArgs false
namespace Go.Proofs.YthnhpkpbjaelnaaDoor.Abs
open Go
section
--KR
attribute [local irreducible] ifB fitP Does Weaker
theorem rNext_len (k : Int) (r : Rw) : (rNext k r).2.l.length ≤ r.l.length := by
 obtain ⟨l, bad⟩ := r
 unfold rNext
 split
 ·exact Nat.le_refl _
 ·cases l with
  | nil => exact Nat.le_refl _
  | cons t q => dsimp only; split <;> simp
theorem rNext_use (k : Int) (r : Rw) (h : (rNext k r).1.n ≠ 0) : (rNext k r).2.l.length + 1 = r.l.length := by
 obtain ⟨l, bad⟩ := r
 unfold rNext at h ⊢
 split at h
 ·exact absurd rfl h
 ·rename_i hb
  rw [if_neg hb]
  cases l with
  | nil => exact absurd rfl h
  | cons t q =>
   dsimp only at h ⊢
   split at h
   ·rename_i hk; rw [if_pos hk]; simp
   ·exact absurd rfl h
theorem rArr_len' (m : Nat) (r : Rw) : (rArr m r).2.l.length ≤ r.l.length := by
 unfold rArr
 split
 ·exact rNext_len 3 r
 ·exact rNext_len 3 r
def rdHd (r : Rw) : Hd × Rw :=
 match rArr 32 r with
 | (au, r2) => match rNext 1 r2 with
  | (n, r3) => match rArr 32 r3 with
   | (id, r4) => match rNext 1 r4 with
    | (s, r5) => (⟨au, n.n, id, decide (s.n = 1)⟩, ⟨r5.l, r5.bad || decide (1 < s.n)⟩)
def frLoop : Nat → Rw → List Hd → List Hd × Rw
 | 0, r, hs => (hs, r)
 | k + 1, r, hs => if r.bad = true then (hs, r) else if (rNext 5 r).1.n ≠ 4 then (hs, ⟨(rNext 5 r).2.l, true⟩) else frLoop k (rdHd (rNext 5 r).2).2 (hs ++ [(rdHd (rNext 5 r).2).1])
theorem frLoop_z (r : Rw) (hs : List Hd) : frLoop 0 r hs = (hs, r) := rfl
theorem frLoop_s (k : Nat) (r : Rw) (hs : List Hd) : frLoop (k + 1) r hs = if r.bad = true then (hs, r) else if (rNext 5 r).1.n ≠ 4 then (hs, ⟨(rNext 5 r).2.l, true⟩) else frLoop k (rdHd (rNext 5 r).2).2 (hs ++ [(rdHd (rNext 5 r).2).1]) := rfl
theorem rdHd_ok {r : Rw} (h : RwOk r) : HdS (rdHd r).1 ∧ RwOk (rdHd r).2 ∧ (rdHd r).2.l.length ≤ r.l.length := by
 unfold rdHd
 have k2 := rArr_rok h 32
 have l2 := rArr_len' 32 r
 generalize rArr 32 r = q at k2 l2 ⊢
 obtain ⟨au, r2⟩ := q
 dsimp only at k2 l2 ⊢
 have k3 := rNext_rok k2.1 1
 have l3 := rNext_len 1 r2
 generalize rNext 1 r2 = q at k3 l3 ⊢
 obtain ⟨n, r3⟩ := q
 dsimp only at k3 l3 ⊢
 have k4 := rArr_rok k3.1 32
 have l4 := rArr_len' 32 r3
 generalize rArr 32 r3 = q at k4 l4 ⊢
 obtain ⟨id, r4⟩ := q
 dsimp only at k4 l4 ⊢
 have k5 := rNext_rok k4.1 1
 have l5 := rNext_len 1 r4
 generalize rNext 1 r4 = q at k5 l5 ⊢
 obtain ⟨s, r5⟩ := q
 dsimp only at k5 l5 ⊢
 exact ⟨⟨k2.2, k3.2.1.2.1, k4.2⟩, k5.1, by omega⟩
def rdFr (r : Rw) : Msg × Rw :=
 match rNext 1 r with
 | (f, r1) => match rNext 1 r1 with
  | (t, r2) => match rNext 5 r2 with
   | (n, r3) => (⟨1, f.n, t.n, (frLoop n.n.toNat r3 []).1, [], []⟩, (frLoop n.n.toNat r3 []).2)
def msgV (k f t : Int) (h p e : AV) : List AV := [.int .i64 k, .int .i64 f, .int .i64 t, h, p, e]
set_option maxHeartbeats 2000000 in
theorem frontier_ok (r : Rw) (hr : RwOk r) (hl : r.l.length ≤ 1000000) : ACall Tryd.prog 47 [.ref (rowC r)] (.agg (msgC (rdFr r).1)) [.ref (rowC (rdFr r).2)] := by
 unfold rdFr
 have h1 := rnum_ok r
 have k1 := rNext_rok hr 1
 have l1 := rNext_len 1 r
 generalize rNext 1 r = q at h1 k1 l1 ⊢
 obtain ⟨f, r1⟩ := q
 dsimp only at h1 k1 l1 ⊢
 have h2 := rnum_ok r1
 have k2 := rNext_rok k1.1 1
 have l2 := rNext_len 1 r1
 generalize rNext 1 r1 = q at h2 k2 l2 ⊢
 obtain ⟨t, r2⟩ := q
 dsimp only at h2 k2 l2 ⊢
 have h3 := rlist_ok r2
 have k3 := rNext_rok k2.1 5
 have l3 := rNext_len 5 r2
 generalize rNext 5 r2 = q at h3 k3 l3 ⊢
 obtain ⟨n, r3⟩ := q
 dsimp only at h3 k3 l3 ⊢
 refine ACall.of_does TTok Tryd.func47 rfl Tryd.call47 rfl (wpc_sound (M := MW) (PL := PL0) (CU := cutAt [100012]) TTok mixed _ _ _ ?_)
 conv => whnf
 repeat ((first | refine ⟨rfl, ?_⟩ | (refine And.intro ?_ ?_; (focus (first | (simp only [pureL, pureV, pureL_bys, Bool.and_true, Bool.and_self]; done) | (simp only [pureL, pureV, pureL_bys, pureL_toks, Bool.and_true, Bool.and_self]; done))))); conv => whnf)
 refine ⟨_, _, h1, by first | rfl | simp [noRoIf, noRoL, noRoV, noRoL_bys], ?_⟩
 conv => whnf
 repeat ((first | refine ⟨rfl, ?_⟩ | (refine And.intro ?_ ?_; (focus (first | (simp only [pureL, pureV, pureL_bys, Bool.and_true, Bool.and_self]; done) | (simp only [pureL, pureV, pureL_bys, pureL_toks, Bool.and_true, Bool.and_self]; done))))); conv => whnf)
 refine ⟨_, _, h2, by first | rfl | simp [noRoIf, noRoL, noRoV, noRoL_bys], ?_⟩
 conv => whnf
 repeat ((first | refine ⟨(⟨by kernel_rfl, by kernel_rfl, Nat.le_of_ble_eq_true (by kernel_rfl)⟩ : AV.ones _ = true ∧ _ ∧ _), ?_⟩ | refine ⟨rfl, ?_⟩ | (refine And.intro ?_ ?_; (focus (first | (simp only [pureL, pureV, pureL_bys, Bool.and_true, Bool.and_self]; done) | (simp only [pureL, pureV, pureL_bys, pureL_toks, Bool.and_true, Bool.and_self]; done))))); conv => whnf)
 refine ⟨_, _, h3, by first | rfl | simp [noRoIf, noRoL, noRoV, noRoL_bys], ?_⟩
 conv => whnf
 refine Does.loop (fun g : Int × Rw × List Hd => mkSt [(0, .ptr 0 0), (2, .ptr 1 0), (3, .ptr 2 0), (4, .int .i64 g.1)] [(0, rowC g.2.1), (1, msgV 0 0 0 .nil .nil .nil), (2, msgV 1 f.n t.n (.sl 3 0 g.2.2.length 66 false) .nil .nil), (3, rowsC hdC g.2.2)] 4 61)
  (fun g => RwOk g.2.1 ∧ g.2.2.length + g.2.1.l.length ≤ 1000000 ∧ (∀ h ∈ g.2.2, HdS h) ∧ (g.1 < 9223372036854775808 ∧ -9223372036854775808 ≤ g.1) ∧ frLoop g.1.toNat g.2.1 g.2.2 = frLoop n.n.toNat r3 []) (fun g => g.1.toNat) ?_ (n.n, r3, []) ⟨k3.1, by simp; omega, fun h hh => absurd hh (List.not_mem_nil), ⟨k3.2.1.2.1.2, k3.2.1.2.1.1⟩, rfl⟩ ?_
 ·rintro ⟨c, r, hs⟩ ⟨i1, i2, i3, i5, i4⟩
  dsimp only at i1 i2 i3 i4 i5 ⊢
  clear h1 h2 h3
  by_cases c1 : c ≤ 0
  ·rw [show c.toNat = 0 by omega] at i4
   rw [frLoop_z] at i4
   rw [← i4]
   refine wpc_sound (M := MW) (PL := PL0) (CU := noCut) TTok mixed _ _ _ ?_
   conv => whnf
   repeat ((first | refine ifB_f ?_ | (refine ifB_neg (decide_eq_false (by first | omega | rfl | (dsimp only; omega))) ?_)); conv => whnf)
   refine Does.freeze 3 rfl (Does.tidy [(2, .ptr 1 0), (3, .ptr 2 0)] [(0, rowC (r)), (1, msgV 0 0 0 .nil .nil .nil), (2, msgV 1 f.n t.n (.ro hs.length (List.take (hs.length * 66) (List.drop 0 (rowsC hdC hs)))) .nil .nil)] 4 61 rfl rfl rfl (by kernel_rfl) (by kernel_rfl) ?_)
   rw [rowsC_whole hdC_length]
   refine wpc_sound (M := MW) (PL := PL0) (CU := noCut) TTok mixed _ _ _ ?_
   conv => whnf
   repeat ((first | refine ⟨(⟨by kernel_rfl, by kernel_rfl, Nat.le_of_ble_eq_true (by kernel_rfl)⟩ : AV.ones _ = true ∧ _ ∧ _), ?_⟩ | refine ⟨rfl, ?_⟩ | refine ⟨_, rfl, ?_⟩ | refine ⟨⟨rfl, rfl⟩, ?_⟩ | (refine ⟨⟨rfl, rfl, ?_⟩, ?_⟩; (focus (first | assumption | exact pureL_bys _ | exact pureL_toks _)))); conv => whnf)
   refine ⟨⟨rfl, rfl, hds_pure _⟩, ?_⟩
   conv => whnf
   repeat ((refine ⟨⟨rfl, rfl⟩, ?_⟩); conv => whnf)
   rfl
  obtain ⟨k, hk⟩ : ∃ k, c.toNat = k + 1 := ⟨c.toNat - 1, by omega⟩
  rw [hk, frLoop_s] at i4
  cases c2 : r.bad
  ·rw [if_neg (by rw [c2]; simp)] at i4
   have h4 := rlist_ok r
   have k4 := rNext_rok i1 5
   have l4 := rNext_len 5 r
   have u4 := rNext_use 5 r
   generalize rNext 5 r = q at h4 k4 l4 u4 i4 ⊢
   obtain ⟨li, ra⟩ := q
   dsimp only at h4 k4 l4 u4 i4 ⊢
   by_cases c3 : li.n ≠ 4
   ·rw [if_pos c3] at i4
    rw [← i4]
    refine wpc_sound (M := MW) (PL := PL0) (CU := noCut) TTok mixed _ _ _ ?_
    conv => whnf
    repeat ((first | refine ifB_t ?_ | (refine ifB_pos (decide_eq_true (by first | omega | rfl | (dsimp only; omega))) ?_) | refine ⟨_, rfl, ?_⟩); conv => whnf)
    refine ifB_pos (by rw [c2]; rfl) ?_
    conv => whnf
    repeat ((first | refine ⟨rfl, ?_⟩ | (refine And.intro ?_ ?_; (focus (first | (simp only [pureL, pureV, pureL_bys, Bool.and_true, Bool.and_self]; done) | (simp only [pureL, pureV, pureL_bys, pureL_toks, Bool.and_true, Bool.and_self]; done))))); conv => whnf)
    refine ⟨_, _, h4, by first | rfl | simp [noRoIf, noRoL, noRoV, noRoL_bys], ?_⟩
    conv => whnf
    repeat ((first | (refine ifB_pos (decide_eq_true (by first | omega | rfl | (dsimp only; omega))) ?_) | refine ⟨(⟨by kernel_rfl, by kernel_rfl, Nat.le_of_ble_eq_true (by kernel_rfl)⟩ : AV.ones _ = true ∧ _ ∧ _), ?_⟩); conv => whnf)
    refine Does.freeze 3 rfl (Does.tidy [(2, .ptr 1 0), (3, .ptr 2 0)] [(0, rowC (⟨ra.l, true⟩)), (1, msgV 0 0 0 .nil .nil .nil), (2, msgV 1 f.n t.n (.ro hs.length (List.take (hs.length * 66) (List.drop 0 (rowsC hdC hs)))) .nil .nil)] 4 61 rfl rfl rfl (by kernel_rfl) (by kernel_rfl) ?_)
    rw [rowsC_whole hdC_length]
    refine wpc_sound (M := MW) (PL := PL0) (CU := noCut) TTok mixed _ _ _ ?_
    conv => whnf
    repeat ((first | refine ⟨(⟨by kernel_rfl, by kernel_rfl, Nat.le_of_ble_eq_true (by kernel_rfl)⟩ : AV.ones _ = true ∧ _ ∧ _), ?_⟩ | refine ⟨rfl, ?_⟩ | refine ⟨_, rfl, ?_⟩ | refine ⟨⟨rfl, rfl⟩, ?_⟩ | (refine ⟨⟨rfl, rfl, ?_⟩, ?_⟩; (focus (first | assumption | exact pureL_bys _ | exact pureL_toks _)))); conv => whnf)
    refine ⟨⟨rfl, rfl, hds_pure _⟩, ?_⟩
    conv => whnf
    repeat ((refine ⟨⟨rfl, rfl⟩, ?_⟩); conv => whnf)
    rfl
   rw [if_neg c3] at i4
   have hd := rdHd_ok k4.1
   refine wpc_sound (M := MW) (PL := PL0) (CU := cutAt [100007, 100008, 100011]) TTok mixed _ _ _ ?_
   conv => whnf
   repeat ((first | refine ifB_t ?_ | (refine ifB_pos (decide_eq_true (by first | omega | rfl | (dsimp only; omega))) ?_) | refine ⟨_, rfl, ?_⟩); conv => whnf)
   refine ifB_pos (by rw [c2]; rfl) ?_
   conv => whnf
   repeat ((first | refine ⟨rfl, ?_⟩ | (refine And.intro ?_ ?_; (focus (first | (simp only [pureL, pureV, pureL_bys, Bool.and_true, Bool.and_self]; done) | (simp only [pureL, pureV, pureL_bys, pureL_toks, Bool.and_true, Bool.and_self]; done))))); conv => whnf)
   refine ⟨_, _, h4, by first | rfl | simp [noRoIf, noRoL, noRoV, noRoL_bys], ?_⟩
   conv => whnf
   repeat ((refine ifB_neg (decide_eq_false (by first | omega | rfl | (dsimp only; omega))) ?_); conv => whnf)
   refine Does.tidy [(0, .ptr 0 0), (2, .ptr 1 0), (3, .ptr 2 0), (4, .int .i64 c)] [(0, rowC ra), (1, msgV 0 0 0 .nil .nil .nil), (2, msgV 1 f.n t.n (.sl 3 0 hs.length 66 false) .nil .nil), (3, rowsC hdC hs)] 4 61 rfl rfl rfl (by kernel_rfl) (by kernel_rfl) ?_
   unfold rdHd at hd i4
   have h5 := rid_ok' ra
   have k5 := rArr_rok k4.1 32
   generalize rArr 32 ra = q at h5 k5 hd i4
   obtain ⟨au, rb⟩ := q
   dsimp only at h5 k5 hd i4
   have h6 := rnum_ok rb
   generalize rNext 1 rb = q at h6 hd i4
   obtain ⟨le, rc⟩ := q
   dsimp only at h6 hd i4
   have h7 := rid_ok' rc
   generalize rArr 32 rc = q at h7 hd i4
   obtain ⟨id, rd⟩ := q
   dsimp only at h7 hd i4
   have h8 := rnum_ok rd
   generalize rNext 1 rd = q at h8 hd i4
   obtain ⟨sh, re⟩ := q
   dsimp only at h8 hd i4
   refine wpc_sound (M := MW) (PL := PL0) (CU := noCut) TTok mixed _ _ _ ?_
   conv => whnf
   repeat ((first | refine ⟨rfl, ?_⟩ | (refine And.intro ?_ ?_; (focus (first | (simp only [pureL, pureV, pureL_bys, Bool.and_true, Bool.and_self]; done) | (simp only [pureL, pureV, pureL_bys, pureL_toks, Bool.and_true, Bool.and_self]; done))))); conv => whnf)
   refine ⟨_, _, h5, by first | rfl | simp [noRoIf, noRoL, noRoV, noRoL_bys], ?_⟩
   conv => whnf
   repeat ((first | refine ⟨rfl, ?_⟩ | (refine And.intro ?_ ?_; (focus (first | (simp only [pureL, pureV, pureL_bys, Bool.and_true, Bool.and_self]; done) | (simp only [pureL, pureV, pureL_bys, pureL_toks, Bool.and_true, Bool.and_self]; done))))); conv => whnf)
   refine ⟨_, _, h6, by first | rfl | simp [noRoIf, noRoL, noRoV, noRoL_bys], ?_⟩
   conv => whnf
   repeat ((first | refine ⟨rfl, ?_⟩ | (refine And.intro ?_ ?_; (focus (first | (simp only [pureL, pureV, pureL_bys, Bool.and_true, Bool.and_self]; done) | (simp only [pureL, pureV, pureL_bys, pureL_toks, Bool.and_true, Bool.and_self]; done))))); conv => whnf)
   refine ⟨_, _, h7, by first | rfl | simp [noRoIf, noRoL, noRoV, noRoL_bys], ?_⟩
   conv => whnf
   repeat ((first | refine ⟨(⟨by kernel_rfl, by kernel_rfl, Nat.le_of_ble_eq_true (by kernel_rfl)⟩ : AV.ones _ = true ∧ _ ∧ _), ?_⟩ | refine ⟨rfl, ?_⟩ | refine ⟨⟨rfl, rfl⟩, ?_⟩); conv => whnf)
   refine Does.tidy [(0, .ptr 0 0), (2, .ptr 1 0), (3, .ptr 2 0), (4, .int .i64 c), (5, .ptr 4 0)] [(0, rowC rd), (1, msgV 0 0 0 .nil .nil .nil), (2, msgV 1 f.n t.n (.sl 3 0 hs.length 66 false) .nil .nil), (3, rowsC hdC hs), (4, hdC ⟨au, le.n, id, false⟩)] 5 61 rfl rfl rfl (by kernel_rfl) (by kernel_rfl) ?_
   clear h4 h5 h6 h7
   refine wpc_sound (M := MW) (PL := PL0) (CU := noCut) TTok mixed _ _ _ ?_
   conv => whnf
   repeat ((first | refine ⟨rfl, ?_⟩ | (refine And.intro ?_ ?_; (focus (first | (simp only [pureL, pureV, pureL_bys, Bool.and_true, Bool.and_self]; done) | (simp only [pureL, pureV, pureL_bys, pureL_toks, Bool.and_true, Bool.and_self]; done))))); conv => whnf)
   refine ⟨_, _, h8, by first | rfl | simp [noRoIf, noRoL, noRoV, noRoL_bys], ?_⟩
   conv => whnf
   repeat ((refine ⟨_, rfl, ?_⟩); conv => whnf)
   obtain ⟨rel, reb⟩ := re
   have lm : (hs ++ [(⟨au, le.n, id, decide (sh.n = 1)⟩ : Hd)]).length = hs.length + 1 := by simp
   cases reb
   ·conv => whnf
    repeat ((first | refine ifB_f ?_ | refine ⟨(⟨by kernel_rfl, by kernel_rfl, Nat.le_of_ble_eq_true (by kernel_rfl)⟩ : AV.ones _ = true ∧ _ ∧ _), ?_⟩); conv => whnf)
    refine Does.tidy [(0, .ptr 0 0), (2, .ptr 1 0), (3, .ptr 2 0), (4, .int .i64 c), (5, .ptr 4 0)] [(0, rowC ⟨rel, false || decide (1 < sh.n)⟩), (1, msgV 0 0 0 .nil .nil .nil), (2, msgV 1 f.n t.n (.sl 3 0 hs.length 66 false) .nil .nil), (3, rowsC hdC hs), (4, hdC ⟨au, le.n, id, decide (sh.n = 1)⟩)] 5 61 rfl rfl rfl (by kernel_rfl) (by kernel_rfl) ?_
    generalize (⟨au, le.n, id, decide (sh.n = 1)⟩ : Hd) = h at hd i4 lm ⊢
    refine wpc_sound (M := MW) (PL := PL0) (CU := noCut) TTok mixed _ _ _ ?_
    conv => whnf
    repeat ((first | (refine Or.inl ⟨⟨rfl, ?_⟩, ?_⟩; (focus (first | rfl | (simp; done) | (rw [toksC_length]; omega)))) | refine ⟨rfl, ?_⟩ | refine ⟨_, rfl, ?_⟩ | refine ⟨⟨rfl, rfl⟩, ?_⟩); conv => whnf)
    refine ⟨⟨rfl, rfl, by rw [hds_len]; omega, by simp [limB]; omega⟩, ?_⟩
    conv => whnf
    repeat ((first | (refine fit_i64 ⟨by first | omega | rfl | (dsimp only; omega), by first | omega | rfl | (dsimp only; omega)⟩ ?_) | refine ⟨(⟨by kernel_rfl, by kernel_rfl, Nat.le_of_ble_eq_true (by kernel_rfl)⟩ : AV.ones _ = true ∧ _ ∧ _), ?_⟩); conv => whnf)
    have u := u4 (by omega)
    refine ⟨(c - 1, ⟨rel, false || decide (1 < sh.n)⟩, hs ++ [h]), ⟨hd.2.1, ?_, ?_, by dsimp only; omega, ?_⟩, by dsimp only; omega, weaker_of [(1, 1), (2, 2), (3, 6)] rfl rfl ⟨⟨rfl, rfl⟩, ⟨rfl, rfl⟩, ⟨rfl, rfl⟩, ⟨rfl, rfl⟩, trivial⟩ ⟨⟨⟨rfl, rfl, pureL_toks _⟩, rfl, trivial⟩, ⟨⟨rfl, rfl⟩, ⟨rfl, rfl⟩, ⟨rfl, rfl⟩, trivial, trivial, trivial, trivial⟩, ⟨⟨rfl, rfl⟩, ⟨rfl, rfl⟩, ⟨rfl, rfl⟩, ⟨rfl, rfl, lm.symm, rfl, fun h => h⟩, trivial, trivial, trivial⟩, ?_, trivial⟩⟩
    ·have := hd.2.2
     dsimp only at this ⊢
     rw [lm]
     omega
    ·intro x hx
     rcases List.mem_append.1 hx with hx | hx
     ·exact i3 x hx
     ·rw [List.mem_singleton] at hx
      rw [hx]
      exact hd.1
    ·rw [← i4]
     dsimp only
     congr 1
     omega
    ·refine rowsC_les hdC_les ?_
     rw [rowsC_append]
     simp only [rowsC, List.append_nil]
     rfl
   ·conv => whnf
    repeat ((first | refine ifB_t ?_ | refine ⟨(⟨by kernel_rfl, by kernel_rfl, Nat.le_of_ble_eq_true (by kernel_rfl)⟩ : AV.ones _ = true ∧ _ ∧ _), ?_⟩); conv => whnf)
    refine Does.tidy [(0, .ptr 0 0), (2, .ptr 1 0), (3, .ptr 2 0), (4, .int .i64 c), (5, .ptr 4 0)] [(0, rowC ⟨rel, true || decide (1 < sh.n)⟩), (1, msgV 0 0 0 .nil .nil .nil), (2, msgV 1 f.n t.n (.sl 3 0 hs.length 66 false) .nil .nil), (3, rowsC hdC hs), (4, hdC ⟨au, le.n, id, decide (sh.n = 1)⟩)] 5 61 rfl rfl rfl (by kernel_rfl) (by kernel_rfl) ?_
    generalize (⟨au, le.n, id, decide (sh.n = 1)⟩ : Hd) = h at hd i4 lm ⊢
    refine wpc_sound (M := MW) (PL := PL0) (CU := noCut) TTok mixed _ _ _ ?_
    conv => whnf
    repeat ((first | (refine Or.inl ⟨⟨rfl, ?_⟩, ?_⟩; (focus (first | rfl | (simp; done) | (rw [toksC_length]; omega)))) | refine ⟨rfl, ?_⟩ | refine ⟨_, rfl, ?_⟩ | refine ⟨⟨rfl, rfl⟩, ?_⟩); conv => whnf)
    refine ⟨⟨rfl, rfl, by rw [hds_len]; omega, by simp [limB]; omega⟩, ?_⟩
    conv => whnf
    repeat ((first | (refine fit_i64 ⟨by first | omega | rfl | (dsimp only; omega), by first | omega | rfl | (dsimp only; omega)⟩ ?_) | refine ⟨(⟨by kernel_rfl, by kernel_rfl, Nat.le_of_ble_eq_true (by kernel_rfl)⟩ : AV.ones _ = true ∧ _ ∧ _), ?_⟩); conv => whnf)
    have u := u4 (by omega)
    refine ⟨(c - 1, ⟨rel, true || decide (1 < sh.n)⟩, hs ++ [h]), ⟨hd.2.1, ?_, ?_, by dsimp only; omega, ?_⟩, by dsimp only; omega, weaker_of [(1, 1), (2, 2), (3, 6)] rfl rfl ⟨⟨rfl, rfl⟩, ⟨rfl, rfl⟩, ⟨rfl, rfl⟩, ⟨rfl, rfl⟩, trivial⟩ ⟨⟨⟨rfl, rfl, pureL_toks _⟩, rfl, trivial⟩, ⟨⟨rfl, rfl⟩, ⟨rfl, rfl⟩, ⟨rfl, rfl⟩, trivial, trivial, trivial, trivial⟩, ⟨⟨rfl, rfl⟩, ⟨rfl, rfl⟩, ⟨rfl, rfl⟩, ⟨rfl, rfl, lm.symm, rfl, fun h => h⟩, trivial, trivial, trivial⟩, ?_, trivial⟩⟩
    ·have := hd.2.2
     dsimp only at this ⊢
     rw [lm]
     omega
    ·intro x hx
     rcases List.mem_append.1 hx with hx | hx
     ·exact i3 x hx
     ·rw [List.mem_singleton] at hx
      rw [hx]
      exact hd.1
    ·rw [← i4]
     dsimp only
     congr 1
     omega
    ·refine rowsC_les hdC_les ?_
     rw [rowsC_append]
     simp only [rowsC, List.append_nil]
     rfl
  ·rw [if_pos c2] at i4
   rw [← i4]
   refine wpc_sound (M := MW) (PL := PL0) (CU := noCut) TTok mixed _ _ _ ?_
   conv => whnf
   repeat ((first | refine ifB_t ?_ | (refine ifB_pos (decide_eq_true (by first | omega | rfl | (dsimp only; omega))) ?_) | refine ⟨_, rfl, ?_⟩); conv => whnf)
   refine ifB_neg (by rw [c2]; rfl) ?_
   conv => whnf
   refine Does.freeze 3 rfl (Does.tidy [(2, .ptr 1 0), (3, .ptr 2 0)] [(0, rowC (r)), (1, msgV 0 0 0 .nil .nil .nil), (2, msgV 1 f.n t.n (.ro hs.length (List.take (hs.length * 66) (List.drop 0 (rowsC hdC hs)))) .nil .nil)] 4 61 rfl rfl rfl (by kernel_rfl) (by kernel_rfl) ?_)
   rw [rowsC_whole hdC_length]
   refine wpc_sound (M := MW) (PL := PL0) (CU := noCut) TTok mixed _ _ _ ?_
   conv => whnf
   repeat ((first | refine ⟨(⟨by kernel_rfl, by kernel_rfl, Nat.le_of_ble_eq_true (by kernel_rfl)⟩ : AV.ones _ = true ∧ _ ∧ _), ?_⟩ | refine ⟨rfl, ?_⟩ | refine ⟨_, rfl, ?_⟩ | refine ⟨⟨rfl, rfl⟩, ?_⟩ | (refine ⟨⟨rfl, rfl, ?_⟩, ?_⟩; (focus (first | assumption | exact pureL_bys _ | exact pureL_toks _)))); conv => whnf)
   refine ⟨⟨rfl, rfl, hds_pure _⟩, ?_⟩
   conv => whnf
   repeat ((refine ⟨⟨rfl, rfl⟩, ?_⟩); conv => whnf)
   rfl
 ·exact weaker_of [(1, 1), (2, 2)] rfl rfl ⟨⟨rfl, rfl⟩, ⟨rfl, rfl⟩, ⟨rfl, rfl⟩, ⟨rfl, rfl⟩, trivial⟩ ⟨⟨⟨rfl, rfl, pureL_toks _⟩, rfl, trivial⟩, ⟨⟨rfl, rfl⟩, ⟨rfl, rfl⟩, ⟨rfl, rfl⟩, trivial, trivial, trivial, trivial⟩, ⟨⟨rfl, rfl⟩, ⟨rfl, rfl⟩, ⟨rfl, rfl⟩, rfl, trivial, trivial, trivial⟩, rfl, trivial⟩
end
section
--KR
attribute [local irreducible] ifB fitP Does Weaker
theorem rNext_good (k : Int) (r : Rw) (h : (rNext k r).2.bad = false) : (rNext k r).2.l.length + 1 = r.l.length := by
 obtain ⟨l, bad⟩ := r
 unfold rNext at h ⊢
 split at h
 ·cases h
 ·rename_i hb
  rw [if_neg hb]
  cases l with
  | nil => cases h
  | cons t q =>
   dsimp only at h ⊢
   split at h
   ·rename_i hk; rw [if_pos hk]; simp
   ·cases h
def anLoop {α : Type} (rd : List Int → α × Int) : Nat → Rw → List α → List α × Rw
 | 0, r, ps => (ps, r)
 | k + 1, r, ps => if r.bad = true then (ps, r) else anLoop rd k ⟨(rNext 3 r).2.l, (rNext 3 r).2.bad || decide ((rd (rNext 3 r).1.b).2 ≠ 0)⟩ (ps ++ [(rd (rNext 3 r).1.b).1])
theorem anLoop_z {α : Type} (rd : List Int → α × Int) (r : Rw) (ps : List α) : anLoop rd 0 r ps = (ps, r) := rfl
theorem anLoop_s {α : Type} (rd : List Int → α × Int) (k : Nat) (r : Rw) (ps : List α) : anLoop rd (k + 1) r ps = if r.bad = true then (ps, r) else anLoop rd k ⟨(rNext 3 r).2.l, (rNext 3 r).2.bad || decide ((rd (rNext 3 r).1.b).2 ≠ 0)⟩ (ps ++ [(rd (rNext 3 r).1.b).1]) := rfl
def AnInv {α : Type} (N : Nat) (ok : α → Prop) (r : Rw) (ps : List α) : Prop := RwOk r ∧ ps.length + r.l.length ≤ N + (if r.bad = true then 1 else 0) ∧ ∀ p ∈ ps, ok p
theorem anInv_next {α : Type} {N : Nat} {ok : α → Prop} {rd : List Int → α × Int} (hrd : ∀ b, Byt b → b.length ≤ 1000000000 → ok (rd b).1) {r : Rw} {ps : List α} (h : AnInv N ok r ps) (hb : r.bad = false) :
  AnInv N ok ⟨(rNext 3 r).2.l, (rNext 3 r).2.bad || decide ((rd (rNext 3 r).1.b).2 ≠ 0)⟩ (ps ++ [(rd (rNext 3 r).1.b).1]) := by
 obtain ⟨h1, h2, h3⟩ := h
 have k := rNext_rok h1 3
 rw [hb] at h2
 refine ⟨k.1, ?_, ?_⟩
 ·have l := rNext_len 3 r
  have g := rNext_good 3 r
  simp only [List.length_append, List.length_singleton]
  simp at h2
  cases hbb : (rNext 3 r).2.bad
  ·have := g hbb
   simp only [Bool.false_or]
   split <;> omega
  ·simp
   omega
 ·intro x hx
  rcases List.mem_append.1 hx with hx | hx
  ·exact h3 x hx
  ·rw [List.mem_singleton] at hx
   rw [hx]
   exact hrd _ k.2.1.2.2 k.2.2
theorem anInv_loop {α : Type} {N : Nat} {ok : α → Prop} {rd : List Int → α × Int} (hrd : ∀ b, Byt b → b.length ≤ 1000000000 → ok (rd b).1) : ∀ (k : Nat) (r : Rw) (ps : List α), AnInv N ok r ps → AnInv N ok (anLoop rd k r ps).2 (anLoop rd k r ps).1
 | 0, r, ps, h => h
 | k + 1, r, ps, h => by
  rw [anLoop_s]
  split
  ·exact h
  ·rename_i hb
   exact anInv_loop hrd k _ _ (anInv_next hrd h (by simpa using hb))
theorem rdP_prfS {r : Rw} (h : RwOk r) : PrfS (rdP r).1 ∧ ((rdP r).2 = 0 → prfR (rdP r).1 = true) := by
 have z : EntS ent0 := by
  have hz : Byt z32 := fun x hx => by simp only [z32, List.mem_replicate] at hx; omega
  have hz' : Byt z64 := fun x hx => by simp only [z64, List.mem_replicate] at hx; omega
  have hn : Byt [] := fun x hx => absurd hx (List.not_mem_nil)
  exact { au := ⟨hz, rfl⟩, seq := by decide, prev := ⟨hz, rfl⟩, stamp := by decide, kind := by decide, key := ⟨hn, by decide⟩, val := ⟨hn, by decide⟩, sig := ⟨hz', rfl⟩, key' := by decide, val' := by decide }
 have k2 := rNext_rok h 3
 unfold rdP
 generalize rNext 3 r = q at k2 ⊢
 obtain ⟨x, r2⟩ := q
 dsimp only at k2 ⊢
 have k3 := rNext_rok k2.1 3
 generalize rNext 3 r2 = q at k3 ⊢
 obtain ⟨y, r3⟩ := q
 dsimp only at k3 ⊢
 split
 ·split
  ·exact ⟨⟨z, z⟩, fun e => by cases e⟩
  ·split
   ·exact ⟨⟨z, z⟩, fun e => by cases e⟩
   ·split
    ·rename_i c
     exact ⟨⟨(rdEnt_entS k2.2.1.2.2 k2.2.2).1, (rdEnt_entS k3.2.1.2.2 k3.2.2).1⟩, fun _ => c⟩
    ·exact ⟨⟨z, z⟩, fun e => by cases e⟩
 ·exact ⟨⟨z, z⟩, fun e => by cases e⟩
theorem rdPrf_prfS {b : List Int} (hb : Byt b) (hl : b.length ≤ 1000000000) : PrfS (rdPrf b).1 ∧ ((rdPrf b).2 = 0 → prfR (rdPrf b).1 = true) := rdP_prfS (rWant_rok (rOpen_rok hb hl) 3 2)
def rdAn (r : Rw) : Msg × Rw :=
 match rNext 1 r with
 | (f, r1) => match rNext 1 r1 with
  | (t, r2) => match rNext 5 r2 with
   | (n, r3) => match anLoop rdPrf n.n.toNat r3 [] with
    | (ps, r4) => match rNext 5 r4 with
     | (k, r5) => (⟨2, f.n, t.n, [], ps, (anLoop rdEnt k.n.toNat r5 []).1⟩, (anLoop rdEnt k.n.toNat r5 []).2)
set_option maxRecDepth 20000 in
set_option maxHeartbeats 4000000 in
theorem answer_ok (r : Rw) (hr : RwOk r) (hl : r.l.length ≤ 1000000) : ACall Tryd.prog 48 [.ref (rowC r)] (.agg (msgC (rdAn r).1)) [.ref (rowC (rdAn r).2)] := by
 unfold rdAn
 have h1 := rnum_ok r
 have k1 := rNext_rok hr 1
 have l1 := rNext_len 1 r
 generalize rNext 1 r = q at h1 k1 l1 ⊢
 obtain ⟨f, r1⟩ := q
 dsimp only at h1 k1 l1 ⊢
 have h2 := rnum_ok r1
 have k2 := rNext_rok k1.1 1
 have l2 := rNext_len 1 r1
 generalize rNext 1 r1 = q at h2 k2 l2 ⊢
 obtain ⟨t, r2⟩ := q
 dsimp only at h2 k2 l2 ⊢
 have h3 := rlist_ok r2
 have k3 := rNext_rok k2.1 5
 have l3 := rNext_len 5 r2
 generalize rNext 5 r2 = q at h3 k3 l3 ⊢
 obtain ⟨n, r3⟩ := q
 dsimp only at h3 k3 l3 ⊢
 refine ACall.of_does TTok Tryd.func48 rfl Tryd.call48 rfl (wpc_sound (M := MW) (PL := PL0) (CU := cutAt [3, 100014]) TTok mixed _ _ _ ?_)
 conv => whnf
 repeat ((first | refine ⟨rfl, ?_⟩ | (refine And.intro ?_ ?_; (focus (first | (simp only [pureL, pureV, pureL_bys, Bool.and_true, Bool.and_self]; done) | (simp only [pureL, pureV, pureL_bys, pureL_toks, Bool.and_true, Bool.and_self]; done))))); conv => whnf)
 refine ⟨_, _, h1, by first | rfl | simp [noRoIf, noRoL, noRoV, noRoL_bys], ?_⟩
 conv => whnf
 repeat ((first | refine ⟨rfl, ?_⟩ | (refine And.intro ?_ ?_; (focus (first | (simp only [pureL, pureV, pureL_bys, Bool.and_true, Bool.and_self]; done) | (simp only [pureL, pureV, pureL_bys, pureL_toks, Bool.and_true, Bool.and_self]; done))))); conv => whnf)
 refine ⟨_, _, h2, by first | rfl | simp [noRoIf, noRoL, noRoV, noRoL_bys], ?_⟩
 conv => whnf
 repeat ((first | refine ⟨(⟨by kernel_rfl, by kernel_rfl, Nat.le_of_ble_eq_true (by kernel_rfl)⟩ : AV.ones _ = true ∧ _ ∧ _), ?_⟩ | refine ⟨rfl, ?_⟩); conv => whnf)
 clear h1 h2
 have l3' : r3.l.length ≤ 1000000 := by omega
 refine Does.seqCut (fun g : Rw × List Prf => mkSt [(0, .ptr 0 0), (2, .ptr 1 0), (3, .ptr 2 0)] [(0, rowC g.1), (1, msgV 0 0 0 .nil .nil .nil), (2, msgV 2 f.n t.n .nil (.sl 3 0 g.2.length 266 false) .nil), (3, rowsC prfC g.2)] 4 88) (fun g => ((g.2, g.1) : List Prf × Rw) = anLoop rdPrf n.n.toNat r3 []) ?_ ?_
 ·refine wpc_sound (M := MW) (PL := PL0) (CU := noCut) TTok mixed _ _ _ ?_
  conv => whnf
  repeat ((first | refine ⟨rfl, ?_⟩ | (refine And.intro ?_ ?_; (focus (first | (simp only [pureL, pureV, pureL_bys, Bool.and_true, Bool.and_self]; done) | (simp only [pureL, pureV, pureL_bys, pureL_toks, Bool.and_true, Bool.and_self]; done))))); conv => whnf)
  refine ⟨_, _, h3, by first | rfl | simp [noRoIf, noRoL, noRoV, noRoL_bys], ?_⟩
  conv => whnf
  refine Does.loop (fun g : Int × Rw × List Prf => mkSt [(0, .ptr 0 0), (2, .ptr 1 0), (3, .ptr 2 0), (4, .int .i64 g.1)] [(0, rowC g.2.1), (1, msgV 0 0 0 .nil .nil .nil), (2, msgV 2 f.n t.n .nil (.sl 3 0 g.2.2.length 266 false) .nil), (3, rowsC prfC g.2.2)] 4 88)
   (fun g => AnInv 1000000 PrfS g.2.1 g.2.2 ∧ (g.1 < 9223372036854775808 ∧ -9223372036854775808 ≤ g.1) ∧ anLoop rdPrf g.1.toNat g.2.1 g.2.2 = anLoop rdPrf n.n.toNat r3 []) (fun g => g.1.toNat) ?_ (n.n, r3, []) ⟨⟨k3.1, by simp; omega, fun h hh => absurd hh (List.not_mem_nil)⟩, ⟨k3.2.1.2.1.2, k3.2.1.2.1.1⟩, rfl⟩ ?_
  ·rintro ⟨c, r, ps⟩ ⟨i1, i5, i4⟩
   dsimp only at i1 i4 i5 ⊢
   by_cases c1 : c ≤ 0
   ·rw [show c.toNat = 0 by omega, anLoop_z] at i4
    rw [← i4]
    refine wpc_sound (M := MW) (PL := PL0) (CU := noCut) TTok mixed _ _ _ ?_
    conv => whnf
    repeat ((first | refine ifB_f ?_ | (refine ifB_neg (decide_eq_false (by first | omega | rfl | (dsimp only; omega))) ?_)); conv => whnf)
    exact ⟨(r, ps), by rw [i4], Weaker.tidy _ _ _ _ rfl rfl rfl (by kernel_rfl) (by kernel_rfl)⟩
   obtain ⟨k, hk⟩ : ∃ k, c.toNat = k + 1 := ⟨c.toNat - 1, by omega⟩
   rw [hk, anLoop_s] at i4
   cases c2 : r.bad
   ·rw [if_neg (by rw [c2]; simp)] at i4
    have nx := anInv_next (rd := rdPrf) (fun b hb hl => (rdPrf_prfS hb hl).1) i1 c2
    have i2 := i1.2.1
    rw [c2] at i2
    simp only [Bool.false_eq_true, if_false, Nat.add_zero] at i2
    have h4 := rstr_ok r
    have k4 := rNext_rok i1.1 3
    have h5 := pread_ok _ k4.2.1.2.2 k4.2.2
    generalize rNext 3 r = q at h4 h5 nx i4
    obtain ⟨st, ra⟩ := q
    dsimp only at h4 h5 nx i4
    generalize rdPrf st.b = q at h5 nx i4
    obtain ⟨p, er⟩ := q
    dsimp only at h5 nx i4
    have lm : (ps ++ [p]).length = ps.length + 1 := by simp
    refine wpc_sound (M := MW) (PL := PL0) (CU := cutAt [100006, 100007]) TTok mixed _ _ _ ?_
    conv => whnf
    repeat ((first | refine ifB_t ?_ | (refine ifB_pos (decide_eq_true (by first | omega | rfl | (dsimp only; omega))) ?_) | refine ⟨_, rfl, ?_⟩); conv => whnf)
    refine ifB_pos (by rw [c2]; rfl) ?_
    conv => whnf
    repeat ((first | refine ⟨rfl, ?_⟩ | (refine And.intro ?_ ?_; (focus (first | (simp only [pureL, pureV, pureL_bys, Bool.and_true, Bool.and_self]; done) | (simp only [pureL, pureV, pureL_bys, pureL_toks, Bool.and_true, Bool.and_self]; done))))); conv => whnf)
    refine ⟨_, _, h4, by first | rfl | simp [noRoIf, noRoL, noRoV, noRoL_bys], ?_⟩
    conv => whnf
    repeat ((first | refine ⟨pureL_bys _, ?_⟩ | refine ⟨rfl, ?_⟩); conv => whnf)
    refine ⟨_, _, h5, by first | rfl | simp [noRoIf, noRoL, noRoV, noRoL_bys], ?_⟩
    conv => whnf
    repeat ((first | refine ⟨(⟨by kernel_rfl, by kernel_rfl, Nat.le_of_ble_eq_true (by kernel_rfl)⟩ : AV.ones _ = true ∧ _ ∧ _), ?_⟩ | refine ⟨rfl, ?_⟩); conv => whnf)
    refine Does.tidy [(0, .ptr 0 0), (2, .ptr 1 0), (3, .ptr 2 0), (4, .int .i64 c), (5, .ptr 4 0), (6, .int .i64 er)] [(0, rowC ra), (1, msgV 0 0 0 .nil .nil .nil), (2, msgV 2 f.n t.n .nil (.sl 3 0 ps.length 266 false) .nil), (3, rowsC prfC ps), (4, prfC p)] 5 88 rfl rfl rfl (by kernel_rfl) (by kernel_rfl) ?_
    clear h4 h5
    refine wpc_sound (M := MW) (PL := PL0) (CU := noCut) TTok mixed _ _ _ ?_
    obtain ⟨ral, rab⟩ := ra
    cases rab
    ·conv => whnf
     repeat ((first | refine ifB_f ?_ | refine ⟨(⟨by kernel_rfl, by kernel_rfl, Nat.le_of_ble_eq_true (by kernel_rfl)⟩ : AV.ones _ = true ∧ _ ∧ _), ?_⟩ | refine ⟨_, rfl, ?_⟩); conv => whnf)
     refine Does.tidy [(0, .ptr 0 0), (2, .ptr 1 0), (3, .ptr 2 0), (4, .int .i64 c), (5, .ptr 4 0)] [(0, rowC ⟨ral, false || decide (er ≠ 0)⟩), (1, msgV 0 0 0 .nil .nil .nil), (2, msgV 2 f.n t.n .nil (.sl 3 0 ps.length 266 false) .nil), (3, rowsC prfC ps), (4, prfC p)] 5 88 rfl rfl rfl (by kernel_rfl) (by kernel_rfl) ?_
     refine wpc_sound (M := MW) (PL := PL0) (CU := noCut) TTok mixed _ _ _ ?_
     conv => whnf
     repeat ((first | (refine Or.inl ⟨⟨rfl, ?_⟩, ?_⟩; (focus (first | rfl | (simp; done) | (rw [toksC_length]; omega)))) | refine ⟨rfl, ?_⟩ | refine ⟨_, rfl, ?_⟩ | refine ⟨⟨rfl, rfl⟩, ?_⟩); conv => whnf)
     refine ⟨⟨rfl, rfl, by rw [prfs_len]; omega, by simp [limB]; omega⟩, ?_⟩
     conv => whnf
     repeat ((first | (refine fit_i64 ⟨by first | omega | rfl | (dsimp only; omega), by first | omega | rfl | (dsimp only; omega)⟩ ?_) | refine ⟨(⟨by kernel_rfl, by kernel_rfl, Nat.le_of_ble_eq_true (by kernel_rfl)⟩ : AV.ones _ = true ∧ _ ∧ _), ?_⟩); conv => whnf)
     refine ⟨(c - 1, ⟨ral, false || decide (er ≠ 0)⟩, ps ++ [p]), ⟨nx, by dsimp only; omega, ?_⟩, by dsimp only; omega, weaker_of [(1, 1), (2, 2), (3, 6)] rfl rfl ⟨⟨rfl, rfl⟩, ⟨rfl, rfl⟩, ⟨rfl, rfl⟩, ⟨rfl, rfl⟩, trivial⟩ ⟨⟨⟨rfl, rfl, pureL_toks _⟩, rfl, trivial⟩, ⟨⟨rfl, rfl⟩, ⟨rfl, rfl⟩, ⟨rfl, rfl⟩, trivial, trivial, trivial, trivial⟩, ⟨⟨rfl, rfl⟩, ⟨rfl, rfl⟩, ⟨rfl, rfl⟩, trivial, ⟨rfl, rfl, lm.symm, rfl, fun h => h⟩, trivial, trivial⟩, ?_, trivial⟩⟩
     ·rw [← i4]
      dsimp only
      congr 1
      omega
     ·refine rowsC_les prfC_les ?_
      rw [rowsC_append]
      simp only [rowsC, List.append_nil]
      rfl
    ·conv => whnf
     repeat ((first | refine ifB_t ?_ | refine ⟨(⟨by kernel_rfl, by kernel_rfl, Nat.le_of_ble_eq_true (by kernel_rfl)⟩ : AV.ones _ = true ∧ _ ∧ _), ?_⟩ | refine ⟨_, rfl, ?_⟩); conv => whnf)
     refine Does.tidy [(0, .ptr 0 0), (2, .ptr 1 0), (3, .ptr 2 0), (4, .int .i64 c), (5, .ptr 4 0)] [(0, rowC ⟨ral, true || decide (er ≠ 0)⟩), (1, msgV 0 0 0 .nil .nil .nil), (2, msgV 2 f.n t.n .nil (.sl 3 0 ps.length 266 false) .nil), (3, rowsC prfC ps), (4, prfC p)] 5 88 rfl rfl rfl (by kernel_rfl) (by kernel_rfl) ?_
     refine wpc_sound (M := MW) (PL := PL0) (CU := noCut) TTok mixed _ _ _ ?_
     conv => whnf
     repeat ((first | (refine Or.inl ⟨⟨rfl, ?_⟩, ?_⟩; (focus (first | rfl | (simp; done) | (rw [toksC_length]; omega)))) | refine ⟨rfl, ?_⟩ | refine ⟨_, rfl, ?_⟩ | refine ⟨⟨rfl, rfl⟩, ?_⟩); conv => whnf)
     refine ⟨⟨rfl, rfl, by rw [prfs_len]; omega, by simp [limB]; omega⟩, ?_⟩
     conv => whnf
     repeat ((first | (refine fit_i64 ⟨by first | omega | rfl | (dsimp only; omega), by first | omega | rfl | (dsimp only; omega)⟩ ?_) | refine ⟨(⟨by kernel_rfl, by kernel_rfl, Nat.le_of_ble_eq_true (by kernel_rfl)⟩ : AV.ones _ = true ∧ _ ∧ _), ?_⟩); conv => whnf)
     refine ⟨(c - 1, ⟨ral, true || decide (er ≠ 0)⟩, ps ++ [p]), ⟨nx, by dsimp only; omega, ?_⟩, by dsimp only; omega, weaker_of [(1, 1), (2, 2), (3, 6)] rfl rfl ⟨⟨rfl, rfl⟩, ⟨rfl, rfl⟩, ⟨rfl, rfl⟩, ⟨rfl, rfl⟩, trivial⟩ ⟨⟨⟨rfl, rfl, pureL_toks _⟩, rfl, trivial⟩, ⟨⟨rfl, rfl⟩, ⟨rfl, rfl⟩, ⟨rfl, rfl⟩, trivial, trivial, trivial, trivial⟩, ⟨⟨rfl, rfl⟩, ⟨rfl, rfl⟩, ⟨rfl, rfl⟩, trivial, ⟨rfl, rfl, lm.symm, rfl, fun h => h⟩, trivial, trivial⟩, ?_, trivial⟩⟩
     ·rw [← i4]
      dsimp only
      congr 1
      omega
     ·refine rowsC_les prfC_les ?_
      rw [rowsC_append]
      simp only [rowsC, List.append_nil]
      rfl
   ·rw [if_pos c2] at i4
    rw [← i4]
    refine wpc_sound (M := MW) (PL := PL0) (CU := noCut) TTok mixed _ _ _ ?_
    conv => whnf
    repeat ((first | refine ifB_t ?_ | (refine ifB_pos (decide_eq_true (by first | omega | rfl | (dsimp only; omega))) ?_) | refine ⟨_, rfl, ?_⟩); conv => whnf)
    refine ifB_neg (by rw [c2]; rfl) ?_
    conv => whnf
    exact ⟨(r, ps), by rw [i4], Weaker.tidy _ _ _ _ rfl rfl rfl (by kernel_rfl) (by kernel_rfl)⟩
  ·exact weaker_of [(1, 1), (2, 2)] rfl rfl ⟨⟨rfl, rfl⟩, ⟨rfl, rfl⟩, ⟨rfl, rfl⟩, ⟨rfl, rfl⟩, trivial⟩ ⟨⟨⟨rfl, rfl, pureL_toks _⟩, rfl, trivial⟩, ⟨⟨rfl, rfl⟩, ⟨rfl, rfl⟩, ⟨rfl, rfl⟩, trivial, trivial, trivial, trivial⟩, ⟨⟨rfl, rfl⟩, ⟨rfl, rfl⟩, ⟨rfl, rfl⟩, trivial, rfl, trivial, trivial⟩, rfl, trivial⟩
 ·rintro ⟨r4, zs⟩ hg
  dsimp only at hg ⊢
  have inv := anInv_loop (N := 1000000) (rd := rdPrf) (ok := PrfS) (fun b hb hl => (rdPrf_prfS hb hl).1) n.n.toNat r3 [] ⟨k3.1, by simp; omega, fun h hh => absurd hh (List.not_mem_nil)⟩
  rw [← hg] at inv ⊢
  dsimp only at inv ⊢
  have j4 := rlist_ok r4
  have k5 := rNext_rok inv.1 5
  have l5 := rNext_len 5 r4
  have inv2 := inv.2.1
  have l4 : r4.l.length ≤ 1000001 := by split at inv2 <;> omega
  generalize rNext 5 r4 = q at j4 k5 l5 ⊢
  obtain ⟨n2, r5⟩ := q
  dsimp only at j4 k5 l5 ⊢
  refine wpc_sound (M := MW) (PL := PL0) (CU := cutAt [100014]) TTok mixed _ _ _ ?_
  conv => whnf
  repeat ((first | refine ⟨rfl, ?_⟩ | (refine And.intro ?_ ?_; (focus (first | (simp only [pureL, pureV, pureL_bys, Bool.and_true, Bool.and_self]; done) | (simp only [pureL, pureV, pureL_bys, pureL_toks, Bool.and_true, Bool.and_self]; done))))); conv => whnf)
  refine ⟨_, _, j4, by first | rfl | simp [noRoIf, noRoL, noRoV, noRoL_bys], ?_⟩
  conv => whnf
  refine Does.loop (fun g : Int × Rw × List Ent => mkSt [(0, .ptr 0 0), (2, .ptr 1 0), (3, .ptr 2 0), (7, .int .i64 g.1)] [(0, rowC g.2.1), (1, msgV 0 0 0 .nil .nil .nil), (2, msgV 2 f.n t.n .nil (.sl 3 0 zs.length 266 false) (.sl 4 0 g.2.2.length 133 false)), (3, rowsC prfC zs), (4, rowsC entC g.2.2)] 5 88)
   (fun g => AnInv 1000001 EntS g.2.1 g.2.2 ∧ (g.1 < 9223372036854775808 ∧ -9223372036854775808 ≤ g.1) ∧ anLoop rdEnt g.1.toNat g.2.1 g.2.2 = anLoop rdEnt n2.n.toNat r5 []) (fun g => g.1.toNat) ?_ (n2.n, r5, []) ⟨⟨k5.1, by simp; omega, fun h hh => absurd hh (List.not_mem_nil)⟩, ⟨k5.2.1.2.1.2, k5.2.1.2.1.1⟩, rfl⟩ ?_
  ·rintro ⟨c, r, ps⟩ ⟨i1, i5, i4⟩
   dsimp only at i1 i4 i5 ⊢
   by_cases c1 : c ≤ 0
   ·rw [show c.toNat = 0 by omega, anLoop_z] at i4
    rw [← i4]
    refine wpc_sound (M := MW) (PL := PL0) (CU := noCut) TTok mixed _ _ _ ?_
    conv => whnf
    repeat ((first | refine ifB_f ?_ | (refine ifB_neg (decide_eq_false (by first | omega | rfl | (dsimp only; omega))) ?_)); conv => whnf)
    refine Does.freeze 4 rfl (Does.freeze 3 (zs := rowsC prfC zs) (by show some (frzL 4 _ (rowsC prfC zs)) = _; rw [rowsC_frz (fun x => prfC_frz _ _ x)]) (Does.tidy [(2, .ptr 1 0), (3, .ptr 2 0)] [(0, rowC r), (1, msgV 0 0 0 .nil .nil .nil), (2, msgV 2 f.n t.n .nil (.ro zs.length (List.take (zs.length * 266) (List.drop 0 (rowsC prfC zs)))) (.ro ps.length (List.take (ps.length * 133) (List.drop 0 (rowsC entC ps)))))] 5 88 rfl rfl rfl (by kernel_rfl) (by kernel_rfl) ?_))
    rw [rowsC_whole prfC_length, rowsC_whole entC_length]
    refine wpc_sound (M := MW) (PL := PL0) (CU := noCut) TTok mixed _ _ _ ?_
    conv => whnf
    repeat ((first | refine ⟨(⟨by kernel_rfl, by kernel_rfl, Nat.le_of_ble_eq_true (by kernel_rfl)⟩ : AV.ones _ = true ∧ _ ∧ _), ?_⟩ | refine ⟨rfl, ?_⟩ | refine ⟨_, rfl, ?_⟩ | refine ⟨⟨rfl, rfl⟩, ?_⟩ | (refine ⟨⟨rfl, rfl, ?_⟩, ?_⟩; (focus (first | assumption | exact pureL_bys _ | exact pureL_toks _)))); conv => whnf)
    refine ⟨⟨rfl, rfl, prfs_pure _⟩, ?_⟩
    conv => whnf
    refine ⟨⟨rfl, rfl, ents_pure _⟩, ?_⟩
    conv => whnf
    rfl
   obtain ⟨k, hk⟩ : ∃ k, c.toNat = k + 1 := ⟨c.toNat - 1, by omega⟩
   rw [hk, anLoop_s] at i4
   cases c2 : r.bad
   ·rw [if_neg (by rw [c2]; simp)] at i4
    have nx := anInv_next (rd := rdEnt) (fun b hb hl => (rdEnt_entS hb hl).1) i1 c2
    have i2 := i1.2.1
    rw [c2] at i2
    simp only [Bool.false_eq_true, if_false, Nat.add_zero] at i2
    have h4 := rstr_ok r
    have k4 := rNext_rok i1.1 3
    have h5 := eread_ok _ k4.2.1.2.2 k4.2.2
    generalize rNext 3 r = q at h4 h5 nx i4
    obtain ⟨st, ra⟩ := q
    dsimp only at h4 h5 nx i4
    generalize rdEnt st.b = q at h5 nx i4
    obtain ⟨p, er⟩ := q
    dsimp only at h5 nx i4
    have lm : (ps ++ [p]).length = ps.length + 1 := by simp
    refine wpc_sound (M := MW) (PL := PL0) (CU := cutAt [100012, 100013]) TTok mixed _ _ _ ?_
    conv => whnf
    repeat ((first | refine ifB_t ?_ | (refine ifB_pos (decide_eq_true (by first | omega | rfl | (dsimp only; omega))) ?_) | refine ⟨_, rfl, ?_⟩); conv => whnf)
    refine ifB_pos (by rw [c2]; rfl) ?_
    conv => whnf
    repeat ((first | refine ⟨rfl, ?_⟩ | (refine And.intro ?_ ?_; (focus (first | (simp only [pureL, pureV, pureL_bys, Bool.and_true, Bool.and_self]; done) | (simp only [pureL, pureV, pureL_bys, pureL_toks, Bool.and_true, Bool.and_self]; done))))); conv => whnf)
    refine ⟨_, _, h4, by first | rfl | simp [noRoIf, noRoL, noRoV, noRoL_bys], ?_⟩
    conv => whnf
    repeat ((first | refine ⟨pureL_bys _, ?_⟩ | refine ⟨rfl, ?_⟩); conv => whnf)
    refine ⟨_, _, h5, by first | rfl | simp [noRoIf, noRoL, noRoV, noRoL_bys], ?_⟩
    conv => whnf
    repeat ((first | refine ⟨(⟨by kernel_rfl, by kernel_rfl, Nat.le_of_ble_eq_true (by kernel_rfl)⟩ : AV.ones _ = true ∧ _ ∧ _), ?_⟩ | refine ⟨rfl, ?_⟩); conv => whnf)
    refine Does.tidy [(0, .ptr 0 0), (2, .ptr 1 0), (3, .ptr 2 0), (7, .int .i64 c), (8, .ptr 5 0), (9, .int .i64 er)] [(0, rowC ra), (1, msgV 0 0 0 .nil .nil .nil), (2, msgV 2 f.n t.n .nil (.sl 3 0 zs.length 266 false) (.sl 4 0 ps.length 133 false)), (3, rowsC prfC zs), (4, rowsC entC ps), (5, entC p)] 6 88 rfl rfl rfl (by kernel_rfl) (by kernel_rfl) ?_
    clear h4 h5
    refine wpc_sound (M := MW) (PL := PL0) (CU := noCut) TTok mixed _ _ _ ?_
    obtain ⟨ral, rab⟩ := ra
    cases rab
    ·conv => whnf
     repeat ((first | refine ifB_f ?_ | refine ⟨(⟨by kernel_rfl, by kernel_rfl, Nat.le_of_ble_eq_true (by kernel_rfl)⟩ : AV.ones _ = true ∧ _ ∧ _), ?_⟩ | refine ⟨_, rfl, ?_⟩); conv => whnf)
     refine Does.tidy [(0, .ptr 0 0), (2, .ptr 1 0), (3, .ptr 2 0), (7, .int .i64 c), (8, .ptr 5 0)] [(0, rowC ⟨ral, false || decide (er ≠ 0)⟩), (1, msgV 0 0 0 .nil .nil .nil), (2, msgV 2 f.n t.n .nil (.sl 3 0 zs.length 266 false) (.sl 4 0 ps.length 133 false)), (3, rowsC prfC zs), (4, rowsC entC ps), (5, entC p)] 6 88 rfl rfl rfl (by kernel_rfl) (by kernel_rfl) ?_
     refine wpc_sound (M := MW) (PL := PL0) (CU := noCut) TTok mixed _ _ _ ?_
     conv => whnf
     repeat ((first | (refine Or.inl ⟨⟨rfl, ?_⟩, ?_⟩; (focus (first | rfl | (simp; done) | (rw [toksC_length]; omega)))) | refine ⟨rfl, ?_⟩ | refine ⟨_, rfl, ?_⟩ | refine ⟨⟨rfl, rfl⟩, ?_⟩); conv => whnf)
     refine ⟨⟨rfl, rfl, by rw [ents_len]; omega, by simp [limB]; omega⟩, ?_⟩
     conv => whnf
     repeat ((first | (refine fit_i64 ⟨by first | omega | rfl | (dsimp only; omega), by first | omega | rfl | (dsimp only; omega)⟩ ?_) | refine ⟨(⟨by kernel_rfl, by kernel_rfl, Nat.le_of_ble_eq_true (by kernel_rfl)⟩ : AV.ones _ = true ∧ _ ∧ _), ?_⟩); conv => whnf)
     refine ⟨(c - 1, ⟨ral, false || decide (er ≠ 0)⟩, ps ++ [p]), ⟨nx, by dsimp only; omega, ?_⟩, by dsimp only; omega, weaker_of [(1, 1), (2, 2), (3, 3), (4, 7)] rfl rfl ⟨⟨rfl, rfl⟩, ⟨rfl, rfl⟩, ⟨rfl, rfl⟩, ⟨rfl, rfl⟩, trivial⟩ ⟨⟨⟨rfl, rfl, pureL_toks _⟩, rfl, trivial⟩, ⟨⟨rfl, rfl⟩, ⟨rfl, rfl⟩, ⟨rfl, rfl⟩, trivial, trivial, trivial, trivial⟩, ⟨⟨rfl, rfl⟩, ⟨rfl, rfl⟩, ⟨rfl, rfl⟩, trivial, ⟨rfl, rfl, rfl, rfl, fun h => h⟩, ⟨rfl, rfl, lm.symm, rfl, fun h => h⟩, trivial⟩, rowsC_les prfC_les rfl, ?_, trivial⟩⟩
     ·rw [← i4]
      dsimp only
      congr 1
      omega
     ·refine rowsC_les entC_les ?_
      rw [rowsC_append]
      simp only [rowsC, List.append_nil]
      rfl
    ·conv => whnf
     repeat ((first | refine ifB_t ?_ | refine ⟨(⟨by kernel_rfl, by kernel_rfl, Nat.le_of_ble_eq_true (by kernel_rfl)⟩ : AV.ones _ = true ∧ _ ∧ _), ?_⟩ | refine ⟨_, rfl, ?_⟩); conv => whnf)
     refine Does.tidy [(0, .ptr 0 0), (2, .ptr 1 0), (3, .ptr 2 0), (7, .int .i64 c), (8, .ptr 5 0)] [(0, rowC ⟨ral, true || decide (er ≠ 0)⟩), (1, msgV 0 0 0 .nil .nil .nil), (2, msgV 2 f.n t.n .nil (.sl 3 0 zs.length 266 false) (.sl 4 0 ps.length 133 false)), (3, rowsC prfC zs), (4, rowsC entC ps), (5, entC p)] 6 88 rfl rfl rfl (by kernel_rfl) (by kernel_rfl) ?_
     refine wpc_sound (M := MW) (PL := PL0) (CU := noCut) TTok mixed _ _ _ ?_
     conv => whnf
     repeat ((first | (refine Or.inl ⟨⟨rfl, ?_⟩, ?_⟩; (focus (first | rfl | (simp; done) | (rw [toksC_length]; omega)))) | refine ⟨rfl, ?_⟩ | refine ⟨_, rfl, ?_⟩ | refine ⟨⟨rfl, rfl⟩, ?_⟩); conv => whnf)
     refine ⟨⟨rfl, rfl, by rw [ents_len]; omega, by simp [limB]; omega⟩, ?_⟩
     conv => whnf
     repeat ((first | (refine fit_i64 ⟨by first | omega | rfl | (dsimp only; omega), by first | omega | rfl | (dsimp only; omega)⟩ ?_) | refine ⟨(⟨by kernel_rfl, by kernel_rfl, Nat.le_of_ble_eq_true (by kernel_rfl)⟩ : AV.ones _ = true ∧ _ ∧ _), ?_⟩); conv => whnf)
     refine ⟨(c - 1, ⟨ral, true || decide (er ≠ 0)⟩, ps ++ [p]), ⟨nx, by dsimp only; omega, ?_⟩, by dsimp only; omega, weaker_of [(1, 1), (2, 2), (3, 3), (4, 7)] rfl rfl ⟨⟨rfl, rfl⟩, ⟨rfl, rfl⟩, ⟨rfl, rfl⟩, ⟨rfl, rfl⟩, trivial⟩ ⟨⟨⟨rfl, rfl, pureL_toks _⟩, rfl, trivial⟩, ⟨⟨rfl, rfl⟩, ⟨rfl, rfl⟩, ⟨rfl, rfl⟩, trivial, trivial, trivial, trivial⟩, ⟨⟨rfl, rfl⟩, ⟨rfl, rfl⟩, ⟨rfl, rfl⟩, trivial, ⟨rfl, rfl, rfl, rfl, fun h => h⟩, ⟨rfl, rfl, lm.symm, rfl, fun h => h⟩, trivial⟩, rowsC_les prfC_les rfl, ?_, trivial⟩⟩
     ·rw [← i4]
      dsimp only
      congr 1
      omega
     ·refine rowsC_les entC_les ?_
      rw [rowsC_append]
      simp only [rowsC, List.append_nil]
      rfl
   ·rw [if_pos c2] at i4
    rw [← i4]
    refine wpc_sound (M := MW) (PL := PL0) (CU := noCut) TTok mixed _ _ _ ?_
    conv => whnf
    repeat ((first | refine ifB_t ?_ | (refine ifB_pos (decide_eq_true (by first | omega | rfl | (dsimp only; omega))) ?_) | refine ⟨_, rfl, ?_⟩); conv => whnf)
    refine ifB_neg (by rw [c2]; rfl) ?_
    conv => whnf
    refine Does.freeze 4 rfl (Does.freeze 3 (zs := rowsC prfC zs) (by show some (frzL 4 _ (rowsC prfC zs)) = _; rw [rowsC_frz (fun x => prfC_frz _ _ x)]) (Does.tidy [(2, .ptr 1 0), (3, .ptr 2 0)] [(0, rowC r), (1, msgV 0 0 0 .nil .nil .nil), (2, msgV 2 f.n t.n .nil (.ro zs.length (List.take (zs.length * 266) (List.drop 0 (rowsC prfC zs)))) (.ro ps.length (List.take (ps.length * 133) (List.drop 0 (rowsC entC ps)))))] 5 88 rfl rfl rfl (by kernel_rfl) (by kernel_rfl) ?_))
    rw [rowsC_whole prfC_length, rowsC_whole entC_length]
    refine wpc_sound (M := MW) (PL := PL0) (CU := noCut) TTok mixed _ _ _ ?_
    conv => whnf
    repeat ((first | refine ⟨(⟨by kernel_rfl, by kernel_rfl, Nat.le_of_ble_eq_true (by kernel_rfl)⟩ : AV.ones _ = true ∧ _ ∧ _), ?_⟩ | refine ⟨rfl, ?_⟩ | refine ⟨_, rfl, ?_⟩ | refine ⟨⟨rfl, rfl⟩, ?_⟩ | (refine ⟨⟨rfl, rfl, ?_⟩, ?_⟩; (focus (first | assumption | exact pureL_bys _ | exact pureL_toks _)))); conv => whnf)
    refine ⟨⟨rfl, rfl, prfs_pure _⟩, ?_⟩
    conv => whnf
    refine ⟨⟨rfl, rfl, ents_pure _⟩, ?_⟩
    conv => whnf
    rfl
  ·exact weaker_of [(1, 1), (2, 2), (3, 3)] rfl rfl ⟨⟨rfl, rfl⟩, ⟨rfl, rfl⟩, ⟨rfl, rfl⟩, ⟨rfl, rfl⟩, trivial⟩ ⟨⟨⟨rfl, rfl, pureL_toks _⟩, rfl, trivial⟩, ⟨⟨rfl, rfl⟩, ⟨rfl, rfl⟩, ⟨rfl, rfl⟩, trivial, trivial, trivial, trivial⟩, ⟨⟨rfl, rfl⟩, ⟨rfl, rfl⟩, ⟨rfl, rfl⟩, trivial, ⟨rfl, rfl, rfl, rfl, fun h => h⟩, rfl, trivial⟩, rowsC_les prfC_les rfl, rfl, trivial⟩
end
section
--KR
attribute [local irreducible] ifB fitP Does Weaker
def msg0 : Msg := ⟨0, 0, 0, [], [], []⟩
def rdFin (q : Msg × Rw) : Msg × Int := if (!q.2.bad && decide (q.2.l = [])) = true then (if msgR q.1 = true then (q.1, 0) else (msg0, 3)) else (msg0, 3)
def rdM (r : Rw) : Msg × Int :=
 match rNext 5 r with
 | (li, r1) => match rNext 1 r1 with
  | (mk, r2) => if li.n = 4 ∧ mk.n = 3 then rdFin (rdFr r2) else if li.n = 5 ∧ mk.n = 4 then rdFin (rdAn r2) else (msg0, 3)
def rdMsg (b : List Int) : Msg × Int := rdM (rOpen b)
theorem rOpen_len (b : List Int) : (rOpen b).l.length ≤ 600 := by
 unfold rOpen
 rcases decR_or validR b with h | ⟨l, h, he, _⟩
 ·rw [h]; simp
 ·rw [h]; exact (encR_yes he).1
theorem frLoop_inv {N : Nat} : ∀ (k : Nat) (r : Rw) (hs : List Hd), RwOk r → hs.length + r.l.length ≤ N → (∀ h ∈ hs, HdS h) → RwOk (frLoop k r hs).2 ∧ (frLoop k r hs).1.length + (frLoop k r hs).2.l.length ≤ N ∧ ∀ h ∈ (frLoop k r hs).1, HdS h
 | 0, r, hs, h1, h2, h3 => ⟨h1, h2, h3⟩
 | k + 1, r, hs, h1, h2, h3 => by
  have k5 := rNext_rok h1 5
  have l5 := rNext_len 5 r
  have u5 := rNext_use 5 r
  rw [frLoop_s]
  split
  ·exact ⟨h1, h2, h3⟩
  split
  ·exact ⟨k5.1, by dsimp only; omega, h3⟩
  rename_i c
  have u := u5 (by omega)
  have hd := rdHd_ok k5.1
  refine frLoop_inv k _ _ hd.2.1 ?_ ?_
  ·have := hd.2.2
   simp only [List.length_append, List.length_singleton]
   omega
  ·intro x hx
   rcases List.mem_append.1 hx with hx | hx
   ·exact h3 x hx
   ·rw [List.mem_singleton] at hx
    rw [hx]
    exact hd.1
theorem rdFr_ok {r : Rw} (h : RwOk r) (hl : r.l.length ≤ 1000000) : MsgS (rdFr r).1 ∧ RwOk (rdFr r).2 := by
 unfold rdFr
 have k1 := rNext_rok h 1
 have l1 := rNext_len 1 r
 generalize rNext 1 r = q at k1 l1 ⊢
 obtain ⟨f, r1⟩ := q
 dsimp only at k1 l1 ⊢
 have k2 := rNext_rok k1.1 1
 have l2 := rNext_len 1 r1
 generalize rNext 1 r1 = q at k2 l2 ⊢
 obtain ⟨t, r2⟩ := q
 dsimp only at k2 l2 ⊢
 have k3 := rNext_rok k2.1 5
 have l3 := rNext_len 5 r2
 generalize rNext 5 r2 = q at k3 l3 ⊢
 obtain ⟨n, r3⟩ := q
 dsimp only at k3 l3 ⊢
 have i := frLoop_inv (N := 1000000) n.n.toNat r3 [] k3.1 (by simp; omega) (fun h hh => absurd hh (List.not_mem_nil))
 exact ⟨{ kind := ⟨by dsimp only; omega, by dsimp only; omega⟩, frm := k1.2.1.2.1, to := k2.2.1.2.1, hs := i.2.2, ps := fun h hh => absurd hh (List.not_mem_nil), es := fun h hh => absurd hh (List.not_mem_nil), hl := by have := i.2.1; dsimp only; omega, pl := by simp, el := by simp }, i.1⟩
theorem rdAn_ok {r : Rw} (h : RwOk r) (hl : r.l.length ≤ 1000000) : MsgS (rdAn r).1 ∧ RwOk (rdAn r).2 := by
 unfold rdAn
 have k1 := rNext_rok h 1
 have l1 := rNext_len 1 r
 generalize rNext 1 r = q at k1 l1 ⊢
 obtain ⟨f, r1⟩ := q
 dsimp only at k1 l1 ⊢
 have k2 := rNext_rok k1.1 1
 have l2 := rNext_len 1 r1
 generalize rNext 1 r1 = q at k2 l2 ⊢
 obtain ⟨t, r2⟩ := q
 dsimp only at k2 l2 ⊢
 have k3 := rNext_rok k2.1 5
 have l3 := rNext_len 5 r2
 generalize rNext 5 r2 = q at k3 l3 ⊢
 obtain ⟨n, r3⟩ := q
 dsimp only at k3 l3 ⊢
 have i := anInv_loop (N := 1000000) (rd := rdPrf) (ok := PrfS) (fun b hb hl => (rdPrf_prfS hb hl).1) n.n.toNat r3 [] ⟨k3.1, by simp; omega, fun h hh => absurd hh (List.not_mem_nil)⟩
 generalize anLoop rdPrf n.n.toNat r3 [] = q at i ⊢
 obtain ⟨ps, r4⟩ := q
 dsimp only at i ⊢
 have i2 := i.2.1
 have l4 : ps.length ≤ 1000001 ∧ r4.l.length ≤ 1000001 := by split at i2 <;> omega
 have k5 := rNext_rok i.1 5
 have l5 := rNext_len 5 r4
 generalize rNext 5 r4 = q at k5 l5 ⊢
 obtain ⟨n2, r5⟩ := q
 dsimp only at k5 l5 ⊢
 have j := anInv_loop (N := 1000001) (rd := rdEnt) (ok := EntS) (fun b hb hl => (rdEnt_entS hb hl).1) n2.n.toNat r5 [] ⟨k5.1, by simp; omega, fun h hh => absurd hh (List.not_mem_nil)⟩
 have j2 := j.2.1
 exact ⟨{ kind := ⟨by dsimp only; omega, by dsimp only; omega⟩, frm := k1.2.1.2.1, to := k2.2.1.2.1, hs := fun h hh => absurd hh (List.not_mem_nil), ps := i.2.2, es := j.2.2, hl := by simp, pl := by dsimp only; omega, el := by dsimp only; split at j2 <;> omega }, j.1⟩
set_option maxHeartbeats 1000000 in
theorem mread_ok (b : List Int) (hb : Byt b) (hl : b.length ≤ 1000000000) : ACall Tryd.prog 25 [.ro b.length (bys b)] (.tuple [.agg (msgC (rdMsg b).1), .int .i64 (rdMsg b).2]) [] := by
 have k0 := rOpen_rok hb hl
 have l0 := rOpen_len b
 have h0 := open_ok b hb (by omega)
 unfold rdMsg
 generalize rOpen b = r0 at k0 h0 l0 ⊢
 unfold rdM
 have h1 := rlist_ok r0
 have k1 := rNext_rok k0 5
 have l1 := rNext_len 5 r0
 generalize rNext 5 r0 = q at h1 k1 l1 ⊢
 obtain ⟨li, r1⟩ := q
 dsimp only at h1 k1 l1 ⊢
 have h2 := rnum_ok r1
 have k2 := rNext_rok k1.1 1
 have l2 := rNext_len 1 r1
 generalize rNext 1 r1 = q at h2 k2 l2 ⊢
 obtain ⟨mk, r2⟩ := q
 dsimp only at h2 k2 l2 ⊢
 have h3 := frontier_ok r2 k2.1 (by omega)
 have k3 := rdFr_ok k2.1 (by omega)
 have h4 := answer_ok r2 k2.1 (by omega)
 have k4 := rdAn_ok k2.1 (by omega)
 generalize rdFr r2 = q at h3 k3 ⊢
 obtain ⟨m1, s1⟩ := q
 generalize rdAn r2 = q at h4 k4 ⊢
 obtain ⟨m2, s2⟩ := q
 dsimp only at h3 k3 h4 k4 ⊢
 refine ACall.of_does TTok Tryd.func25 rfl Tryd.call25 rfl (wpc_sound (M := MW) (PL := PL0) (CU := cutAt [100009]) TTok mixed _ _ _ ?_)
 conv => whnf
 repeat ((first | refine ⟨pureL_bys _, ?_⟩ | refine ⟨rfl, ?_⟩); conv => whnf)
 refine ⟨_, _, h0, by first | rfl | simp [noRoIf, noRoL, noRoV, noRoL_bys], ?_⟩
 conv => whnf
 repeat ((first | refine ⟨rfl, ?_⟩ | (refine And.intro ?_ ?_; (focus (first | (simp only [pureL, pureV, pureL_bys, Bool.and_true, Bool.and_self]; done) | (simp only [pureL, pureV, pureL_bys, pureL_toks, Bool.and_true, Bool.and_self]; done))))); conv => whnf)
 refine ⟨_, _, h1, by first | rfl | simp [noRoIf, noRoL, noRoV, noRoL_bys], ?_⟩
 conv => whnf
 repeat ((first | refine ⟨rfl, ?_⟩ | (refine And.intro ?_ ?_; (focus (first | (simp only [pureL, pureV, pureL_bys, Bool.and_true, Bool.and_self]; done) | (simp only [pureL, pureV, pureL_bys, pureL_toks, Bool.and_true, Bool.and_self]; done))))); conv => whnf)
 refine ⟨_, _, h2, by first | rfl | simp [noRoIf, noRoL, noRoV, noRoL_bys], ?_⟩
 conv => whnf
 by_cases c1 : li.n = 4 ∧ mk.n = 3
 ·rw [if_pos c1]
  obtain ⟨c1, c2⟩ := c1
  conv => whnf
  repeat ((first | refine ifB_t ?_ | (refine ifB_pos (decide_eq_true (by first | omega | rfl | (dsimp only; omega))) ?_) | refine ⟨rfl, ?_⟩ | (refine And.intro ?_ ?_; (focus (first | (simp only [pureL, pureV, pureL_bys, Bool.and_true, Bool.and_self]; done) | (simp only [pureL, pureV, pureL_bys, pureL_toks, Bool.and_true, Bool.and_self]; done))))); conv => whnf)
  refine ⟨_, _, h3, by first | rfl | simp [noRoIf, noRoL, noRoV, noRoL_bys], ?_⟩
  conv => whnf
  repeat ((refine ⟨(⟨by kernel_rfl, by kernel_rfl, Nat.le_of_ble_eq_true (by kernel_rfl)⟩ : AV.ones _ = true ∧ _ ∧ _), ?_⟩); conv => whnf)
  refine Does.tidy [(2, .ptr 0 0), (4, .ptr 1 0), (5, .ptr 2 0)] [(0, msgV 0 0 0 .nil .nil .nil), (1, rowC s1), (2, msgC m1)] 3 43 rfl rfl rfl (by kernel_rfl) (by kernel_rfl) ?_
  unfold rdFin
  dsimp only
  have h5 := rdone_ok s1
  have h6 := check_msg_ok m1 k3.1
  generalize (!s1.bad && decide (s1.l = [])) = dn at h5 ⊢
  clear h0 h1 h2 h3 h4
  refine wpc_sound (M := MW) (PL := PL0) (CU := noCut) TTok mixed _ _ _ ?_
  conv => whnf
  repeat ((first | refine ⟨rfl, ?_⟩ | (refine And.intro ?_ ?_; (focus (first | (simp only [pureL, pureV, pureL_bys, Bool.and_true, Bool.and_self]; done) | (simp only [pureL, pureV, pureL_bys, pureL_toks, Bool.and_true, Bool.and_self]; done))))); conv => whnf)
  refine ⟨_, _, h5, by first | rfl | simp [noRoIf, noRoL, noRoV, noRoL_bys], ?_⟩
  conv => whnf
  cases dn
  ·conv => whnf
   repeat ((first | refine ifB_t ?_ | refine ⟨(⟨by kernel_rfl, by kernel_rfl, Nat.le_of_ble_eq_true (by kernel_rfl)⟩ : AV.ones _ = true ∧ _ ∧ _), ?_⟩ | refine ⟨_, rfl, ?_⟩ | refine ⟨⟨rfl, rfl⟩, ?_⟩); conv => whnf)
   rfl
  simp only [if_true]
  cases c5 : msgR m1 <;> rw [c5] at h6
  ·conv => whnf
   repeat ((first | refine ifB_f ?_ | refine ⟨rfl, ?_⟩ | refine ⟨_, rfl, ?_⟩ | refine ⟨(show pureL _ = true from by first | exact prfC_pure _ | exact hdC_pure _ | exact msgC_pure _ | exact letC_pure _), ?_⟩); conv => whnf)
   refine ⟨_, _, h6, by first | rfl | simp [noRoIf, noRoL, noRoV, noRoL_bys], ?_⟩
   conv => whnf
   repeat ((first | refine ifB_t ?_ | refine ifB_f ?_ | refine ⟨(⟨by kernel_rfl, by kernel_rfl, Nat.le_of_ble_eq_true (by kernel_rfl)⟩ : AV.ones _ = true ∧ _ ∧ _), ?_⟩ | refine ⟨_, rfl, ?_⟩ | refine ⟨⟨rfl, rfl⟩, ?_⟩); conv => whnf)
   rfl
  ·conv => whnf
   repeat ((first | refine ifB_f ?_ | refine ⟨rfl, ?_⟩ | refine ⟨_, rfl, ?_⟩ | refine ⟨(show pureL _ = true from by first | exact prfC_pure _ | exact hdC_pure _ | exact msgC_pure _ | exact letC_pure _), ?_⟩); conv => whnf)
   refine ⟨_, _, h6, by first | rfl | simp [noRoIf, noRoL, noRoV, noRoL_bys], ?_⟩
   conv => whnf
   repeat ((first | refine ifB_f ?_ | refine ⟨(⟨by kernel_rfl, by kernel_rfl, Nat.le_of_ble_eq_true (by kernel_rfl)⟩ : AV.ones _ = true ∧ _ ∧ _), ?_⟩ | refine ⟨_, rfl, ?_⟩ | refine ⟨⟨rfl, rfl⟩, ?_⟩); conv => whnf)
   refine ⟨⟨rfl, rfl, hds_pure _⟩, ?_⟩
   conv => whnf
   refine ⟨⟨rfl, rfl, prfs_pure _⟩, ?_⟩
   conv => whnf
   refine ⟨⟨rfl, rfl, ents_pure _⟩, ?_⟩
   conv => whnf
   repeat ((refine ⟨⟨rfl, rfl⟩, ?_⟩); conv => whnf)
   rfl
 rw [if_neg c1]
 by_cases c2 : li.n = 5 ∧ mk.n = 4
 ·rw [if_pos c2]
  obtain ⟨c2, c3⟩ := c2
  conv => whnf
  repeat ((first | refine ifB_t ?_ | refine ifB_f ?_ | (refine ifB_neg (decide_eq_false (by first | omega | rfl | (dsimp only; omega))) ?_) | (refine ifB_pos (decide_eq_true (by first | omega | rfl | (dsimp only; omega))) ?_) | refine ⟨rfl, ?_⟩ | (refine And.intro ?_ ?_; (focus (first | (simp only [pureL, pureV, pureL_bys, Bool.and_true, Bool.and_self]; done) | (simp only [pureL, pureV, pureL_bys, pureL_toks, Bool.and_true, Bool.and_self]; done))))); conv => whnf)
  refine ⟨_, _, h4, by first | rfl | simp [noRoIf, noRoL, noRoV, noRoL_bys], ?_⟩
  conv => whnf
  repeat ((refine ⟨(⟨by kernel_rfl, by kernel_rfl, Nat.le_of_ble_eq_true (by kernel_rfl)⟩ : AV.ones _ = true ∧ _ ∧ _), ?_⟩); conv => whnf)
  refine Does.tidy [(2, .ptr 0 0), (4, .ptr 1 0), (5, .ptr 2 0)] [(0, msgV 0 0 0 .nil .nil .nil), (1, rowC s2), (2, msgC m2)] 3 43 rfl rfl rfl (by kernel_rfl) (by kernel_rfl) ?_
  unfold rdFin
  dsimp only
  have h5 := rdone_ok s2
  have h6 := check_msg_ok m2 k4.1
  generalize (!s2.bad && decide (s2.l = [])) = dn at h5 ⊢
  clear h0 h1 h2 h3 h4
  refine wpc_sound (M := MW) (PL := PL0) (CU := noCut) TTok mixed _ _ _ ?_
  conv => whnf
  repeat ((first | refine ⟨rfl, ?_⟩ | (refine And.intro ?_ ?_; (focus (first | (simp only [pureL, pureV, pureL_bys, Bool.and_true, Bool.and_self]; done) | (simp only [pureL, pureV, pureL_bys, pureL_toks, Bool.and_true, Bool.and_self]; done))))); conv => whnf)
  refine ⟨_, _, h5, by first | rfl | simp [noRoIf, noRoL, noRoV, noRoL_bys], ?_⟩
  conv => whnf
  cases dn
  ·conv => whnf
   repeat ((first | refine ifB_t ?_ | refine ⟨(⟨by kernel_rfl, by kernel_rfl, Nat.le_of_ble_eq_true (by kernel_rfl)⟩ : AV.ones _ = true ∧ _ ∧ _), ?_⟩ | refine ⟨_, rfl, ?_⟩ | refine ⟨⟨rfl, rfl⟩, ?_⟩); conv => whnf)
   rfl
  simp only [if_true]
  cases c5 : msgR m2 <;> rw [c5] at h6
  ·conv => whnf
   repeat ((first | refine ifB_f ?_ | refine ⟨rfl, ?_⟩ | refine ⟨_, rfl, ?_⟩ | refine ⟨(show pureL _ = true from by first | exact prfC_pure _ | exact hdC_pure _ | exact msgC_pure _ | exact letC_pure _), ?_⟩); conv => whnf)
   refine ⟨_, _, h6, by first | rfl | simp [noRoIf, noRoL, noRoV, noRoL_bys], ?_⟩
   conv => whnf
   repeat ((first | refine ifB_t ?_ | refine ifB_f ?_ | refine ⟨(⟨by kernel_rfl, by kernel_rfl, Nat.le_of_ble_eq_true (by kernel_rfl)⟩ : AV.ones _ = true ∧ _ ∧ _), ?_⟩ | refine ⟨_, rfl, ?_⟩ | refine ⟨⟨rfl, rfl⟩, ?_⟩); conv => whnf)
   rfl
  ·conv => whnf
   repeat ((first | refine ifB_f ?_ | refine ⟨rfl, ?_⟩ | refine ⟨_, rfl, ?_⟩ | refine ⟨(show pureL _ = true from by first | exact prfC_pure _ | exact hdC_pure _ | exact msgC_pure _ | exact letC_pure _), ?_⟩); conv => whnf)
   refine ⟨_, _, h6, by first | rfl | simp [noRoIf, noRoL, noRoV, noRoL_bys], ?_⟩
   conv => whnf
   repeat ((first | refine ifB_f ?_ | refine ⟨(⟨by kernel_rfl, by kernel_rfl, Nat.le_of_ble_eq_true (by kernel_rfl)⟩ : AV.ones _ = true ∧ _ ∧ _), ?_⟩ | refine ⟨_, rfl, ?_⟩ | refine ⟨⟨rfl, rfl⟩, ?_⟩); conv => whnf)
   refine ⟨⟨rfl, rfl, hds_pure _⟩, ?_⟩
   conv => whnf
   refine ⟨⟨rfl, rfl, prfs_pure _⟩, ?_⟩
   conv => whnf
   refine ⟨⟨rfl, rfl, ents_pure _⟩, ?_⟩
   conv => whnf
   repeat ((refine ⟨⟨rfl, rfl⟩, ?_⟩); conv => whnf)
   rfl
 rw [if_neg c2]
 by_cases c3 : li.n = 4
 ·have c4 : mk.n ≠ 3 := fun h => c1 ⟨c3, h⟩
  conv => whnf
  repeat ((first | refine ifB_t ?_ | refine ifB_f ?_ | (refine ifB_neg (decide_eq_false (by first | omega | rfl | (dsimp only; omega))) ?_) | (refine ifB_pos (decide_eq_true (by first | omega | rfl | (dsimp only; omega))) ?_) | refine ⟨(⟨by kernel_rfl, by kernel_rfl, Nat.le_of_ble_eq_true (by kernel_rfl)⟩ : AV.ones _ = true ∧ _ ∧ _), ?_⟩ | refine ⟨_, rfl, ?_⟩ | refine ⟨⟨rfl, rfl⟩, ?_⟩); conv => whnf)
  rfl
 by_cases c5 : li.n = 5
 ·have c4 : mk.n ≠ 4 := fun h => c2 ⟨c5, h⟩
  conv => whnf
  repeat ((first | refine ifB_t ?_ | refine ifB_f ?_ | (refine ifB_neg (decide_eq_false (by first | omega | rfl | (dsimp only; omega))) ?_) | (refine ifB_pos (decide_eq_true (by first | omega | rfl | (dsimp only; omega))) ?_) | refine ⟨(⟨by kernel_rfl, by kernel_rfl, Nat.le_of_ble_eq_true (by kernel_rfl)⟩ : AV.ones _ = true ∧ _ ∧ _), ?_⟩ | refine ⟨_, rfl, ?_⟩ | refine ⟨⟨rfl, rfl⟩, ?_⟩); conv => whnf)
  rfl
 conv => whnf
 repeat ((first | refine ifB_f ?_ | (refine ifB_neg (decide_eq_false (by first | omega | rfl | (dsimp only; omega))) ?_) | refine ⟨(⟨by kernel_rfl, by kernel_rfl, Nat.le_of_ble_eq_true (by kernel_rfl)⟩ : AV.ones _ = true ∧ _ ∧ _), ?_⟩ | refine ⟨_, rfl, ?_⟩ | refine ⟨⟨rfl, rfl⟩, ?_⟩); conv => whnf)
 rfl
end
section

def Norm (t : Tok) : Prop := ((t.k = 3 ∨ t.k = 4) → t.n = 0) ∧ ((t.k ≠ 3 ∧ t.k ≠ 4) → t.b = [])
def NOk (p : Pa) : Prop := ∀ t ∈ p.l, Norm t
theorem nok_snoc {l : List Tok} {x : Nat} {bd : Bool} {t : Tok} (h : ∀ t ∈ l, Norm t) (ht : Norm t) : NOk ⟨x, l ++ [t], bd⟩ := by
 intro s hs
 rcases List.mem_append.1 hs with hs | hs
 ·exact h s hs
 ·simp at hs; subst hs; exact ht
theorem pMany_nok (g : Pa → Pa) (hg : ∀ p, NOk p → NOk (g p)) : ∀ (n : Nat) (p : Pa), NOk p → NOk (pMany g n p)
 | 0, p, h => h
 | n + 1, p, h => by
  unfold pMany
  split
  ·exact h
  ·exact pMany_nok g hg n _ (hg p h)
theorem pPart_nok (b : List Int) (k n : Int) (hk : k = 3 ∨ k = 4) (next : Nat) (l : List Tok) (h : ∀ t ∈ l, Norm t) : NOk (pPart b k n next l) := by
 unfold pPart
 split
 ·exact nok_snoc h ⟨fun _ => rfl, fun _ => rfl⟩
 ·exact nok_snoc h ⟨fun _ => rfl, fun c => by dsimp only at c; omega⟩
theorem pGo_nok (b : List Int) (g : Pa → Pa) (hg : ∀ p, NOk p → NOk (g p)) (m n : Int) (next : Nat) (l : List Tok) (h : ∀ t ∈ l, Norm t) : NOk (pGo b g m n next l) := by
 have key : ∀ k : Int, k ≠ 3 → k ≠ 4 → NOk ⟨next, l ++ [⟨k, n, []⟩], false⟩ := fun k h1 h2 => nok_snoc h ⟨fun c => by dsimp only at c; omega, fun _ => rfl⟩
 unfold pGo
 split
 ·exact key 1 (by omega) (by omega)
 split
 ·exact key 2 (by omega) (by omega)
 split
 ·exact pPart_nok b _ n (.inl rfl) next l h
 split
 ·exact pPart_nok b _ n (.inr rfl) next l h
 split
 ·exact pMany_nok g hg _ _ (key 5 (by omega) (by omega))
 split
 ·exact pMany_nok g hg _ _ (key 6 (by omega) (by omega))
 ·exact h
theorem pItem_nok (b : List Int) : ∀ (f : Nat) (p : Pa), NOk p → NOk (pItem b f p)
 | 0, p, h => h
 | f + 1, p, h => by
  unfold pItem
  split
  ·exact h
  ·exact pGo_nok b _ (fun p hp => pItem_nok b f p hp) _ _ _ _ h
theorem rOpen_norm (b : List Int) : ∀ t ∈ (rOpen b).l, Norm t := by
 unfold rOpen
 rcases decR_or validR b with h | ⟨l, h, _, hp⟩
 ·rw [h]; exact fun t ht => absurd ht (List.not_mem_nil)
 ·rw [h]
  have := pItem_nok b 7 ⟨0, [], false⟩ (fun t ht => absurd ht (List.not_mem_nil))
  rw [hp] at this
  exact this
theorem rOpen_good {b : List Int} (h : (rOpen b).bad = false) : encR validR (rOpen b).l = (b, 0) ∧ decR validR b = ((rOpen b).l, 0) := by
 unfold rOpen at h ⊢
 rcases decR_or validR b with e | ⟨l, e, he, _⟩
 ·rw [e] at h; cases h
 ·rw [e]; exact ⟨he, rfl⟩
theorem rOpen_enc {l : List Tok} {a : List Int} (hl : ToksOk l) (h : encR validR l = (a, 0)) : rOpen a = ⟨l, false⟩ := by
 unfold rOpen
 rw [decR_enc hl h]
 rfl
theorem rNext_inv {k : Int} {r : Rw} (h : (rNext k r).2.bad = false) : ∃ t q, r = ⟨t :: q, false⟩ ∧ t.k = k ∧ rNext k r = (t, ⟨q, false⟩) := by
 obtain ⟨l, bad⟩ := r
 unfold rNext at h ⊢
 split at h
 ·cases h
 ·rename_i hb
  rw [if_neg hb]
  cases l with
  | nil => cases h
  | cons t q =>
   dsimp only at h ⊢
   split at h
   ·rename_i hk
    rw [if_pos hk]
    refine ⟨t, q, ?_, hk, rfl⟩
    cases bad
    ·rfl
    ·exact absurd rfl hb
   ·cases h
theorem rNext_cons {k : Int} {t : Tok} {q : List Tok} (h : t.k = k) : rNext k ⟨t :: q, false⟩ = (t, ⟨q, false⟩) := by
 unfold rNext; simp [h]
theorem rArr_inv {m : Nat} {r : Rw} (h : (rArr m r).2.bad = false) : ∃ t q, r = ⟨t :: q, false⟩ ∧ t.k = 3 ∧ t.b.length = m ∧ rArr m r = (t.b, ⟨q, false⟩) := by
 unfold rArr at h ⊢
 split at h
 ·rename_i c
  obtain ⟨t, q, h1, h2, h3⟩ := rNext_inv h
  rw [if_pos c]
  rw [h3] at c ⊢
  exact ⟨t, q, h1, h2, c, rfl⟩
 ·cases h
theorem rArr_cons {m : Nat} {t : Tok} {q : List Tok} (h : t.k = 3) (hm : t.b.length = m) : rArr m ⟨t :: q, false⟩ = (t.b, ⟨q, false⟩) := by
 unfold rArr; rw [rNext_cons h]; simp [hm]
theorem rWant_inv {m f : Int} {r : Rw} (h : (rWant m f r).bad = false) : ∃ t s q, r = ⟨t :: s :: q, false⟩ ∧ t.k = 5 ∧ t.n = m ∧ s.k = 1 ∧ s.n = f ∧ rWant m f r = ⟨q, false⟩ := by
 unfold rWant at h ⊢
 split at h
 ·cases h
 ·rename_i c
  split at h
  ·cases h
  ·rename_i d
   obtain ⟨s, q, h1, h2, h3⟩ := rNext_inv h
   obtain ⟨t, q', k1, k2, k3⟩ := rNext_inv (k := 5) (r := r) (by rw [h1])
   rw [if_neg c, if_neg d]
   rw [k3] at c d h1 h3 ⊢
   dsimp only at c d h1 h3 ⊢
   cases h1
   rw [h3] at d ⊢
   exact ⟨t, s, q, k1, k2, Classical.not_not.1 c, h2, Classical.not_not.1 d, rfl⟩
theorem rWant_cons {m f : Int} {t s : Tok} {q : List Tok} (h1 : t.k = 5) (h2 : t.n = m) (h3 : s.k = 1) (h4 : s.n = f) : rWant m f ⟨t :: s :: q, false⟩ = ⟨q, false⟩ := by
 unfold rWant
 rw [rNext_cons h1]
 dsimp only
 rw [if_neg (by omega), rNext_cons h3]
 dsimp only
 rw [if_neg (by omega)]
theorem tok_eq {t : Tok} (h : Norm t) : (t.k = 3 ∨ t.k = 4) → t = ⟨t.k, 0, t.b⟩ := fun c => by
 obtain ⟨k, n, b⟩ := t
 have := h.1 c
 dsimp only at this ⊢
 rw [this]
theorem tok_eq' {t : Tok} (h : Norm t) : (t.k ≠ 3 ∧ t.k ≠ 4) → t = ⟨t.k, t.n, []⟩ := fun c => by
 obtain ⟨k, n, b⟩ := t
 have := h.2 c
 dsimp only at this ⊢
 rw [this]
theorem rdE_or (r : Rw) : rdE r = (ent0, 3) ∨ (rdE r).2 = 0 := by
 unfold rdE
 dsimp only
 split
 ·exact .inl rfl
 split
 ·split
  ·exact .inr rfl
  ·exact .inl rfl
 ·exact .inl rfl
theorem rdE_cons {t2 t3 t4 t5 t6 t7 t8 t9 t10 : Tok} (h2 : t2.k = 3) (m2 : t2.b.length = 32) (h3 : t3.k = 1) (h4 : t4.k = 3) (m4 : t4.b.length = 32) (h5 : t5.k = 1) (h6 : t6.k = 5) (h7 : t7.k = 1) (h8 : t8.k = 4) (h9 : t9.k = 3) (h10 : t10.k = 3) (m10 : t10.b.length = 64) :
  rdE ⟨[t2, t3, t4, t5, t6, t7, t8, t9, t10], false⟩ = if t6.n ≠ 3 then (ent0, 3) else if entR ⟨t2.b, t3.n, t4.b, t5.n, t7.n, t8.b, t9.b, t10.b⟩ = true then (⟨t2.b, t3.n, t4.b, t5.n, t7.n, t8.b, t9.b, t10.b⟩, 0) else (ent0, 3) := by
 unfold rdE
 rw [rArr_cons h2 m2]; dsimp only
 rw [rNext_cons h3]; dsimp only
 rw [rArr_cons h4 m4]; dsimp only
 rw [rNext_cons h5]; dsimp only
 rw [rNext_cons h6]; dsimp only
 rw [rNext_cons h7]; dsimp only
 rw [rNext_cons h8]; dsimp only
 rw [rNext_cons h9]; dsimp only
 rw [rArr_cons h10 m10]; dsimp only
 rfl
theorem rdE_eq (r : Rw) : rdE r = if (rNext 5 (rNext 1 (rArr 32 (rNext 1 (rArr 32 r).2).2).2).2).1.n ≠ 3 then (ent0, 3) else
  if (!(rArr 64 (rNext 3 (rNext 4 (rNext 1 (rNext 5 (rNext 1 (rArr 32 (rNext 1 (rArr 32 r).2).2).2).2).2).2).2).2).2.bad && decide ((rArr 64 (rNext 3 (rNext 4 (rNext 1 (rNext 5 (rNext 1 (rArr 32 (rNext 1 (rArr 32 r).2).2).2).2).2).2).2).2).2.l = [])) = true then
  (if entR ⟨(rArr 32 r).1, (rNext 1 (rArr 32 r).2).1.n, (rArr 32 (rNext 1 (rArr 32 r).2).2).1, (rNext 1 (rArr 32 (rNext 1 (rArr 32 r).2).2).2).1.n, (rNext 1 (rNext 5 (rNext 1 (rArr 32 (rNext 1 (rArr 32 r).2).2).2).2).2).1.n, (rNext 4 (rNext 1 (rNext 5 (rNext 1 (rArr 32 (rNext 1 (rArr 32 r).2).2).2).2).2).2).1.b, (rNext 3 (rNext 4 (rNext 1 (rNext 5 (rNext 1 (rArr 32 (rNext 1 (rArr 32 r).2).2).2).2).2).2).2).1.b, (rArr 64 (rNext 3 (rNext 4 (rNext 1 (rNext 5 (rNext 1 (rArr 32 (rNext 1 (rArr 32 r).2).2).2).2).2).2).2).2).1⟩ = true then (⟨(rArr 32 r).1, (rNext 1 (rArr 32 r).2).1.n, (rArr 32 (rNext 1 (rArr 32 r).2).2).1, (rNext 1 (rArr 32 (rNext 1 (rArr 32 r).2).2).2).1.n, (rNext 1 (rNext 5 (rNext 1 (rArr 32 (rNext 1 (rArr 32 r).2).2).2).2).2).1.n, (rNext 4 (rNext 1 (rNext 5 (rNext 1 (rArr 32 (rNext 1 (rArr 32 r).2).2).2).2).2).2).1.b, (rNext 3 (rNext 4 (rNext 1 (rNext 5 (rNext 1 (rArr 32 (rNext 1 (rArr 32 r).2).2).2).2).2).2).2).1.b, (rArr 64 (rNext 3 (rNext 4 (rNext 1 (rNext 5 (rNext 1 (rArr 32 (rNext 1 (rArr 32 r).2).2).2).2).2).2).2).2).1⟩, 0) else (ent0, 3)) else (ent0, 3) := rfl
theorem rdE_inv {r : Rw} (h : (rdE r).2 = 0) : ∃ t2 t3 t4 t5 t6 t7 t8 t9 t10 : Tok, r = ⟨[t2, t3, t4, t5, t6, t7, t8, t9, t10], false⟩ ∧ (t2.k = 3 ∧ t2.b.length = 32) ∧ t3.k = 1 ∧ (t4.k = 3 ∧ t4.b.length = 32) ∧ t5.k = 1 ∧ (t6.k = 5 ∧ t6.n = 3) ∧ t7.k = 1 ∧ t8.k = 4 ∧ t9.k = 3 ∧ (t10.k = 3 ∧ t10.b.length = 64) ∧
  rdE r = (⟨t2.b, t3.n, t4.b, t5.n, t7.n, t8.b, t9.b, t10.b⟩, 0) ∧ entR ⟨t2.b, t3.n, t4.b, t5.n, t7.n, t8.b, t9.b, t10.b⟩ = true := by
 have h' := h
 rw [rdE_eq] at h'
 split at h'
 ·cases h'
 split at h'
 case isFalse => cases h'
 rename_i c d
 clear h'
 simp only [Bool.and_eq_true, Bool.not_eq_true', decide_eq_true_eq] at d
 obtain ⟨d1, d2⟩ := d
 obtain ⟨t10, q10, e10, k10, m10, x10⟩ := rArr_inv d1
 rw [x10] at d2
 dsimp only at d2
 subst d2
 obtain ⟨t9, q9, e9, k9, x9⟩ := rNext_inv (by rw [e10])
 rw [x9] at e10; dsimp only at e10; injection e10 with e10 _; subst e10
 obtain ⟨t8, q8, e8, k8, x8⟩ := rNext_inv (by rw [e9])
 rw [x8] at e9; dsimp only at e9; injection e9 with e9 _; subst e9
 obtain ⟨t7, q7, e7, k7, x7⟩ := rNext_inv (by rw [e8])
 rw [x7] at e8; dsimp only at e8; injection e8 with e8 _; subst e8
 obtain ⟨t6, q6, e6, k6, x6⟩ := rNext_inv (by rw [e7])
 rw [x6] at e7; dsimp only at e7; injection e7 with e7 _; subst e7
 obtain ⟨t5, q5, e5, k5, x5⟩ := rNext_inv (by rw [e6])
 rw [x5] at e6; dsimp only at e6; injection e6 with e6 _; subst e6
 obtain ⟨t4, q4, e4, k4, m4, x4⟩ := rArr_inv (by rw [e5])
 rw [x4] at e5; dsimp only at e5; injection e5 with e5 _; subst e5
 obtain ⟨t3, q3, e3, k3, x3⟩ := rNext_inv (by rw [e4])
 rw [x3] at e4; dsimp only at e4; injection e4 with e4 _; subst e4
 obtain ⟨t2, q2, e2, k2, m2, x2⟩ := rArr_inv (by rw [e3])
 rw [x2] at e3; dsimp only at e3; injection e3 with e3 _; subst e3
 subst e2
 have hc := rdE_cons k2 m2 k3 k4 m4 k5 k6 k7 k8 k9 k10 m10
 rw [hc] at h ⊢
 split at h
 ·cases h
 rename_i n6
 split at h
 case isFalse => cases h
 rename_i g
 rw [if_neg n6, if_pos g]
 exact ⟨t2, t3, t4, t5, t6, t7, t8, t9, t10, rfl, ⟨k2, m2⟩, k3, ⟨k4, m4⟩, k5, ⟨k6, Classical.not_not.1 n6⟩, k7, k8, k9, ⟨k10, m10⟩, rfl, g⟩
theorem rdEnt_inv {b : List Int} (h : (rdEnt b).2 = 0) : encR validR (entTs (rdEnt b).1) = (b, 0) ∧ entR (rdEnt b).1 = true := by
 have hn := rOpen_norm b
 unfold rdEnt at h ⊢
 obtain ⟨t2, t3, t4, t5, t6, t7, t8, t9, t10, e, h2, h3, h4, h5, h6, h7, h8, h9, h10, hx, hr⟩ := rdE_inv h
 obtain ⟨t0, t1, q, e1, k0, n0, k1, n1, x⟩ := rWant_inv (by rw [e])
 rw [e] at x
 injection x with x _
 subst x
 have hg := (rOpen_good (b := b) (by rw [e1])).1
 rw [e1] at hn hg
 dsimp only at hn hg
 rw [hx]
 refine ⟨?_, hr⟩
 rw [← hg]
 congr 1
 have N := fun t ht => hn t ht
 simp only [List.mem_cons, List.not_mem_nil, or_false, forall_eq_or_imp, forall_eq] at N
 obtain ⟨N0, N1, N2, N3, N4, N5, N6, N7, N8, N9, N10⟩ := N
 rw [tok_eq' N0 (by omega), tok_eq' N1 (by omega), tok_eq N2 (by omega), tok_eq' N3 (by omega), tok_eq N4 (by omega), tok_eq' N5 (by omega), tok_eq' N6 (by omega), tok_eq' N7 (by omega), tok_eq N8 (by omega), tok_eq N9 (by omega), tok_eq N10 (by omega)]
 rw [k0, n0, k1, n1, h2.1, h3, h4.1, h5, h6.1, h6.2, h7, h8, h9, h10.1]
 rfl
theorem rdEnt_enc {e : Ent} (he : EntS e) (hr : entR e = true) {a : List Int} (h : encR validR (entTs e) = (a, 0)) : rdEnt a = (e, 0) := by
 unfold rdEnt
 rw [rOpen_enc (entTs_ok e he).1 h]
 rw [show entTs e = ⟨5, 7, []⟩ :: ⟨1, 1, []⟩ :: [⟨3, 0, e.au⟩, ⟨1, e.seq, []⟩, ⟨3, 0, e.prev⟩, ⟨1, e.stamp, []⟩, ⟨5, 3, []⟩, ⟨1, e.kind, []⟩, ⟨4, 0, e.key⟩, ⟨3, 0, e.val⟩, ⟨3, 0, e.sig⟩] from rfl]
 rw [rWant_cons (m := 7) (f := 1) (t := ⟨5, 7, []⟩) (s := ⟨1, 1, []⟩) rfl rfl rfl rfl, rdE_cons rfl he.au.2 rfl rfl he.prev.2 rfl rfl rfl rfl rfl rfl he.sig.2]
 rw [if_neg (by simp), if_pos hr]
theorem rdEnt_or (b : List Int) : rdEnt b = (ent0, 3) ∨ (rdEnt b).2 = 0 := rdE_or _
theorem rdP_cons {t2 t3 : Tok} (h2 : t2.k = 3) (h3 : t3.k = 3) : rdP ⟨[t2, t3], false⟩ = if (rdEnt t2.b).2 ≠ 0 then (prf0, 3) else if (rdEnt t3.b).2 ≠ 0 then (prf0, 3) else if prfR ⟨(rdEnt t2.b).1, (rdEnt t3.b).1⟩ = true then (⟨(rdEnt t2.b).1, (rdEnt t3.b).1⟩, 0) else (prf0, 3) := by
 unfold rdP
 rw [rNext_cons h2]; dsimp only
 rw [rNext_cons h3]; dsimp only
 rfl
theorem rdP_eq (r : Rw) : rdP r = if (!(rNext 3 (rNext 3 r).2).2.bad && decide ((rNext 3 (rNext 3 r).2).2.l = [])) = true then (if (rdEnt (rNext 3 r).1.b).2 ≠ 0 then (prf0, 3) else if (rdEnt (rNext 3 (rNext 3 r).2).1.b).2 ≠ 0 then (prf0, 3) else if prfR ⟨(rdEnt (rNext 3 r).1.b).1, (rdEnt (rNext 3 (rNext 3 r).2).1.b).1⟩ = true then (⟨(rdEnt (rNext 3 r).1.b).1, (rdEnt (rNext 3 (rNext 3 r).2).1.b).1⟩, 0) else (prf0, 3)) else (prf0, 3) := rfl
theorem rdP_or (r : Rw) : rdP r = (prf0, 3) ∨ (rdP r).2 = 0 := by
 rw [rdP_eq]
 split
 ·split
  ·exact .inl rfl
  split
  ·exact .inl rfl
  split
  ·exact .inr rfl
  ·exact .inl rfl
 ·exact .inl rfl
theorem rdP_inv {r : Rw} (h : (rdP r).2 = 0) : ∃ t2 t3 : Tok, r = ⟨[t2, t3], false⟩ ∧ t2.k = 3 ∧ t3.k = 3 ∧ (rdEnt t2.b).2 = 0 ∧ (rdEnt t3.b).2 = 0 ∧ rdP r = (⟨(rdEnt t2.b).1, (rdEnt t3.b).1⟩, 0) ∧ prfR ⟨(rdEnt t2.b).1, (rdEnt t3.b).1⟩ = true := by
 have h' := h
 rw [rdP_eq] at h'
 split at h'
 case isFalse => cases h'
 rename_i d
 clear h'
 simp only [Bool.and_eq_true, Bool.not_eq_true', decide_eq_true_eq] at d
 obtain ⟨d1, d2⟩ := d
 obtain ⟨t3, q3, e3, k3, x3⟩ := rNext_inv d1
 rw [x3] at d2
 dsimp only at d2
 subst d2
 obtain ⟨t2, q2, e2, k2, x2⟩ := rNext_inv (by rw [e3])
 rw [x2] at e3; dsimp only at e3; injection e3 with e3 _; subst e3
 subst e2
 rw [rdP_cons k2 k3] at h ⊢
 split at h
 ·cases h
 rename_i a1
 split at h
 ·cases h
 rename_i a2
 split at h
 case isFalse => cases h
 rename_i a3
 rw [if_neg a1, if_neg a2, if_pos a3]
 exact ⟨t2, t3, rfl, k2, k3, Classical.not_not.1 a1, Classical.not_not.1 a2, rfl, a3⟩
theorem entB_read {b : List Int} (h : (rdEnt b).2 = 0) : entB (rdEnt b).1 = (b, 0) := by
 have := rdEnt_inv h
 unfold entB
 rw [if_pos this.2, this.1]
theorem rdPrf_inv {b : List Int} (h : (rdPrf b).2 = 0) : prfB (rdPrf b).1 = (b, 0) ∧ prfR (rdPrf b).1 = true := by
 have hn := rOpen_norm b
 unfold rdPrf at h ⊢
 obtain ⟨t2, t3, e, h2, h3, r2, r3, hx, hr⟩ := rdP_inv h
 obtain ⟨t0, t1, q, e1, k0, n0, k1, n1, x⟩ := rWant_inv (by rw [e])
 rw [e] at x
 injection x with x _
 subst x
 have hg := (rOpen_good (b := b) (by rw [e1])).1
 rw [e1] at hn hg
 dsimp only at hn hg
 rw [hx]
 refine ⟨?_, hr⟩
 unfold prfB
 rw [if_pos hr]
 dsimp only
 rw [entB_read r2, entB_read r3, ← hg]
 congr 1
 have N := fun t ht => hn t ht
 simp only [List.mem_cons, List.not_mem_nil, or_false, forall_eq_or_imp, forall_eq] at N
 obtain ⟨N0, N1, N2, N3⟩ := N
 rw [tok_eq' N0 (by omega), tok_eq' N1 (by omega), tok_eq N2 (by omega), tok_eq N3 (by omega)]
 rw [k0, n0, k1, n1, h2, h3]
theorem prfR_ents {p : Prf} (h : prfR p = true) : (entB p.a).2 = 0 ∧ (entB p.b).2 = 0 ∧ p.a.au = p.b.au ∧ p.a.seq = p.b.seq ∧ cmpI (entB p.a).1 (entB p.b).1 < 0 := by
 unfold prfR ordR at h
 have h := of_decide_eq_true h
 split at h
 ·omega
 rename_i a1
 split at h
 ·omega
 rename_i a2
 split at h
 ·omega
 rename_i a3
 split at h
 ·omega
 rename_i a4
 exact ⟨Classical.not_not.1 a1, Classical.not_not.1 a2, Classical.not_not.1 a3, Classical.not_not.1 a4, h⟩
theorem entB_right {e : Ent} (h : (entB e).2 = 0) : entR e = true ∧ encR validR (entTs e) = ((entB e).1, 0) := by
 unfold entB at h ⊢
 split at h
 ·rename_i c
  rw [if_pos c]
  exact ⟨c, Prod.ext rfl h⟩
 ·cases h
theorem rdEnt_bytes {e : Ent} (he : EntS e) (h : (entB e).2 = 0) : rdEnt (entB e).1 = (e, 0) := rdEnt_enc he (entB_right h).1 (entB_right h).2
theorem rdPrf_bytes {p : Prf} (hp : PrfS p) (h : (prfB p).2 = 0) : rdPrf (prfB p).1 = (p, 0) := by
 unfold prfB at h ⊢
 split at h
 case isFalse => cases h
 rename_i c
 rw [if_pos c]
 have r := prfR_ents c
 unfold rdPrf
 rw [rOpen_enc (prf_toks hp) (Prod.ext rfl h), rWant_cons (m := 3) (f := 2) (t := ⟨5, 3, []⟩) (s := ⟨1, 2, []⟩) rfl rfl rfl rfl, rdP_cons rfl rfl]
 dsimp only
 rw [rdEnt_bytes hp.a r.1, rdEnt_bytes hp.b r.2.1]
 rw [if_neg (by simp), if_neg (by simp), if_pos c]
end
section

def Items (g : Nat → Option (Nat × List Int)) : Nat → List (List Int) → Nat → Prop
 | a, [], b => a = b
 | a, x :: xs, b => ∃ c, g a = some (c, x) ∧ Items g c xs b
theorem rLoop_items {g : Nat → Option (Nat × List Int)} : ∀ (xs : List (List Int)) (i a b : Nat) (acc last : List Int), Items g a xs b → acc.length + xs.flatten.length ≤ 32768 → rLoop g false xs.length i a acc last = some (b, acc ++ xs.flatten)
 | [], i, a, b, acc, last, h, _ => by
  obtain rfl : a = b := h
  simp [rLoop]
 | x :: xs, i, a, b, acc, last, h, hl => by
  obtain ⟨c, hc, h⟩ := h
  simp only [List.flatten_cons, List.length_append] at hl
  rw [List.length_cons, rLoop, hc]
  dsimp only
  rw [if_neg (by omega), if_neg (by simp), rLoop_items xs (i + 1) c b (acc ++ x) last h (by simp only [List.length_append]; omega)]
  simp
def IsItem (u : List Int → Bool) (f : Nat) (ts : List Tok) (x : List Int) : Prop := ∀ pre post : List Tok, rItem u (pre ++ (ts ++ post)) f pre.length = some (pre.length + ts.length, x)
def AreItems (u : List Int → Bool) (f : Nat) (ts : List Tok) (xs : List (List Int)) : Prop := ∀ pre post : List Tok, Items (rItem u (pre ++ (ts ++ post)) f) pre.length xs (pre.length + ts.length)
theorem are_nil (u : List Int → Bool) (f : Nat) : AreItems u f [] [] := fun pre post => by simp [Items]
theorem are_cons {u : List Int → Bool} {f : Nat} {ts us : List Tok} {x : List Int} {xs : List (List Int)} (h : IsItem u f ts x) (k : AreItems u f us xs) : AreItems u f (ts ++ us) (x :: xs) := by
 intro pre post
 refine ⟨pre.length + ts.length, ?_, ?_⟩
 ·rw [List.append_assoc]; exact h pre (us ++ post)
 ·have := k (pre ++ ts) post
  simpa [List.append_assoc, Nat.add_assoc] using this
theorem are_one {u : List Int → Bool} {f : Nat} {ts : List Tok} {x : List Int} (h : IsItem u f ts x) : AreItems u f ts [x] := by
 have := are_cons h (are_nil u f)
 rwa [List.append_nil] at this
theorem are_app {u : List Int → Bool} {f : Nat} : ∀ {xs ys : List (List Int)} {ts us : List Tok}, AreItems u f ts xs → AreItems u f us ys → AreItems u f (ts ++ us) (xs ++ ys) := by
 intro xs ys ts us h k pre post
 have h1 := h pre (us ++ post)
 have h2 := k (pre ++ ts) post
 rw [List.append_assoc]
 have e : pre ++ ts ++ (us ++ post) = pre ++ (ts ++ (us ++ post)) := by simp
 rw [e] at h2
 have e2 : (pre ++ ts).length = pre.length + ts.length := by simp
 rw [e2] at h2
 rw [List.length_append, ← Nat.add_assoc]
 generalize rItem u (pre ++ (ts ++ (us ++ post))) f = g at h1 h2
 clear h k e e2
 generalize pre.length + ts.length = m at h1 h2
 generalize pre.length = n at h1
 induction xs generalizing n with
 | nil => obtain rfl : n = m := h1; exact h2
 | cons x xs ih =>
  obtain ⟨c, hc, h1⟩ := h1
  exact ⟨c, hc, ih c h1⟩
def tB (t : Tok) : List Int := if t.k = 1 then putL 0 t.n else if t.k = 3 then putL 2 t.b.length ++ t.b else putL 3 t.b.length ++ t.b
def FlatOk (u : List Int → Bool) (t : Tok) : Prop := (t.k = 1 ∧ 0 ≤ t.n ∧ t.b = []) ∨ (t.k = 3 ∧ t.n = 0) ∨ (t.k = 4 ∧ t.n = 0 ∧ u t.b = true)
theorem is_flat {u : List Int → Bool} {f : Nat} {t : Tok} (h : FlatOk u t) : IsItem u f [t] (tB t) := by
 intro pre post
 have hk : pre.length < (pre ++ ([t] ++ post)).length := by simp
 rw [rItem_tok u _ f pre.length hk]
 have e : (pre ++ ([t] ++ post))[pre.length] = t := by simp
 rw [e]
 unfold rTok tB
 have hb : ¬ rBad t := by
  unfold rBad
  rcases h with h | h | h
  ·rw [h.2.2]; simp; omega
  ·rw [h.1, h.2]; simp
  ·rw [h.1, h.2.1]; simp
 rw [if_neg hb]
 rcases h with h | h | h
 ·simp [h.1]
 ·simp [h.1]
 ·simp [h.1, h.2.2]
theorem is_arr {u : List Int → Bool} {f : Nat} {ts : List Tok} {xs : List (List Int)} (h : AreItems u f ts xs) (hx : xs.length ≤ 64) (hl : (putL 4 xs.length).length + xs.flatten.length ≤ 32768) : IsItem u (f + 1) (⟨5, xs.length, []⟩ :: ts) (putL 4 xs.length ++ xs.flatten) := by
 intro pre post
 have hk : pre.length < (pre ++ (⟨5, (xs.length : Int), []⟩ :: ts ++ post)).length := by simp
 rw [rItem_tok u _ (f + 1) pre.length hk]
 have e : (pre ++ (⟨5, (xs.length : Int), []⟩ :: ts ++ post))[pre.length] = ⟨5, (xs.length : Int), []⟩ := by simp
 rw [e]
 unfold rTok
 rw [if_neg (by unfold rBad; simp <;> omega)]
 dsimp only
 rw [if_neg (by omega), if_neg (by omega), if_neg (by omega), if_neg (by omega), if_pos (by omega), if_neg (by simp), if_neg (by omega), if_neg (by omega)]
 have := h (pre ++ [⟨5, (xs.length : Int), []⟩]) post
 have e2 : pre ++ [(⟨5, (xs.length : Int), []⟩ : Tok)] ++ (ts ++ post) = pre ++ (⟨5, (xs.length : Int), []⟩ :: ts ++ post) := by simp
 rw [e2, List.length_append, List.length_singleton] at this
 simp only [rSub, Int.toNat_natCast]
 rw [rLoop_items xs 0 _ _ _ _ this hl]
 simp
 omega
theorem enc_item {u : List Int → Bool} {ts : List Tok} {x : List Int} (h : IsItem u 6 ts x) (ht : ts.length ≤ 600) (hx : x.length ≤ 32768) : encR u ts = (x, 0) := by
 rw [encR_iff]
 have := h [] []
 simp at this
 exact ⟨ht, this, hx⟩
theorem flat_num {u : List Int → Bool} {n : Int} (h : 0 ≤ n) (f : Nat) : IsItem u f [⟨1, n, []⟩] (putL 0 n) := is_flat (.inl ⟨rfl, h, rfl⟩)
theorem flat_str {u : List Int → Bool} (b : List Int) (f : Nat) : IsItem u f [⟨3, 0, b⟩] (putL 2 b.length ++ b) := is_flat (.inr (.inl ⟨rfl, rfl⟩))
theorem flat_text {u : List Int → Bool} {b : List Int} (h : u b = true) (f : Nat) : IsItem u f [⟨4, 0, b⟩] (putL 3 b.length ++ b) := is_flat (.inr (.inr ⟨rfl, rfl, h⟩))
theorem putL_le (M : Int) {n : Int} (h : 0 ≤ n) : (putL M n).length ≤ 9 := by
 rw [putL_length]; have := (sizeR_le n h).1; omega
def entX (e : Ent) : List (List Int) := [putL 0 1, putL 2 e.au.length ++ e.au, putL 0 e.seq, putL 2 e.prev.length ++ e.prev, putL 0 e.stamp, putL 4 3 ++ [putL 0 e.kind, putL 3 e.key.length ++ e.key, putL 2 e.val.length ++ e.val].flatten]
theorem entR_facts {e : Ent} (hr : entR e = true) : (1 ≤ e.seq ∧ e.seq ≤ 200) ∧ 0 ≤ e.stamp ∧ (1 ≤ e.key.length ∧ e.key.length ≤ 16) ∧ validR e.key = true ∧ (e.kind = 1 ∨ e.kind = 2) ∧ e.val.length ≤ 40 := by
 unfold entR opR at hr
 simp only [Bool.and_eq_true, Bool.or_eq_true, decide_eq_true_eq] at hr
 obtain ⟨⟨⟨⟨h1, h2⟩, h3⟩, h4⟩, ⟨⟨h5, h6⟩, h7⟩, h8⟩ := hr
 refine ⟨⟨h1, h2⟩, h4, ⟨h5, h6⟩, h7, ?_, ?_⟩
 ·rcases h8 with h | h
  ·exact .inl h.1
  ·exact .inr h.1
 ·rcases h8 with h | h
  ·exact h.2
  ·omega
theorem entX_are {e : Ent} (hr : entR e = true) (h1 : e.au.length = 32) (h2 : e.prev.length = 32) (f : Nat) : AreItems validR (f + 1) [⟨1, 1, []⟩, ⟨3, 0, e.au⟩, ⟨1, e.seq, []⟩, ⟨3, 0, e.prev⟩, ⟨1, e.stamp, []⟩, ⟨5, 3, []⟩, ⟨1, e.kind, []⟩, ⟨4, 0, e.key⟩, ⟨3, 0, e.val⟩] (entX e) := by
 have F := entR_facts hr
 have op : IsItem validR (f + 1) [⟨5, 3, []⟩, ⟨1, e.kind, []⟩, ⟨4, 0, e.key⟩, ⟨3, 0, e.val⟩] (putL 4 3 ++ [putL 0 e.kind, putL 3 e.key.length ++ e.key, putL 2 e.val.length ++ e.val].flatten) := by
  have := is_arr (u := validR) (f := f) (are_cons (flat_num (n := e.kind) (by omega) f) (are_cons (flat_text F.2.2.2.1 f) (are_one (flat_str e.val f)))) (by simp) (by
   have a1 := putL_le 4 (n := 3) (by omega)
   have a2 := putL_le 0 (n := e.kind) (by omega)
   have a3 := putL_le 3 (n := e.key.length) (by omega)
   have a4 := putL_le 2 (n := e.val.length) (by omega)
   simp only [List.length_cons, List.length_nil, List.flatten_cons, List.flatten_nil, List.length_append]
   have : ((0 + 1 + 1 + 1 : Nat) : Int) = 3 := rfl
   rw [this]
   omega)
  exact this
 exact are_cons (flat_num (by omega) _) (are_cons (flat_str e.au _) (are_cons (flat_num (by omega) _) (are_cons (flat_str e.prev _) (are_cons (flat_num F.2.1 _) (are_one op)))))
theorem entX_len {e : Ent} (hr : entR e = true) (h1 : e.au.length = 32) (h2 : e.prev.length = 32) : (entX e).flatten.length ≤ 300 := by
 have F := entR_facts hr
 have a0 := putL_le 0 (n := 1) (by omega)
 have a1 := putL_le 4 (n := 3) (by omega)
 have a2 := putL_le 0 (n := e.kind) (by omega)
 have a3 := putL_le 3 (n := e.key.length) (by omega)
 have a4 := putL_le 2 (n := e.val.length) (by omega)
 have a5 := putL_le 2 (n := e.au.length) (by omega)
 have a6 := putL_le 0 (n := e.seq) (by omega)
 have a7 := putL_le 2 (n := e.prev.length) (by omega)
 have a8 := putL_le 0 (n := e.stamp) (by omega)
 simp only [entX, List.flatten_cons, List.flatten_nil, List.length_append, List.length_nil]
 omega
theorem entTs_bytes {e : Ent} (hr : entR e = true) (h1 : e.au.length = 32) (h2 : e.prev.length = 32) (h3 : e.sig.length = 64) : encR validR (entTs e) = (putL 4 7 ++ (entX e ++ [putL 2 e.sig.length ++ e.sig]).flatten, 0) := by
 have A := are_app (entX_are hr h1 h2 4) (are_one (flat_str e.sig 5))
 have L := entX_len hr h1 h2
 have a1 := putL_le 4 (n := 7) (by omega)
 have a2 := putL_le 2 (n := e.sig.length) (by omega)
 have := is_arr A (by simp [entX]) (by
  have : (((entX e ++ [putL 2 e.sig.length ++ e.sig]).length : Nat) : Int) = 7 := by simp [entX]
  rw [this]
  simp only [List.flatten_append, List.length_append, List.flatten_cons, List.flatten_nil, List.length_nil]
  omega)
 have e7 : (((entX e ++ [putL 2 e.sig.length ++ e.sig]).length : Nat) : Int) = 7 := by simp [entX]
 rw [e7] at this
 exact enc_item (ts := entTs e) this (by show 11 ≤ 600; decide) (by
  simp only [List.flatten_append, List.length_append, List.flatten_cons, List.flatten_nil, List.length_nil]
  omega)
theorem entB_yes {e : Ent} (he : EntS e) (hr : entR e = true) : entB e = (putL 4 7 ++ (entX e ++ [putL 2 e.sig.length ++ e.sig]).flatten, 0) := by
 unfold entB
 rw [if_pos hr, entTs_bytes hr he.au.2 he.prev.2 he.sig.2]
theorem entB_err {e : Ent} (he : EntS e) : decide ((entB e).2 = 0) = entR e := by
 cases h : entR e
 ·unfold entB; rw [h]; rfl
 ·rw [entB_yes he h]; rfl
end
section

def NNk (p : Pa) : Prop := ∀ t ∈ p.l, 0 ≤ t.n
theorem nnk_snoc {l : List Tok} {x : Nat} {bd : Bool} {t : Tok} (h : ∀ t ∈ l, 0 ≤ t.n) (ht : 0 ≤ t.n) : NNk ⟨x, l ++ [t], bd⟩ := by
 intro s hs
 rcases List.mem_append.1 hs with hs | hs
 ·exact h s hs
 ·simp at hs; subst hs; exact ht
theorem pMany_nnk (g : Pa → Pa) (hg : ∀ p, NNk p → NNk (g p)) : ∀ (n : Nat) (p : Pa), NNk p → NNk (pMany g n p)
 | 0, p, h => h
 | n + 1, p, h => by
  unfold pMany
  split
  ·exact h
  ·exact pMany_nnk g hg n _ (hg p h)
theorem pPart_nnk (b : List Int) (k n : Int) (next : Nat) (l : List Tok) (h : ∀ t ∈ l, 0 ≤ t.n) : NNk (pPart b k n next l) := by
 unfold pPart
 split
 ·exact nnk_snoc h (by simp)
 ·exact nnk_snoc h (by simp)
theorem pGo_nnk (b : List Int) (g : Pa → Pa) (hg : ∀ p, NNk p → NNk (g p)) (m n : Int) (hn : 0 ≤ n) (next : Nat) (l : List Tok) (h : ∀ t ∈ l, 0 ≤ t.n) : NNk (pGo b g m n next l) := by
 unfold pGo
 split
 ·exact nnk_snoc h hn
 split
 ·exact nnk_snoc h hn
 split
 ·exact pPart_nnk b _ n next l h
 split
 ·exact pPart_nnk b _ n next l h
 split
 ·exact pMany_nnk g hg _ _ (nnk_snoc h hn)
 split
 ·exact pMany_nnk g hg _ _ (nnk_snoc h hn)
 ·exact h
theorem pItem_nnk (b : List Int) (hb : Byt b) : ∀ (f : Nat) (p : Pa), NNk p → NNk (pItem b f p)
 | 0, p, h => h
 | f + 1, p, h => by
  unfold pItem
  split
  ·exact h
  ·rename_i c
   have e : (getR b p.at').2.2.2 = 0 := Classical.not_not.1 fun h => c (.inr (.inl h))
   obtain ⟨M, n, X, hg, _, hn, _⟩ := getR_right b hb p.at' e
   exact pGo_nnk b _ (fun p hp => pItem_nnk b hb f p hp) _ _ (by rw [hg]; exact hn.1) _ _ h
theorem rOpen_nn (b : List Int) (hb : Byt b) : ∀ t ∈ (rOpen b).l, 0 ≤ t.n := by
 unfold rOpen
 rcases decR_or validR b with h | ⟨l, h, _, hp⟩
 ·rw [h]; exact fun t ht => absurd ht (List.not_mem_nil)
 ·rw [h]
  have := pItem_nnk b hb 7 ⟨0, [], false⟩ (fun t ht => absurd ht (List.not_mem_nil))
  rw [hp] at this
  exact this
theorem flat_len {c : Nat} : ∀ {l : List (List Int)}, (∀ x ∈ l, x.length ≤ c) → l.flatten.length ≤ c * l.length
 | [], _ => by simp
 | x :: r, h => by
  have h1 := h x List.mem_cons_self
  have h2 := flat_len (l := r) (fun y hy => h y (List.mem_cons_of_mem _ hy))
  simp only [List.flatten_cons, List.length_append, List.length_cons, Nat.mul_add]
  omega
def hdX (h : Hd) : List Int := putL 4 4 ++ [putL 2 h.au.length ++ h.au, putL 0 h.len, putL 2 h.id.length ++ h.id, putL 0 (bitR h.shut)].flatten
def HdI (h : Hd) : Prop := 0 ≤ h.len ∧ h.au.length = 32 ∧ h.id.length = 32
theorem bitR_nn (b : Bool) : 0 ≤ bitR b := by unfold bitR; split <;> omega
theorem hdX_len {h : Hd} (H : HdI h) : (hdX h).length ≤ 120 := by
 obtain ⟨h1, h2, h3⟩ := H
 have a1 := putL_le 4 (n := 4) (by omega)
 have a2 := putL_le 2 (n := h.au.length) (by omega)
 have a3 := putL_le 0 (n := h.len) h1
 have a4 := putL_le 2 (n := h.id.length) (by omega)
 have a5 := putL_le 0 (n := bitR h.shut) (bitR_nn _)
 simp only [hdX, List.flatten_cons, List.flatten_nil, List.length_append, List.length_nil]
 omega
theorem hd_is {h : Hd} (H : HdI h) (f : Nat) : IsItem validR (f + 1) (hdT h) (hdX h) := by
 have L := hdX_len H
 have := is_arr (u := validR) (f := f) (are_cons (flat_str h.au f) (are_cons (flat_num H.1 f) (are_cons (flat_str h.id f) (are_one (flat_num (bitR_nn h.shut) f))))) (by simp) (by
  rw [← List.length_append]
  exact Nat.le_trans L (by omega))
 exact this
theorem hds_are (f : Nat) : ∀ {l : List Hd}, (∀ h ∈ l, HdI h) → AreItems validR (f + 1) (hdsT l) (l.map hdX)
 | [], _ => are_nil _ _
 | h :: r, H => are_cons (hd_is (H h List.mem_cons_self) f) (hds_are f fun x hx => H x (List.mem_cons_of_mem _ hx))
def strX (b : List Int) : List Int := putL 2 b.length ++ b
theorem strX_len (b : List Int) : (strX b).length ≤ b.length + 9 := by
 have := putL_le 2 (n := b.length) (by omega)
 unfold strX
 rw [List.length_append]; omega
theorem strs_are (f : Nat) : ∀ l : List (List Int), AreItems validR f (l.map fun b => ⟨3, 0, b⟩) (l.map strX)
 | [] => are_nil _ _
 | b :: r => are_cons (flat_str b f) (strs_are f r)
theorem entB_len {e : Ent} (he : EntS e) : (entB e).1.length ≤ 400 := by
 cases hr : entR e
 ·unfold entB; rw [hr]; simp
 ·rw [entB_yes he hr]
  have L := entX_len hr he.au.2 he.prev.2
  have a1 := putL_le 4 (n := 7) (by omega)
  have a2 := putL_le 2 (n := e.sig.length) (by omega)
  have := he.sig.2
  simp only [List.flatten_append, List.length_append, List.flatten_cons, List.flatten_nil, List.length_nil]
  omega
def prfX (p : Prf) : List Int := putL 4 3 ++ [putL 0 2, strX (entB p.a).1, strX (entB p.b).1].flatten
theorem prfX_len {p : Prf} (hp : PrfS p) : (prfX p).length ≤ 900 := by
 have b1 := entB_len hp.a
 have b2 := entB_len hp.b
 have s1 := strX_len (entB p.a).1
 have s2 := strX_len (entB p.b).1
 have a1 := putL_le 4 (n := 3) (by omega)
 have a2 := putL_le 0 (n := 2) (by omega)
 simp only [prfX, List.flatten_cons, List.flatten_nil, List.length_append, List.length_nil]
 omega
theorem prfB_yes {p : Prf} (hp : PrfS p) (hr : prfR p = true) : prfB p = (prfX p, 0) := by
 have L := prfX_len hp
 unfold prfB
 rw [if_pos hr]
 have := is_arr (u := validR) (f := 5) (are_cons (flat_num (n := 2) (by omega) 5) (are_cons (flat_str (entB p.a).1 5) (are_one (flat_str (entB p.b).1 5)))) (by simp) (by
  rw [← List.length_append]
  exact Nat.le_trans L (by omega))
 exact enc_item (x := prfX p) this (by simp) (by omega)
theorem prfB_len {p : Prf} (hp : PrfS p) : (prfB p).1.length ≤ 900 := by
 cases hr : prfR p
 ·unfold prfB; rw [hr]; simp
 ·rw [prfB_yes hp hr]; exact prfX_len hp
theorem prT_eq (l : List Prf) : prT l = (l.map fun p => (prfB p).1).map fun b => ⟨3, 0, b⟩ := by simp [prT]
theorem enT_eq (l : List Ent) : enT l = (l.map fun p => (entB p).1).map fun b => ⟨3, 0, b⟩ := by simp [enT]
theorem strs_len {c : Nat} {l : List (List Int)} (h : ∀ b ∈ l, b.length ≤ c) : (l.map strX).flatten.length ≤ (c + 9) * l.length := by
 have := flat_len (c := c + 9) (l := l.map strX) (by
  intro x hx
  obtain ⟨b, hb, rfl⟩ := List.mem_map.1 hx
  have := strX_len b
  have := h b hb
  omega)
 rwa [List.length_map] at this
def frX (m : Msg) : List (List Int) := [putL 0 3, putL 0 m.frm, putL 0 m.to, putL 4 m.hs.length ++ (m.hs.map hdX).flatten]
def anX (m : Msg) : List (List Int) := [putL 0 4, putL 0 m.frm, putL 0 m.to, putL 4 m.ps.length ++ (m.ps.map fun p => strX (prfB p).1).flatten, putL 4 m.es.length ++ (m.es.map fun e => strX (entB e).1).flatten]
set_option maxHeartbeats 1000000 in
theorem fr_yes {m : Msg} (h1 : 0 ≤ m.frm) (h2 : 0 ≤ m.to) (hl : m.hs.length ≤ 8) (H : ∀ h ∈ m.hs, HdI h) : encR validR (frT m ++ hdsT m.hs) = (putL 4 4 ++ (frX m).flatten, 0) := by
 have F := flat_len (c := 120) (l := m.hs.map hdX) (by
  intro x hx
  obtain ⟨h, hh, rfl⟩ := List.mem_map.1 hx
  exact hdX_len (H h hh))
 rw [List.length_map] at F
 have a1 := putL_le 4 (n := m.hs.length) (by omega)
 have hd := is_arr (hds_are 3 H) (by rw [List.length_map]; omega) (by rw [List.length_map]; omega)
 rw [List.length_map] at hd
 have b0 := putL_le 4 (n := 4) (by omega)
 have b1 := putL_le 0 (n := 3) (by omega)
 have b2 := putL_le 0 (n := m.frm) h1
 have b3 := putL_le 0 (n := m.to) h2
 have L : (putL 4 4 ++ (frX m).flatten).length ≤ 32768 := by
  simp only [frX, List.flatten_cons, List.flatten_nil, List.length_append, List.length_nil]
  omega
 have := is_arr (are_cons (flat_num (n := 3) (by omega) 5) (are_cons (flat_num h1 5) (are_cons (flat_num h2 5) (are_one hd)))) (by simp) (by
  rw [← List.length_append]
  exact L)
 exact enc_item (ts := frT m ++ hdsT m.hs) (x := putL 4 4 ++ (frX m).flatten) this (by rw [List.length_append, hdsT_len]; simp [frT]; omega) L
set_option maxHeartbeats 1000000 in
theorem an_yes {m : Msg} (h1 : 0 ≤ m.frm) (h2 : 0 ≤ m.to) (hp : m.ps.length ≤ 4) (he : m.es.length ≤ 4) (P : ∀ p ∈ m.ps, PrfS p) (E : ∀ e ∈ m.es, EntS e) : encR validR (anT m ++ prT m.ps ++ [⟨5, m.es.length, []⟩] ++ enT m.es) = (putL 4 5 ++ (anX m).flatten, 0) := by
 have Fp := strs_len (c := 900) (l := m.ps.map fun p => (prfB p).1) (by
  intro x hx
  obtain ⟨h, hh, rfl⟩ := List.mem_map.1 hx
  exact prfB_len (P h hh))
 have Fe := strs_len (c := 400) (l := m.es.map fun p => (entB p).1) (by
  intro x hx
  obtain ⟨h, hh, rfl⟩ := List.mem_map.1 hx
  exact entB_len (E h hh))
 have pa := strs_are 4 (m.ps.map fun p => (prfB p).1)
 have ea := strs_are 4 (m.es.map fun p => (entB p).1)
 rw [← prT_eq] at pa
 rw [← enT_eq] at ea
 rw [List.length_map] at Fp Fe
 rw [List.map_map] at pa ea Fp Fe
 have a1 := putL_le 4 (n := m.ps.length) (by omega)
 have a2 := putL_le 4 (n := m.es.length) (by omega)
 have hd := is_arr pa (by rw [List.length_map]; omega) (by rw [List.length_map]; omega)
 have hd2 := is_arr ea (by rw [List.length_map]; omega) (by rw [List.length_map]; omega)
 rw [List.length_map] at hd hd2
 have b0 := putL_le 4 (n := 5) (by omega)
 have b1 := putL_le 0 (n := 4) (by omega)
 have b2 := putL_le 0 (n := m.frm) h1
 have b3 := putL_le 0 (n := m.to) h2
 have L : (putL 4 5 ++ (anX m).flatten).length ≤ 32768 := by
  simp only [anX, List.flatten_cons, List.flatten_nil, List.length_append, List.length_nil]
  have Fp' : (m.ps.map fun p => strX (prfB p).1).flatten.length ≤ 909 * m.ps.length := Fp
  have Fe' : (m.es.map fun p => strX (entB p).1).flatten.length ≤ 409 * m.es.length := Fe
  omega
 have := is_arr (are_cons (flat_num (n := 4) (by omega) 5) (are_cons (flat_num h1 5) (are_cons (flat_num h2 5) (are_cons hd (are_one hd2))))) (by simp) (by
  rw [← List.length_append]
  exact L)
 exact enc_item (ts := anT m ++ prT m.ps ++ [⟨5, m.es.length, []⟩] ++ enT m.es) (x := putL 4 5 ++ (anX m).flatten) (by
  have e : anT m ++ prT m.ps ++ [⟨5, (m.es.length : Int), []⟩] ++ enT m.es = anT m ++ (prT m.ps ++ (⟨5, (m.es.length : Int), []⟩ :: enT m.es)) := by simp only [List.append_assoc, List.singleton_append]
  rw [e]
  exact this) (by simp [anT, prT, enT]; omega) L
theorem headsR_facts {l : List Hd} (h : headsR l = true) : l.length ≤ 8 ∧ ∀ x ∈ l, hdR x = true := by
 unfold headsR at h
 rw [Bool.and_eq_true] at h
 obtain ⟨h1, h2⟩ := h
 refine ⟨of_decide_eq_true h1, fun x hx => ?_⟩
 rw [List.all_eq_true] at h2
 obtain ⟨i, hi, rfl⟩ := List.getElem_of_mem hx
 have := h2 i (by simpa using hi)
 unfold hdAt at this
 rw [Bool.and_eq_true] at this
 have g : l.getD i hd0 = l[i] := by simp [List.getD, hi]
 rw [g] at this
 exact this.2
theorem hdR_nn {h : Hd} (H : hdR h = true) : 0 ≤ h.len := by
 unfold hdR at H
 simp only [Bool.and_eq_true, decide_eq_true_eq] at H
 exact H.1.1.1
theorem hdI_of {h : Hd} (H : hdR h = true) (hs : HdS h) : HdI h := ⟨hdR_nn H, hs.au.2, hs.id.2⟩
theorem msgR_facts {m : Msg} (h : msgR m = true) : (0 ≤ m.frm ∧ m.frm < 8) ∧ (0 ≤ m.to ∧ m.to < 8) ∧ m.frm ≠ m.to ∧
  ((m.kind = 1 ∧ headsR m.hs = true ∧ m.ps = [] ∧ m.es = []) ∨ (m.kind = 2 ∧ m.hs = [] ∧ m.ps.length + m.es.length ≤ 4 ∧ (∀ p ∈ m.ps, prfR p = true) ∧ ∀ e ∈ m.es, entR e = true)) := by
 unfold msgR at h
 rw [Bool.and_eq_true] at h
 obtain ⟨h1, h2⟩ := h
 unfold whoR at h1
 simp only [Bool.and_eq_true, decide_eq_true_eq] at h1
 refine ⟨⟨h1.1.1.1.1, h1.1.1.1.2⟩, ⟨h1.1.1.2, h1.1.2⟩, h1.2, ?_⟩
 split at h2
 ·rename_i k
  simp only [Bool.and_eq_true, decide_eq_true_eq] at h2
  left
  exact ⟨k, h2.1, List.length_eq_zero_iff.1 (by omega), List.length_eq_zero_iff.1 (by omega)⟩
 ·split at h2
  ·rename_i k
   simp only [Bool.and_eq_true, decide_eq_true_eq, Bool.not_eq_true', List.any_eq_false] at h2
   right
   refine ⟨k, List.length_eq_zero_iff.1 h2.1.1.1.1, by omega, fun p hp => ?_, fun p hp => ?_⟩
   ·have := h2.1.2 p hp; revert this; cases prfR p <;> simp
   ·have := h2.2 p hp; revert this; cases entR p <;> simp
  ·cases h2
theorem msgB_yes {m : Msg} (hm : MsgS m) (hr : msgR m = true) : ∃ a, encR validR (msgT m) = (a, 0) := by
 obtain ⟨h1, h2, _, h3⟩ := msgR_facts hr
 unfold msgT
 rcases h3 with ⟨k, hh, _, _⟩ | ⟨k, _, hl, hp, he⟩
 ·rw [if_pos k]
  have F := headsR_facts hh
  exact ⟨_, fr_yes h1.1 h2.1 F.1 fun h hx => hdI_of (F.2 h hx) (hm.hs h hx)⟩
 ·rw [if_neg (by omega)]
  exact ⟨_, an_yes h1.1 h2.1 (by omega) (by omega) hm.ps hm.es⟩
theorem msgB_err {m : Msg} (hm : MsgS m) : decide ((msgB m).2 = 0) = msgR m := by
 unfold msgB
 cases hr : msgR m
 ·rfl
 ·obtain ⟨a, ha⟩ := msgB_yes hm hr
  rw [if_pos rfl, ha]; rfl
theorem msgB_or (m : Msg) : msgB m = ([], 1) ∨ ∃ a, msgB m = (a, 0) := by
 unfold msgB
 split
 ·exact encR_or _ _
 ·exact .inl rfl
end
end Go.Proofs.YthnhpkpbjaelnaaDoor.Abs
