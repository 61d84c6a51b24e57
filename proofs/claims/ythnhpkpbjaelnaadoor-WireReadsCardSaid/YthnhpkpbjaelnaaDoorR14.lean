/- Texts GR0 to X4, merged. -/
import Derived.Test.YthnhpkpbjaelnaaDoorRows
import Derived.Test.YthnhpkpbjaelnaaDoorProg
import Derived.Lib.LaidU8T
import Derived.PinnedBridge
import Derived.Test.YthnhpkpbjaelnaaDoorCards
import Derived.Test.YthnhpkpbjaelnaaDoorTie
import Derived.WalkKit
import Derived.ProofKit
import Derived.OpenShut
import Derived.ShutString
import Derived.ChangeOld
import Derived.Below
import Derived.SizedLaws
import Derived.Carry
import Derived.ChangeSlices
import Derived.LaidMore
import Derived.Stop.Joined
import Derived.SevenTiedAt
import Derived.Lay
import Derived.Test.YthnhpkpbjaelnaaDoorR13
set_option linter.unusedVariables false
set_option linter.unusedSimpArgs false
section

namespace Go.Proofs.YthnhpkpbjaelnaaDoor.Abs
open Go
def tick (r : Rw) : Rw := ⟨(rNext 5 r).2.l, decide ((rNext 5 r).1.n ≠ 4) || (rNext 5 r).2.bad⟩
def rHd (r : Rw) : Hd × Rw := (⟨idR r, (rNext 1 (rArr 32 r).2).1.n, idR (rNext 1 (rArr 32 r).2).2, decide ((rNext 1 (rArr 32 (rNext 1 (rArr 32 r).2).2).2).1.n = 1)⟩, ⟨(rNext 1 (rArr 32 (rNext 1 (rArr 32 r).2).2).2).2.l, (rNext 1 (rArr 32 (rNext 1 (rArr 32 r).2).2).2).2.bad || decide (1 < (rNext 1 (rArr 32 (rNext 1 (rArr 32 r).2).2).2).1.n)⟩)
def rfLoop : Nat → Rw → List Hd → List Hd × Rw
 | 0, r, hs => (hs, r)
 | k + 1, r, hs => if r.bad = true then (hs, r) else rfLoop k (rHd (tick r)).2 (hs ++ [(rHd (tick r)).1])
theorem rfLoop_s (k : Nat) (r : Rw) (hs : List Hd) : rfLoop (k + 1) r hs = if r.bad = true then (hs, r) else rfLoop k (rHd (tick r)).2 (hs ++ [(rHd (tick r)).1]) := rfl
theorem rfLoop_bad {r : Rw} (k : Nat) (hs : List Hd) (h : r.bad = true) : rfLoop k r hs = (hs, r) := by
 cases k
 ·rfl
 ·rw [rfLoop_s, if_pos h]
theorem frLoop_bad {r : Rw} (k : Nat) (hs : List Hd) (h : r.bad = true) : frLoop k r hs = (hs, r) := by
 cases k
 ·rfl
 ·rw [frLoop_s, if_pos h]
theorem rdFin_bad {m : Msg} {r : Rw} (h : r.bad = true) : rdFin (m, r) = (msg0, 3) := by
 unfold rdFin
 rw [if_neg (by simp [h])]
theorem rHd_good {r : Rw} (h : (rHd r).2.bad = false) : r.bad = false ∧ (rArr 32 r).2.bad = false ∧ (rArr 32 (rNext 1 (rArr 32 r).2).2).2.bad = false := by
 unfold rHd at h
 dsimp only at h
 have h1 := (Bool.or_eq_false_iff.1 h).1
 have h2 := good1 h1
 have h3 := goodA h2
 have h4 := good1 h3
 exact ⟨goodA h4, h4, h2⟩
theorem idR_good {r : Rw} (h : (rArr 32 r).2.bad = false) : idR r = (rArr 32 r).1 := by
 unfold idR
 unfold rArr at h ⊢
 split at h
 ·rename_i e
  rw [if_pos e, pad32_eq e]
 ·cases h
theorem rHd_2 (r : Rw) : (rHd r).2 = (rdHd r).2 := by rw [rdHd_eq]; rfl
theorem rHd_1 {r : Rw} (h : (rHd r).2.bad = false) : (rHd r).1 = (rdHd r).1 := by
 have g := rHd_good h
 rw [rdHd_eq]
 unfold rHd
 dsimp only
 rw [idR_good g.2.1, idR_good g.2.2]
theorem rdFin_rf : ∀ (k : Nat) (f t : Int) (r : Rw) (hs : List Hd), rdFin (⟨1, f, t, (rfLoop k r hs).1, [], []⟩, (rfLoop k r hs).2) = rdFin (⟨1, f, t, (frLoop k r hs).1, [], []⟩, (frLoop k r hs).2)
 | 0, f, t, r, hs => rfl
 | k + 1, f, t, r, hs => by
  rw [rfLoop_s, frLoop_s]
  by_cases hb : r.bad = true
  ·rw [if_pos hb, if_pos hb]
  ·rw [if_neg hb, if_neg hb]
   by_cases h4 : (rNext 5 r).1.n ≠ 4
   ·rw [if_pos h4]
    have ht : (tick r).bad = true := by unfold tick; simp [h4]
    have h2 : (rHd (tick r)).2.bad = true := by
     cases hc : (rHd (tick r)).2.bad
     ·rw [(rHd_good hc).1] at ht; cases ht
     ·rfl
    rw [rfLoop_bad _ _ h2, rdFin_bad h2, rdFin_bad rfl]
   ·rw [if_neg h4]
    have ht : tick r = (rNext 5 r).2 := by unfold tick; rw [decide_eq_false h4]; rfl
    rw [ht]
    cases hc : (rHd (rNext 5 r).2).2.bad
    ·rw [rHd_1 hc, rHd_2]
     exact rdFin_rf k f t _ _
    ·rw [rfLoop_bad _ _ hc, rdFin_bad hc]
     rw [rHd_2] at hc
     rw [frLoop_bad _ _ hc, rdFin_bad hc]
theorem tick_suf {l : List Tok} {r : Rw} (h : r.l <:+ l) : (tick r).l <:+ l := rNext_suf h 5
def RfInv (l : List Tok) (r : Rw) (hs : List Hd) : Prop := r.l <:+ l ∧ RwOk r ∧ hs.length + r.l.length ≤ l.length + (if r.bad = true then 1 else 0) ∧ ∀ h ∈ hs, HdS h
theorem rfInv_next {l : List Tok} {r : Rw} {hs : List Hd} (h : RfInv l r hs) (hb : r.bad = false) : RfInv l (rHd (tick r)).2 (hs ++ [(rHd (tick r)).1]) := by
 obtain ⟨h1, h2, h3, h4⟩ := h
 rw [hb] at h3
 have k5 := rNext_rok h2 5
 have kt : RwOk (tick r) := k5.1
 have st := tick_suf h1
 have lt : (tick r).l.length ≤ r.l.length := rNext_len 5 r
 have gt : (tick r).bad = false → (tick r).l.length + 1 = r.l.length := fun hc => rNext_good 5 r (by unfold tick at hc; exact (Bool.or_eq_false_iff.1 hc).2)
 generalize tick r = x at *
 have ka := rArr_rok kt 32
 have sa := rArr_suf st 32
 have la := rArr_len' 32 x
 have kn := rNext_rok ka.1 1
 have sn := rNext_suf sa 1
 have ln := rNext_len 1 (rArr 32 x).2
 have kb := rArr_rok kn.1 32
 have sb := rArr_suf sn 32
 have lb := rArr_len' 32 (rNext 1 (rArr 32 x).2).2
 have km := rNext_rok kb.1 1
 have sm := rNext_suf sb 1
 have lm := rNext_len 1 (rArr 32 (rNext 1 (rArr 32 x).2).2).2
 have hl : (rHd x).2.l.length ≤ x.l.length := by show (rNext 1 (rArr 32 (rNext 1 (rArr 32 x).2).2).2).2.l.length ≤ _; omega
 refine ⟨sm, km.1, ?_, fun y hy => ?_⟩
 ·rw [List.length_append, List.length_singleton]
  cases hc : (rHd x).2.bad
  ·have := gt (rHd_good hc).1
   simp only [if_false, Bool.false_eq_true] at h3 ⊢
   omega
  ·simp only [if_false, if_true, Bool.false_eq_true] at h3 ⊢
   omega
 ·rcases List.mem_append.1 hy with hy | hy
  ·exact h4 y hy
  ·rw [List.mem_singleton] at hy
   subst hy
   exact { au := ⟨pad32_byt (rNext_rok kt 3).2.1.2.2, pad32_len _⟩, len := kn.2.1.2.1, id := ⟨pad32_byt (rNext_rok kn.1 3).2.1.2.2, pad32_len _⟩ }
end Go.Proofs.YthnhpkpbjaelnaaDoor.Abs
end
section
--KR
namespace Go.Proofs.YthnhpkpbjaelnaaDoor.Abs
open Go
attribute [local irreducible] ifB fitP Does Weaker
theorem msg0_S' : MsgS msg0 where
 kind := by decide
 frm := by decide
 to := by decide
 hs := fun h hh => absurd hh (List.not_mem_nil)
 ps := fun h hh => absurd hh (List.not_mem_nil)
 es := fun h hh => absurd hh (List.not_mem_nil)
 hl := by decide
 pl := by decide
 el := by decide
set_option maxRecDepth 20000 in
set_option maxHeartbeats 4000000 in
theorem refmread_ok (b : List Int) (hb : Byt b) (hl : b.length ≤ 1000000000) : ACall Tryd.prog 26 [.ro b.length (bys b)] (.tuple [.agg (msgC (rdMsg b).1), .bool (decide ((rdMsg b).2 = 0))]) [] := by
 have hd := (refDecode_ok b hb (by omega)).roRes2 (.inr ⟨_, rfl⟩)
 refine ACall.of_does TTok Tryd.func26 rfl Tryd.call26 rfl (wpc_sound (M := MQ) (PL := PL0) (CU := cutAt [9]) TTok mixed _ _ _ ?_)
 rcases decR_or validR b with hq | ⟨l, hq, _, hp⟩
 ·rw [rdMsg_no hq]
  rw [hq] at hd
  conv => whnf
  repeat ((first | refine ⟨pureL_bys _, ?_⟩ | refine ⟨rfl, ?_⟩); conv => whnf)
  refine ⟨_, _, hd, by first | rfl | simp [noRoIf, noRoL, noRoV, noRoL_bys], ?_⟩
  conv => whnf
  repeat ((first | refine ifB_t ?_ | refine ⟨(⟨by kernel_rfl, by kernel_rfl, Nat.le_of_ble_eq_true (by kernel_rfl)⟩ : AV.ones _ = true ∧ _ ∧ _), ?_⟩ | refine ⟨rfl, ?_⟩ | refine ⟨_, rfl, ?_⟩ | refine ⟨⟨rfl, rfl⟩, ?_⟩); conv => whnf)
  rfl
 have R0 : RwOk ⟨l, false⟩ := by
  have := rOpen_rok hb hl
  unfold rOpen at this
  rw [hq] at this
  exact this
 have hlen : l.length ≤ 600 := by
  have := rOpen_len b
  unfold rOpen at this
  rw [hq] at this
  exact this
 have eM : rdMsg b = rdM ⟨l, false⟩ := by unfold rdMsg rOpen; rw [hq]; rfl
 rw [eM]
 rw [hq] at hd
 clear eM hq hp
 have h1 := take_ok l ⟨l, false⟩ 5 List.suffix_rfl (by omega)
 rw [show curC l ⟨l, false⟩ = [.ro l.length (toksC l), .int .i64 0, .bool false] by unfold curC; simp] at h1
 have k1 := rNext_rok R0 5
 have s1 := rNext_suf (r := ⟨l, false⟩) List.suffix_rfl 5
 have eM := rdM_eq ⟨l, false⟩
 generalize rNext 5 ⟨l, false⟩ = q at h1 k1 s1 eM
 obtain ⟨n, r1⟩ := q
 dsimp only at h1 k1 s1 eM
 have h2 := take_ok l r1 1 s1 (by omega)
 have k2 := rNext_rok k1.1 1
 have s2 := rNext_suf s1 1
 generalize rNext 1 r1 = q at h2 k2 s2 eM
 obtain ⟨kd, r2⟩ := q
 dsimp only at h2 k2 s2 eM
 have h3 := take_ok l r2 1 s2 (by omega)
 have k3 := rNext_rok k2.1 1
 have s3 := rNext_suf s2 1
 rw [rdFr_eq, rdAn_eq] at eM
 generalize rNext 1 r2 = q at h3 k3 s3 eM
 obtain ⟨f, r3⟩ := q
 dsimp only at h3 k3 s3 eM
 have h4 := take_ok l r3 1 s3 (by omega)
 have k4 := rNext_rok k3.1 1
 have s4 := rNext_suf s3 1
 generalize rNext 1 r3 = q at h4 k4 s4 eM
 obtain ⟨t, r4⟩ := q
 dsimp only at h4 k4 s4 eM
 have h5 := take_ok l r4 5 s4 (by omega)
 have k5 := rNext_rok k4.1 5
 have s5 := rNext_suf s4 5
 generalize rNext 5 r4 = q at h5 k5 s5 eM
 obtain ⟨k, r5⟩ := q
 dsimp only at h5 k5 s5 eM
 have hl5 : r5.l.length ≤ l.length := List.IsSuffix.length_le s5
 conv => whnf
 repeat ((first | refine ⟨pureL_bys _, ?_⟩ | refine ⟨rfl, ?_⟩); conv => whnf)
 refine ⟨_, _, hd, by first | rfl | simp [noRoIf, noRoL, noRoV, noRoL_bys], ?_⟩
 conv => whnf
 repeat ((first | refine ifB_f ?_ | refine ⟨rfl, ?_⟩ | (refine And.intro ?_ ?_; (focus (first | (simp only [pureL, pureV, pureL_bys, Bool.and_true, Bool.and_self]; done) | (simp only [pureL, pureV, pureL_bys, pureL_toks, Bool.and_true, Bool.and_self]; done))))); conv => whnf)
 refine ⟨_, _, h1, by first | rfl | simp [noRoIf, noRoL, noRoV, noRoL_bys], ?_⟩
 conv => whnf
 repeat ((first | refine ⟨rfl, ?_⟩ | refine ⟨_, rfl, ?_⟩ | (refine And.intro ?_ ?_; (focus (first | (simp only [pureL, pureV, pureL_bys, Bool.and_true, Bool.and_self]; done) | (simp only [pureL, pureV, pureL_bys, pureL_toks, Bool.and_true, Bool.and_self]; done))))); conv => whnf)
 refine ⟨_, _, h2, by first | rfl | simp [noRoIf, noRoL, noRoV, noRoL_bys], ?_⟩
 conv => whnf
 repeat ((first | refine ⟨rfl, ?_⟩ | refine ⟨_, rfl, ?_⟩ | (refine And.intro ?_ ?_; (focus (first | (simp only [pureL, pureV, pureL_bys, Bool.and_true, Bool.and_self]; done) | (simp only [pureL, pureV, pureL_bys, pureL_toks, Bool.and_true, Bool.and_self]; done))))); conv => whnf)
 refine ⟨_, _, h3, by first | rfl | simp [noRoIf, noRoL, noRoV, noRoL_bys], ?_⟩
 conv => whnf
 repeat ((first | refine ⟨rfl, ?_⟩ | refine ⟨_, rfl, ?_⟩ | (refine And.intro ?_ ?_; (focus (first | (simp only [pureL, pureV, pureL_bys, Bool.and_true, Bool.and_self]; done) | (simp only [pureL, pureV, pureL_bys, pureL_toks, Bool.and_true, Bool.and_self]; done))))); conv => whnf)
 refine ⟨_, _, h4, by first | rfl | simp [noRoIf, noRoL, noRoV, noRoL_bys], ?_⟩
 conv => whnf
 repeat ((first | refine ⟨(⟨by kernel_rfl, by kernel_rfl, Nat.le_of_ble_eq_true (by kernel_rfl)⟩ : AV.ones _ = true ∧ _ ∧ _), ?_⟩ | refine ⟨rfl, ?_⟩ | refine ⟨_, rfl, ?_⟩); conv => whnf)
 refine Does.seqCut (fun g : Msg × Rw => mkSt [(2, .ptr 0 0), (4, .ro l.length (toksC l)), (6, .ptr 1 0), (9, .ptr 2 0)] [(0, msgV 0 0 0 .nil .nil .nil), (1, curC l g.2), (2, msgC g.1)] 3 212) (fun g => MsgS g.1 ∧ g.2.l <:+ l ∧ rdFin g = rdM ⟨l, false⟩) ?_ ?_
 ·clear hd h1 h2 h3 h4
  by_cases c1 : n.n = 4 ∧ kd.n = 3
  ·rw [if_pos c1, ← rdFin_rf] at eM
   obtain ⟨c1, c2⟩ := c1
   have FA : ∀ (hs : List Hd) (r : Rw), RfInv l r hs → rfLoop k.n.toNat r5 [] = (hs, r) → MsgS ⟨1, f.n, t.n, hs, [], []⟩ ∧ r.l <:+ l ∧ rdFin (⟨1, f.n, t.n, hs, [], []⟩, r) = rdM ⟨l, false⟩ := by
    intro hs r inv e
    rw [e] at eM
    refine ⟨{ kind := ⟨by dsimp only; omega, by dsimp only; omega⟩, frm := k3.2.1.2.1, to := k4.2.1.2.1, hs := inv.2.2.2, ps := fun h hh => absurd hh (List.not_mem_nil), es := fun h hh => absurd hh (List.not_mem_nil), hl := ?_, pl := by simp, el := by simp }, inv.1, eM.symm⟩
    have := inv.2.2.1
    dsimp only
    split at this <;> omega
   refine wpc_sound (M := MQ) (PL := PL0) (CU := noCut) TTok mixed _ _ _ ?_
   conv => whnf
   repeat ((first | refine ifB_t ?_ | (refine ifB_pos (decide_eq_true (by first | omega | rfl | (dsimp only; omega))) ?_) | refine ⟨(⟨by kernel_rfl, by kernel_rfl, Nat.le_of_ble_eq_true (by kernel_rfl)⟩ : AV.ones _ = true ∧ _ ∧ _), ?_⟩ | refine ⟨rfl, ?_⟩ | (refine And.intro ?_ ?_; (focus (first | (simp only [pureL, pureV, pureL_bys, Bool.and_true, Bool.and_self]; done) | (simp only [pureL, pureV, pureL_bys, pureL_toks, Bool.and_true, Bool.and_self]; done))))); conv => whnf)
   refine ⟨_, _, h5, by first | rfl | simp [noRoIf, noRoL, noRoV, noRoL_bys], ?_⟩
   conv => whnf
   repeat ((refine ⟨_, rfl, ?_⟩); conv => whnf)
   clear h5 eM
   refine Does.loop (fun g : Int × Rw × List Hd => mkSt [(2, .ptr 0 0), (4, .ro l.length (toksC l)), (6, .ptr 1 0), (9, .ptr 2 0), (10, .int .i64 g.1)] [(0, msgV 0 0 0 .nil .nil .nil), (1, curC l g.2.1), (2, msgV 1 f.n t.n (.sl 3 0 g.2.2.length 66 false) .nil .nil), (3, rowsC hdC g.2.2)] 4 212)
    (fun g => RfInv l g.2.1 g.2.2 ∧ (g.1 < 9223372036854775808 ∧ -9223372036854775808 ≤ g.1) ∧ rfLoop g.1.toNat g.2.1 g.2.2 = rfLoop k.n.toNat r5 []) (fun g => g.1.toNat) ?_ (k.n, r5, []) ⟨⟨s5, k5.1, by simp; split <;> omega, fun h hh => absurd hh (List.not_mem_nil)⟩, ⟨k5.2.1.2.1.2, k5.2.1.2.1.1⟩, rfl⟩ ?_
   ·rintro ⟨c, r, hs⟩ ⟨inv, i5, i4⟩
    dsimp only at inv i4 i5 ⊢
    have done1 : ∀ (hb : c ≤ 0 ∨ r.bad = true), rfLoop k.n.toNat r5 [] = (hs, r) := by
     intro hb
     rw [← i4]
     rcases hb with hb | hb
     ·rw [show c.toNat = 0 by omega]; rfl
     ·exact rfLoop_bad _ _ hb
    by_cases c1 : c ≤ 0
    ·have e := done1 (.inl c1)
     clear done1
     refine Does.freeze 3 rfl (Does.tidy [(2, .ptr 0 0), (4, .ro l.length (toksC l)), (6, .ptr 1 0), (9, .ptr 2 0), (10, .int .i64 c)] [(0, msgV 0 0 0 .nil .nil .nil), (1, curC l r), (2, msgV 1 f.n t.n (.ro hs.length (List.take (hs.length * 66) (List.drop 0 (rowsC hdC hs)))) .nil .nil)] 4 212 rfl rfl rfl (by kernel_rfl) (by kernel_rfl) ?_)
     rw [rowsC_whole hdC_length]
     refine wpc_sound (M := MQ) (PL := PL0) (CU := noCut) TTok mixed _ _ _ ?_
     conv => whnf
     repeat ((first | refine ifB_f ?_ | (refine ifB_neg (decide_eq_false (by first | omega | rfl | (dsimp only; omega))) ?_)); conv => whnf)
     exact ⟨(⟨1, f.n, t.n, hs, [], []⟩, r), FA hs r inv e, weaker_of [(0, 0), (1, 1), (2, 2)] rfl rfl ⟨⟨rfl, rfl⟩, ⟨rfl, rfl, pureL_toks _⟩, ⟨rfl, rfl⟩, ⟨rfl, rfl⟩, trivial⟩ ⟨⟨⟨rfl, rfl⟩, ⟨rfl, rfl⟩, ⟨rfl, rfl⟩, trivial, trivial, trivial, trivial⟩, ⟨⟨rfl, rfl, pureL_toks _⟩, ⟨rfl, rfl⟩, rfl, trivial⟩, ⟨⟨rfl, rfl⟩, ⟨rfl, rfl⟩, ⟨rfl, rfl⟩, ⟨rfl, rfl, hds_pure _⟩, ⟨rfl, rfl⟩, ⟨rfl, rfl⟩, trivial⟩, trivial⟩⟩
    cases c2 : r.bad
    case true =>
     have e := done1 (.inr c2)
     clear done1
     refine Does.freeze 3 rfl (Does.tidy [(2, .ptr 0 0), (4, .ro l.length (toksC l)), (6, .ptr 1 0), (9, .ptr 2 0), (10, .int .i64 c)] [(0, msgV 0 0 0 .nil .nil .nil), (1, curC l r), (2, msgV 1 f.n t.n (.ro hs.length (List.take (hs.length * 66) (List.drop 0 (rowsC hdC hs)))) .nil .nil)] 4 212 rfl rfl rfl (by kernel_rfl) (by kernel_rfl) ?_)
     rw [rowsC_whole hdC_length]
     refine wpc_sound (M := MQ) (PL := PL0) (CU := noCut) TTok mixed _ _ _ ?_
     conv => whnf
     repeat ((first | refine ifB_t ?_ | (refine ifB_pos (decide_eq_true (by first | omega | rfl | (dsimp only; omega))) ?_) | refine ⟨_, rfl, ?_⟩); conv => whnf)
     refine ifB_neg (by rw [c2]; rfl) ?_
     conv => whnf
     exact ⟨(⟨1, f.n, t.n, hs, [], []⟩, r), FA hs r inv e, weaker_of [(0, 0), (1, 1), (2, 2)] rfl rfl ⟨⟨rfl, rfl⟩, ⟨rfl, rfl, pureL_toks _⟩, ⟨rfl, rfl⟩, ⟨rfl, rfl⟩, trivial⟩ ⟨⟨⟨rfl, rfl⟩, ⟨rfl, rfl⟩, ⟨rfl, rfl⟩, trivial, trivial, trivial, trivial⟩, ⟨⟨rfl, rfl, pureL_toks _⟩, ⟨rfl, rfl⟩, rfl, trivial⟩, ⟨⟨rfl, rfl⟩, ⟨rfl, rfl⟩, ⟨rfl, rfl⟩, ⟨rfl, rfl, hds_pure _⟩, ⟨rfl, rfl⟩, ⟨rfl, rfl⟩, trivial⟩, trivial⟩⟩
    clear done1
    obtain ⟨j, hj⟩ : ∃ j, c.toNat = j + 1 := ⟨c.toNat - 1, by omega⟩
    rw [hj, rfLoop_s, if_neg (by rw [c2]; simp)] at i4
    have inv' := rfInv_next inv c2
    have h4 := take_ok l r 5 inv.1 (by omega)
    have s1 := tick_suf inv.1
    have hlen : hs.length + r.l.length ≤ l.length := by have := inv.2.2.1; rw [c2] at this; simpa using this
    have et : tick r = ⟨(rNext 5 r).2.l, decide ((rNext 5 r).1.n ≠ 4) || (rNext 5 r).2.bad⟩ := rfl
    generalize tick r = rb at inv' s1 et i4
    have h5 := refid_ok l rb s1 (by omega)
    have s2 := rArr_suf s1 32
    have h6 := take_ok l _ 1 s2 (by omega)
    have s3 := rNext_suf s2 1
    have h7 := refid_ok l _ s3 (by omega)
    have s4 := rArr_suf s3 32
    have h8 := take_ok l _ 1 s4 (by omega)
    clear s1 s2 s3 s4
    unfold rHd at inv' i4
    generalize idR rb = au at h5 inv' i4
    generalize (rArr 32 rb).2 = q1 at h5 h6 h7 h8 inv' i4
    generalize rNext 1 q1 = p2 at h6 h7 h8 inv' i4
    obtain ⟨le, q2⟩ := p2
    dsimp only at h6 h7 h8 inv' i4
    generalize idR q2 = id at h7 inv' i4
    generalize (rArr 32 q2).2 = q3 at h7 h8 inv' i4
    generalize rNext 1 q3 = p4 at h8 inv' i4
    obtain ⟨sh, q4⟩ := p4
    dsimp only at h8 inv' i4
    generalize rNext 5 r = p0 at h4 et
    obtain ⟨li, ra⟩ := p0
    dsimp only at h4 et
    obtain ⟨ral, rab⟩ := ra
    dsimp only at et
    obtain ⟨q4l, q4b⟩ := q4
    dsimp only at inv' i4
    have lm : (hs ++ [(⟨au, le.n, id, decide (sh.n = 1)⟩ : Hd)]).length = hs.length + 1 := by simp
    have hx : rb = ⟨ral, true⟩ ∧ li.n ≠ 4 ∨ rb = ⟨ral, rab⟩ ∧ li.n = 4 := by
     by_cases c3 : li.n = 4
     ·right; exact ⟨by rw [et, decide_eq_false (by omega)]; rfl, c3⟩
     ·left; exact ⟨by rw [et, decide_eq_true c3]; rfl, c3⟩
    refine wpc_sound (M := MQ) (PL := PL0) (CU := cutAt [100014, 100015, 100016, 100017, 100018]) TTok mixed _ _ _ ?_
    conv => whnf
    repeat ((first | refine ifB_t ?_ | (refine ifB_pos (decide_eq_true (by first | omega | rfl | (dsimp only; omega))) ?_) | refine ⟨_, rfl, ?_⟩); conv => whnf)
    refine ifB_pos (by rw [c2]; rfl) ?_
    conv => whnf
    repeat ((first | refine ⟨rfl, ?_⟩ | (refine And.intro ?_ ?_; (focus (first | (simp only [pureL, pureV, pureL_bys, Bool.and_true, Bool.and_self]; done) | (simp only [pureL, pureV, pureL_bys, pureL_toks, Bool.and_true, Bool.and_self]; done))))); conv => whnf)
    refine ⟨_, _, h4, by first | rfl | simp [noRoIf, noRoL, noRoV, noRoL_bys], ?_⟩
    conv => whnf
    repeat ((refine ⟨_, rfl, ?_⟩); conv => whnf)
    rcases hx with ⟨e, c3⟩ | ⟨e, c3⟩
    ·conv => whnf
     repeat ((first | refine ifB_t ?_ | (refine ifB_pos (decide_eq_true (by first | omega | rfl | (dsimp only; omega))) ?_) | refine ⟨(⟨by kernel_rfl, by kernel_rfl, Nat.le_of_ble_eq_true (by kernel_rfl)⟩ : AV.ones _ = true ∧ _ ∧ _), ?_⟩); conv => whnf)
     refine Does.tidy [(2, .ptr 0 0), (4, .ro l.length (toksC l)), (6, .ptr 1 0), (9, .ptr 2 0), (10, .int .i64 c)] [(0, msgV 0 0 0 .nil .nil .nil), (1, curC l ⟨ral, true⟩), (2, msgV 1 f.n t.n (.sl 3 0 hs.length 66 false) .nil .nil), (3, rowsC hdC hs)] 4 212 rfl rfl rfl (by kernel_rfl) (by kernel_rfl) ?_
     rw [← e]
     clear e et h4
     refine wpc_sound (M := MQ) (PL := PL0) (CU := noCut) TTok mixed _ _ _ ?_
     conv => whnf
     repeat ((first | refine ⟨rfl, ?_⟩ | (refine And.intro ?_ ?_; (focus (first | (simp only [pureL, pureV, pureL_bys, Bool.and_true, Bool.and_self]; done) | (simp only [pureL, pureV, pureL_bys, pureL_toks, Bool.and_true, Bool.and_self]; done))))); conv => whnf)
     refine ⟨_, _, h5, by first | rfl | simp [noRoIf, noRoL, noRoV, noRoL_bys], ?_⟩
     conv => whnf
     repeat ((first | refine ⟨rfl, ?_⟩ | (refine And.intro ?_ ?_; (focus (first | (simp only [pureL, pureV, pureL_bys, Bool.and_true, Bool.and_self]; done) | (simp only [pureL, pureV, pureL_bys, pureL_toks, Bool.and_true, Bool.and_self]; done))))); conv => whnf)
     refine ⟨_, _, h6, by first | rfl | simp [noRoIf, noRoL, noRoV, noRoL_bys], ?_⟩
     conv => whnf
     repeat ((first | refine ⟨rfl, ?_⟩ | refine ⟨_, rfl, ?_⟩ | (refine And.intro ?_ ?_; (focus (first | (simp only [pureL, pureV, pureL_bys, Bool.and_true, Bool.and_self]; done) | (simp only [pureL, pureV, pureL_bys, pureL_toks, Bool.and_true, Bool.and_self]; done))))); conv => whnf)
     refine ⟨_, _, h7, by first | rfl | simp [noRoIf, noRoL, noRoV, noRoL_bys], ?_⟩
     conv => whnf
     repeat ((first | refine ⟨(⟨by kernel_rfl, by kernel_rfl, Nat.le_of_ble_eq_true (by kernel_rfl)⟩ : AV.ones _ = true ∧ _ ∧ _), ?_⟩ | refine ⟨rfl, ?_⟩ | refine ⟨⟨rfl, rfl⟩, ?_⟩); conv => whnf)
     refine Does.tidy [(2, .ptr 0 0), (4, .ro l.length (toksC l)), (6, .ptr 1 0), (9, .ptr 2 0), (10, .int .i64 c), (11, .ptr 4 0)] [(0, msgV 0 0 0 .nil .nil .nil), (1, curC l q3), (2, msgV 1 f.n t.n (.sl 3 0 hs.length 66 false) .nil .nil), (3, rowsC hdC hs), (4, hdC ⟨au, le.n, id, false⟩)] 5 212 rfl rfl rfl (by kernel_rfl) (by kernel_rfl) ?_
     clear h5 h6 h7
     refine wpc_sound (M := MQ) (PL := PL0) (CU := noCut) TTok mixed _ _ _ ?_
     conv => whnf
     repeat ((first | refine ⟨rfl, ?_⟩ | (refine And.intro ?_ ?_; (focus (first | (simp only [pureL, pureV, pureL_bys, Bool.and_true, Bool.and_self]; done) | (simp only [pureL, pureV, pureL_bys, pureL_toks, Bool.and_true, Bool.and_self]; done))))); conv => whnf)
     refine ⟨_, _, h8, by first | rfl | simp [noRoIf, noRoL, noRoV, noRoL_bys], ?_⟩
     conv => whnf
     repeat ((refine ⟨_, rfl, ?_⟩); conv => whnf)
     refine Does.tidy [(2, .ptr 0 0), (4, .ro l.length (toksC l)), (6, .ptr 1 0), (9, .ptr 2 0), (10, .int .i64 c), (11, .ptr 4 0), (12, .int .i64 sh.n)] [(0, msgV 0 0 0 .nil .nil .nil), (1, curC l ⟨q4l, q4b⟩), (2, msgV 1 f.n t.n (.sl 3 0 hs.length 66 false) .nil .nil), (3, rowsC hdC hs), (4, hdC ⟨au, le.n, id, false⟩)] 5 212 rfl rfl rfl (by kernel_rfl) (by kernel_rfl) ?_
     clear h8
     refine wpc_sound (M := MQ) (PL := PL0) (CU := noCut) TTok mixed _ _ _ ?_
     cases q4b
     ·conv => whnf
      repeat ((first | refine ifB_f ?_ | refine ⟨(⟨by kernel_rfl, by kernel_rfl, Nat.le_of_ble_eq_true (by kernel_rfl)⟩ : AV.ones _ = true ∧ _ ∧ _), ?_⟩ | refine ⟨_, rfl, ?_⟩); conv => whnf)
      refine Does.tidy [(2, .ptr 0 0), (4, .ro l.length (toksC l)), (6, .ptr 1 0), (9, .ptr 2 0), (10, .int .i64 c), (11, .ptr 4 0), (12, .int .i64 sh.n)] [(0, msgV 0 0 0 .nil .nil .nil), (1, curC l ⟨q4l, false || decide (1 < sh.n)⟩), (2, msgV 1 f.n t.n (.sl 3 0 hs.length 66 false) .nil .nil), (3, rowsC hdC hs), (4, hdC ⟨au, le.n, id, false⟩)] 5 212 rfl rfl rfl (by kernel_rfl) (by kernel_rfl) ?_
      refine wpc_sound (M := MQ) (PL := PL0) (CU := noCut) TTok mixed _ _ _ ?_
      conv => whnf
      repeat ((refine ⟨(⟨by kernel_rfl, by kernel_rfl, Nat.le_of_ble_eq_true (by kernel_rfl)⟩ : AV.ones _ = true ∧ _ ∧ _), ?_⟩); conv => whnf)
      refine Does.tidy [(2, .ptr 0 0), (4, .ro l.length (toksC l)), (6, .ptr 1 0), (9, .ptr 2 0), (10, .int .i64 c), (11, .ptr 4 0)] [(0, msgV 0 0 0 .nil .nil .nil), (1, curC l ⟨q4l, false || decide (1 < sh.n)⟩), (2, msgV 1 f.n t.n (.sl 3 0 hs.length 66 false) .nil .nil), (3, rowsC hdC hs), (4, hdC ⟨au, le.n, id, decide (sh.n = 1)⟩)] 5 212 rfl rfl rfl (by kernel_rfl) (by kernel_rfl) ?_
      generalize (⟨au, le.n, id, decide (sh.n = 1)⟩ : Hd) = h at inv' i4 lm ⊢
      refine wpc_sound (M := MQ) (PL := PL0) (CU := noCut) TTok mixed _ _ _ ?_
      conv => whnf
      repeat ((first | (refine Or.inl ⟨⟨rfl, ?_⟩, ?_⟩; (focus (first | rfl | (simp; done) | (rw [toksC_length]; omega)))) | refine ⟨rfl, ?_⟩ | refine ⟨_, rfl, ?_⟩ | refine ⟨⟨rfl, rfl⟩, ?_⟩); conv => whnf)
      refine ⟨⟨rfl, rfl, by rw [hds_len]; omega, by simp [limB]; omega⟩, ?_⟩
      conv => whnf
      repeat ((first | (refine fit_i64 ⟨by first | omega | rfl | (dsimp only; omega), by first | omega | rfl | (dsimp only; omega)⟩ ?_) | refine ⟨(⟨by kernel_rfl, by kernel_rfl, Nat.le_of_ble_eq_true (by kernel_rfl)⟩ : AV.ones _ = true ∧ _ ∧ _), ?_⟩); conv => whnf)
      refine ⟨(c - 1, ⟨q4l, false || decide (1 < sh.n)⟩, hs ++ [h]), ⟨inv', by dsimp only; omega, ?_⟩, by dsimp only; omega, weaker_of [(0, 0), (1, 1), (2, 2), (3, 6)] rfl rfl ⟨⟨rfl, rfl⟩, ⟨rfl, rfl, pureL_toks _⟩, ⟨rfl, rfl⟩, ⟨rfl, rfl⟩, ⟨rfl, rfl⟩, trivial⟩ ⟨⟨⟨rfl, rfl⟩, ⟨rfl, rfl⟩, ⟨rfl, rfl⟩, trivial, trivial, trivial, trivial⟩, ⟨⟨rfl, rfl, pureL_toks _⟩, ⟨rfl, rfl⟩, rfl, trivial⟩, ⟨⟨rfl, rfl⟩, ⟨rfl, rfl⟩, ⟨rfl, rfl⟩, ⟨rfl, rfl, lm.symm, rfl, fun h => h⟩, trivial, trivial, trivial⟩, ?_, trivial⟩⟩
      ·rw [← i4]
       dsimp only
       congr 1
       omega
      ·refine rowsC_les hdC_les ?_
       rw [rowsC_append]
       simp only [rowsC, List.append_nil]
       rfl
     ·conv => whnf
      repeat ((first | refine ifB_t ?_ | refine ⟨(⟨by kernel_rfl, by kernel_rfl, Nat.le_of_ble_eq_true (by kernel_rfl)⟩ : AV.ones _ = true ∧ _ ∧ _), ?_⟩ | refine ⟨_, rfl, ?_⟩); conv => whnf)
      refine Does.tidy [(2, .ptr 0 0), (4, .ro l.length (toksC l)), (6, .ptr 1 0), (9, .ptr 2 0), (10, .int .i64 c), (11, .ptr 4 0), (12, .int .i64 sh.n)] [(0, msgV 0 0 0 .nil .nil .nil), (1, curC l ⟨q4l, true || decide (1 < sh.n)⟩), (2, msgV 1 f.n t.n (.sl 3 0 hs.length 66 false) .nil .nil), (3, rowsC hdC hs), (4, hdC ⟨au, le.n, id, false⟩)] 5 212 rfl rfl rfl (by kernel_rfl) (by kernel_rfl) ?_
      refine wpc_sound (M := MQ) (PL := PL0) (CU := noCut) TTok mixed _ _ _ ?_
      conv => whnf
      repeat ((refine ⟨(⟨by kernel_rfl, by kernel_rfl, Nat.le_of_ble_eq_true (by kernel_rfl)⟩ : AV.ones _ = true ∧ _ ∧ _), ?_⟩); conv => whnf)
      refine Does.tidy [(2, .ptr 0 0), (4, .ro l.length (toksC l)), (6, .ptr 1 0), (9, .ptr 2 0), (10, .int .i64 c), (11, .ptr 4 0)] [(0, msgV 0 0 0 .nil .nil .nil), (1, curC l ⟨q4l, true || decide (1 < sh.n)⟩), (2, msgV 1 f.n t.n (.sl 3 0 hs.length 66 false) .nil .nil), (3, rowsC hdC hs), (4, hdC ⟨au, le.n, id, decide (sh.n = 1)⟩)] 5 212 rfl rfl rfl (by kernel_rfl) (by kernel_rfl) ?_
      generalize (⟨au, le.n, id, decide (sh.n = 1)⟩ : Hd) = h at inv' i4 lm ⊢
      refine wpc_sound (M := MQ) (PL := PL0) (CU := noCut) TTok mixed _ _ _ ?_
      conv => whnf
      repeat ((first | (refine Or.inl ⟨⟨rfl, ?_⟩, ?_⟩; (focus (first | rfl | (simp; done) | (rw [toksC_length]; omega)))) | refine ⟨rfl, ?_⟩ | refine ⟨_, rfl, ?_⟩ | refine ⟨⟨rfl, rfl⟩, ?_⟩); conv => whnf)
      refine ⟨⟨rfl, rfl, by rw [hds_len]; omega, by simp [limB]; omega⟩, ?_⟩
      conv => whnf
      repeat ((first | (refine fit_i64 ⟨by first | omega | rfl | (dsimp only; omega), by first | omega | rfl | (dsimp only; omega)⟩ ?_) | refine ⟨(⟨by kernel_rfl, by kernel_rfl, Nat.le_of_ble_eq_true (by kernel_rfl)⟩ : AV.ones _ = true ∧ _ ∧ _), ?_⟩); conv => whnf)
      refine ⟨(c - 1, ⟨q4l, true || decide (1 < sh.n)⟩, hs ++ [h]), ⟨inv', by dsimp only; omega, ?_⟩, by dsimp only; omega, weaker_of [(0, 0), (1, 1), (2, 2), (3, 6)] rfl rfl ⟨⟨rfl, rfl⟩, ⟨rfl, rfl, pureL_toks _⟩, ⟨rfl, rfl⟩, ⟨rfl, rfl⟩, ⟨rfl, rfl⟩, trivial⟩ ⟨⟨⟨rfl, rfl⟩, ⟨rfl, rfl⟩, ⟨rfl, rfl⟩, trivial, trivial, trivial, trivial⟩, ⟨⟨rfl, rfl, pureL_toks _⟩, ⟨rfl, rfl⟩, rfl, trivial⟩, ⟨⟨rfl, rfl⟩, ⟨rfl, rfl⟩, ⟨rfl, rfl⟩, ⟨rfl, rfl, lm.symm, rfl, fun h => h⟩, trivial, trivial, trivial⟩, ?_, trivial⟩⟩
      ·rw [← i4]
       dsimp only
       congr 1
       omega
      ·refine rowsC_les hdC_les ?_
       rw [rowsC_append]
       simp only [rowsC, List.append_nil]
       rfl
    ·conv => whnf
     repeat ((first | refine ifB_f ?_ | (refine ifB_neg (decide_eq_false (by first | omega | rfl | (dsimp only; omega))) ?_) | refine ⟨(⟨by kernel_rfl, by kernel_rfl, Nat.le_of_ble_eq_true (by kernel_rfl)⟩ : AV.ones _ = true ∧ _ ∧ _), ?_⟩ | refine ⟨_, rfl, ?_⟩); conv => whnf)
     refine Does.tidy [(2, .ptr 0 0), (4, .ro l.length (toksC l)), (6, .ptr 1 0), (9, .ptr 2 0), (10, .int .i64 c)] [(0, msgV 0 0 0 .nil .nil .nil), (1, curC l ⟨ral, rab⟩), (2, msgV 1 f.n t.n (.sl 3 0 hs.length 66 false) .nil .nil), (3, rowsC hdC hs)] 4 212 rfl rfl rfl (by kernel_rfl) (by kernel_rfl) ?_
     rw [← e]
     clear e et h4
     refine wpc_sound (M := MQ) (PL := PL0) (CU := noCut) TTok mixed _ _ _ ?_
     conv => whnf
     repeat ((first | refine ⟨rfl, ?_⟩ | (refine And.intro ?_ ?_; (focus (first | (simp only [pureL, pureV, pureL_bys, Bool.and_true, Bool.and_self]; done) | (simp only [pureL, pureV, pureL_bys, pureL_toks, Bool.and_true, Bool.and_self]; done))))); conv => whnf)
     refine ⟨_, _, h5, by first | rfl | simp [noRoIf, noRoL, noRoV, noRoL_bys], ?_⟩
     conv => whnf
     repeat ((first | refine ⟨rfl, ?_⟩ | (refine And.intro ?_ ?_; (focus (first | (simp only [pureL, pureV, pureL_bys, Bool.and_true, Bool.and_self]; done) | (simp only [pureL, pureV, pureL_bys, pureL_toks, Bool.and_true, Bool.and_self]; done))))); conv => whnf)
     refine ⟨_, _, h6, by first | rfl | simp [noRoIf, noRoL, noRoV, noRoL_bys], ?_⟩
     conv => whnf
     repeat ((first | refine ⟨rfl, ?_⟩ | refine ⟨_, rfl, ?_⟩ | (refine And.intro ?_ ?_; (focus (first | (simp only [pureL, pureV, pureL_bys, Bool.and_true, Bool.and_self]; done) | (simp only [pureL, pureV, pureL_bys, pureL_toks, Bool.and_true, Bool.and_self]; done))))); conv => whnf)
     refine ⟨_, _, h7, by first | rfl | simp [noRoIf, noRoL, noRoV, noRoL_bys], ?_⟩
     conv => whnf
     repeat ((first | refine ⟨(⟨by kernel_rfl, by kernel_rfl, Nat.le_of_ble_eq_true (by kernel_rfl)⟩ : AV.ones _ = true ∧ _ ∧ _), ?_⟩ | refine ⟨rfl, ?_⟩ | refine ⟨⟨rfl, rfl⟩, ?_⟩); conv => whnf)
     refine Does.tidy [(2, .ptr 0 0), (4, .ro l.length (toksC l)), (6, .ptr 1 0), (9, .ptr 2 0), (10, .int .i64 c), (11, .ptr 4 0)] [(0, msgV 0 0 0 .nil .nil .nil), (1, curC l q3), (2, msgV 1 f.n t.n (.sl 3 0 hs.length 66 false) .nil .nil), (3, rowsC hdC hs), (4, hdC ⟨au, le.n, id, false⟩)] 5 212 rfl rfl rfl (by kernel_rfl) (by kernel_rfl) ?_
     clear h5 h6 h7
     refine wpc_sound (M := MQ) (PL := PL0) (CU := noCut) TTok mixed _ _ _ ?_
     conv => whnf
     repeat ((first | refine ⟨rfl, ?_⟩ | (refine And.intro ?_ ?_; (focus (first | (simp only [pureL, pureV, pureL_bys, Bool.and_true, Bool.and_self]; done) | (simp only [pureL, pureV, pureL_bys, pureL_toks, Bool.and_true, Bool.and_self]; done))))); conv => whnf)
     refine ⟨_, _, h8, by first | rfl | simp [noRoIf, noRoL, noRoV, noRoL_bys], ?_⟩
     conv => whnf
     repeat ((refine ⟨_, rfl, ?_⟩); conv => whnf)
     refine Does.tidy [(2, .ptr 0 0), (4, .ro l.length (toksC l)), (6, .ptr 1 0), (9, .ptr 2 0), (10, .int .i64 c), (11, .ptr 4 0), (12, .int .i64 sh.n)] [(0, msgV 0 0 0 .nil .nil .nil), (1, curC l ⟨q4l, q4b⟩), (2, msgV 1 f.n t.n (.sl 3 0 hs.length 66 false) .nil .nil), (3, rowsC hdC hs), (4, hdC ⟨au, le.n, id, false⟩)] 5 212 rfl rfl rfl (by kernel_rfl) (by kernel_rfl) ?_
     clear h8
     refine wpc_sound (M := MQ) (PL := PL0) (CU := noCut) TTok mixed _ _ _ ?_
     cases q4b
     ·conv => whnf
      repeat ((first | refine ifB_f ?_ | refine ⟨(⟨by kernel_rfl, by kernel_rfl, Nat.le_of_ble_eq_true (by kernel_rfl)⟩ : AV.ones _ = true ∧ _ ∧ _), ?_⟩ | refine ⟨_, rfl, ?_⟩); conv => whnf)
      refine Does.tidy [(2, .ptr 0 0), (4, .ro l.length (toksC l)), (6, .ptr 1 0), (9, .ptr 2 0), (10, .int .i64 c), (11, .ptr 4 0), (12, .int .i64 sh.n)] [(0, msgV 0 0 0 .nil .nil .nil), (1, curC l ⟨q4l, false || decide (1 < sh.n)⟩), (2, msgV 1 f.n t.n (.sl 3 0 hs.length 66 false) .nil .nil), (3, rowsC hdC hs), (4, hdC ⟨au, le.n, id, false⟩)] 5 212 rfl rfl rfl (by kernel_rfl) (by kernel_rfl) ?_
      refine wpc_sound (M := MQ) (PL := PL0) (CU := noCut) TTok mixed _ _ _ ?_
      conv => whnf
      repeat ((refine ⟨(⟨by kernel_rfl, by kernel_rfl, Nat.le_of_ble_eq_true (by kernel_rfl)⟩ : AV.ones _ = true ∧ _ ∧ _), ?_⟩); conv => whnf)
      refine Does.tidy [(2, .ptr 0 0), (4, .ro l.length (toksC l)), (6, .ptr 1 0), (9, .ptr 2 0), (10, .int .i64 c), (11, .ptr 4 0)] [(0, msgV 0 0 0 .nil .nil .nil), (1, curC l ⟨q4l, false || decide (1 < sh.n)⟩), (2, msgV 1 f.n t.n (.sl 3 0 hs.length 66 false) .nil .nil), (3, rowsC hdC hs), (4, hdC ⟨au, le.n, id, decide (sh.n = 1)⟩)] 5 212 rfl rfl rfl (by kernel_rfl) (by kernel_rfl) ?_
      generalize (⟨au, le.n, id, decide (sh.n = 1)⟩ : Hd) = h at inv' i4 lm ⊢
      refine wpc_sound (M := MQ) (PL := PL0) (CU := noCut) TTok mixed _ _ _ ?_
      conv => whnf
      repeat ((first | (refine Or.inl ⟨⟨rfl, ?_⟩, ?_⟩; (focus (first | rfl | (simp; done) | (rw [toksC_length]; omega)))) | refine ⟨rfl, ?_⟩ | refine ⟨_, rfl, ?_⟩ | refine ⟨⟨rfl, rfl⟩, ?_⟩); conv => whnf)
      refine ⟨⟨rfl, rfl, by rw [hds_len]; omega, by simp [limB]; omega⟩, ?_⟩
      conv => whnf
      repeat ((first | (refine fit_i64 ⟨by first | omega | rfl | (dsimp only; omega), by first | omega | rfl | (dsimp only; omega)⟩ ?_) | refine ⟨(⟨by kernel_rfl, by kernel_rfl, Nat.le_of_ble_eq_true (by kernel_rfl)⟩ : AV.ones _ = true ∧ _ ∧ _), ?_⟩); conv => whnf)
      refine ⟨(c - 1, ⟨q4l, false || decide (1 < sh.n)⟩, hs ++ [h]), ⟨inv', by dsimp only; omega, ?_⟩, by dsimp only; omega, weaker_of [(0, 0), (1, 1), (2, 2), (3, 6)] rfl rfl ⟨⟨rfl, rfl⟩, ⟨rfl, rfl, pureL_toks _⟩, ⟨rfl, rfl⟩, ⟨rfl, rfl⟩, ⟨rfl, rfl⟩, trivial⟩ ⟨⟨⟨rfl, rfl⟩, ⟨rfl, rfl⟩, ⟨rfl, rfl⟩, trivial, trivial, trivial, trivial⟩, ⟨⟨rfl, rfl, pureL_toks _⟩, ⟨rfl, rfl⟩, rfl, trivial⟩, ⟨⟨rfl, rfl⟩, ⟨rfl, rfl⟩, ⟨rfl, rfl⟩, ⟨rfl, rfl, lm.symm, rfl, fun h => h⟩, trivial, trivial, trivial⟩, ?_, trivial⟩⟩
      ·rw [← i4]
       dsimp only
       congr 1
       omega
      ·refine rowsC_les hdC_les ?_
       rw [rowsC_append]
       simp only [rowsC, List.append_nil]
       rfl
     ·conv => whnf
      repeat ((first | refine ifB_t ?_ | refine ⟨(⟨by kernel_rfl, by kernel_rfl, Nat.le_of_ble_eq_true (by kernel_rfl)⟩ : AV.ones _ = true ∧ _ ∧ _), ?_⟩ | refine ⟨_, rfl, ?_⟩); conv => whnf)
      refine Does.tidy [(2, .ptr 0 0), (4, .ro l.length (toksC l)), (6, .ptr 1 0), (9, .ptr 2 0), (10, .int .i64 c), (11, .ptr 4 0), (12, .int .i64 sh.n)] [(0, msgV 0 0 0 .nil .nil .nil), (1, curC l ⟨q4l, true || decide (1 < sh.n)⟩), (2, msgV 1 f.n t.n (.sl 3 0 hs.length 66 false) .nil .nil), (3, rowsC hdC hs), (4, hdC ⟨au, le.n, id, false⟩)] 5 212 rfl rfl rfl (by kernel_rfl) (by kernel_rfl) ?_
      refine wpc_sound (M := MQ) (PL := PL0) (CU := noCut) TTok mixed _ _ _ ?_
      conv => whnf
      repeat ((refine ⟨(⟨by kernel_rfl, by kernel_rfl, Nat.le_of_ble_eq_true (by kernel_rfl)⟩ : AV.ones _ = true ∧ _ ∧ _), ?_⟩); conv => whnf)
      refine Does.tidy [(2, .ptr 0 0), (4, .ro l.length (toksC l)), (6, .ptr 1 0), (9, .ptr 2 0), (10, .int .i64 c), (11, .ptr 4 0)] [(0, msgV 0 0 0 .nil .nil .nil), (1, curC l ⟨q4l, true || decide (1 < sh.n)⟩), (2, msgV 1 f.n t.n (.sl 3 0 hs.length 66 false) .nil .nil), (3, rowsC hdC hs), (4, hdC ⟨au, le.n, id, decide (sh.n = 1)⟩)] 5 212 rfl rfl rfl (by kernel_rfl) (by kernel_rfl) ?_
      generalize (⟨au, le.n, id, decide (sh.n = 1)⟩ : Hd) = h at inv' i4 lm ⊢
      refine wpc_sound (M := MQ) (PL := PL0) (CU := noCut) TTok mixed _ _ _ ?_
      conv => whnf
      repeat ((first | (refine Or.inl ⟨⟨rfl, ?_⟩, ?_⟩; (focus (first | rfl | (simp; done) | (rw [toksC_length]; omega)))) | refine ⟨rfl, ?_⟩ | refine ⟨_, rfl, ?_⟩ | refine ⟨⟨rfl, rfl⟩, ?_⟩); conv => whnf)
      refine ⟨⟨rfl, rfl, by rw [hds_len]; omega, by simp [limB]; omega⟩, ?_⟩
      conv => whnf
      repeat ((first | (refine fit_i64 ⟨by first | omega | rfl | (dsimp only; omega), by first | omega | rfl | (dsimp only; omega)⟩ ?_) | refine ⟨(⟨by kernel_rfl, by kernel_rfl, Nat.le_of_ble_eq_true (by kernel_rfl)⟩ : AV.ones _ = true ∧ _ ∧ _), ?_⟩); conv => whnf)
      refine ⟨(c - 1, ⟨q4l, true || decide (1 < sh.n)⟩, hs ++ [h]), ⟨inv', by dsimp only; omega, ?_⟩, by dsimp only; omega, weaker_of [(0, 0), (1, 1), (2, 2), (3, 6)] rfl rfl ⟨⟨rfl, rfl⟩, ⟨rfl, rfl, pureL_toks _⟩, ⟨rfl, rfl⟩, ⟨rfl, rfl⟩, ⟨rfl, rfl⟩, trivial⟩ ⟨⟨⟨rfl, rfl⟩, ⟨rfl, rfl⟩, ⟨rfl, rfl⟩, trivial, trivial, trivial, trivial⟩, ⟨⟨rfl, rfl, pureL_toks _⟩, ⟨rfl, rfl⟩, rfl, trivial⟩, ⟨⟨rfl, rfl⟩, ⟨rfl, rfl⟩, ⟨rfl, rfl⟩, ⟨rfl, rfl, lm.symm, rfl, fun h => h⟩, trivial, trivial, trivial⟩, ?_, trivial⟩⟩
      ·rw [← i4]
       dsimp only
       congr 1
       omega
      ·refine rowsC_les hdC_les ?_
       rw [rowsC_append]
       simp only [rowsC, List.append_nil]
       rfl
   ·exact weaker_of [(0, 0), (1, 1), (2, 2)] rfl rfl ⟨⟨rfl, rfl⟩, ⟨rfl, rfl, pureL_toks _⟩, ⟨rfl, rfl⟩, ⟨rfl, rfl⟩, ⟨rfl, rfl⟩, trivial⟩ ⟨⟨⟨rfl, rfl⟩, ⟨rfl, rfl⟩, ⟨rfl, rfl⟩, trivial, trivial, trivial, trivial⟩, ⟨⟨rfl, rfl, pureL_toks _⟩, ⟨rfl, rfl⟩, rfl, trivial⟩, ⟨⟨rfl, rfl⟩, ⟨rfl, rfl⟩, ⟨rfl, rfl⟩, rfl, trivial, trivial, trivial⟩, rfl, trivial⟩
  rw [if_neg c1] at eM
  by_cases c2 : n.n = 5 ∧ kd.n = 4
  ·rw [if_pos c2] at eM
   obtain ⟨c2, c3⟩ := c2
   refine wpc_sound (M := MQ) (PL := PL0) (CU := cutAt [22]) TTok mixed _ _ _ ?_
   conv => whnf
   repeat ((first | refine ifB_t ?_ | refine ifB_f ?_ | (refine ifB_neg (decide_eq_false (by first | omega | rfl | (dsimp only; omega))) ?_) | (refine ifB_pos (decide_eq_true (by first | omega | rfl | (dsimp only; omega))) ?_) | refine ⟨(⟨by kernel_rfl, by kernel_rfl, Nat.le_of_ble_eq_true (by kernel_rfl)⟩ : AV.ones _ = true ∧ _ ∧ _), ?_⟩); conv => whnf)
   refine Does.seqCut (fun g : Rw × List Prf => mkSt [(2, .ptr 0 0), (4, .ro l.length (toksC l)), (6, .ptr 1 0), (9, .ptr 2 0)] [(0, msgV 0 0 0 .nil .nil .nil), (1, curC l g.1), (2, msgV 2 f.n t.n .nil (.sl 3 0 g.2.length 266 false) .nil), (3, rowsC prfC g.2)] 4 212) (fun g => AnInv 1000000 PrfS g.1 g.2 ∧ g.1.l <:+ l ∧ anLoop rdPrf k.n.toNat r5 [] = (g.2, g.1)) ?_ ?_
   ·refine wpc_sound (M := MQ) (PL := PL0) (CU := noCut) TTok mixed _ _ _ ?_
    conv => whnf
    repeat ((first | refine ⟨rfl, ?_⟩ | (refine And.intro ?_ ?_; (focus (first | (simp only [pureL, pureV, pureL_bys, Bool.and_true, Bool.and_self]; done) | (simp only [pureL, pureV, pureL_bys, pureL_toks, Bool.and_true, Bool.and_self]; done))))); conv => whnf)
    refine ⟨_, _, h5, by first | rfl | simp [noRoIf, noRoL, noRoV, noRoL_bys], ?_⟩
    conv => whnf
    repeat ((refine ⟨_, rfl, ?_⟩); conv => whnf)
    clear eM h5
    refine Does.loop (fun g : Int × Rw × List Prf => mkSt [(2, .ptr 0 0), (4, .ro l.length (toksC l)), (6, .ptr 1 0), (9, .ptr 2 0), (13, .int .i64 g.1)] [(0, msgV 0 0 0 .nil .nil .nil), (1, curC l g.2.1), (2, msgV 2 f.n t.n .nil (.sl 3 0 g.2.2.length 266 false) .nil), (3, rowsC prfC g.2.2)] 4 212)
     (fun g => AnInv 1000000 PrfS g.2.1 g.2.2 ∧ g.2.1.l <:+ l ∧ (g.1 < 9223372036854775808 ∧ -9223372036854775808 ≤ g.1) ∧ anLoop rdPrf g.1.toNat g.2.1 g.2.2 = anLoop rdPrf k.n.toNat r5 []) (fun g => g.1.toNat) ?_ (k.n, r5, []) ⟨⟨k5.1, by simp; omega, fun h hh => absurd hh (List.not_mem_nil)⟩, s5, ⟨k5.2.1.2.1.2, k5.2.1.2.1.1⟩, rfl⟩ ?_
    ·rintro ⟨c, r, ps⟩ ⟨i1, is, i5, i4⟩
     dsimp only at i1 is i4 i5 ⊢
     have done1 : ∀ (hb : c ≤ 0 ∨ r.bad = true), anLoop rdPrf k.n.toNat r5 [] = (ps, r) := by
      intro hb
      rw [← i4]
      rcases hb with hb | hb
      ·rw [show c.toNat = 0 by omega]; rfl
      ·cases c.toNat
       ·rfl
       ·rw [anLoop_s, if_pos hb]
     by_cases c1 : c ≤ 0
     ·have e := done1 (.inl c1)
      clear done1
      refine wpc_sound (M := MQ) (PL := PL0) (CU := noCut) TTok mixed _ _ _ ?_
      conv => whnf
      repeat ((first | refine ifB_f ?_ | (refine ifB_neg (decide_eq_false (by first | omega | rfl | (dsimp only; omega))) ?_)); conv => whnf)
      exact ⟨(r, ps), ⟨i1, is, e⟩, Weaker.tidy _ _ _ _ rfl rfl rfl (by kernel_rfl) (by kernel_rfl)⟩
     cases c2 : r.bad
     case true =>
      have e := done1 (.inr c2)
      clear done1
      refine wpc_sound (M := MQ) (PL := PL0) (CU := noCut) TTok mixed _ _ _ ?_
      conv => whnf
      repeat ((first | refine ifB_t ?_ | (refine ifB_pos (decide_eq_true (by first | omega | rfl | (dsimp only; omega))) ?_) | refine ⟨_, rfl, ?_⟩); conv => whnf)
      refine ifB_neg (by rw [c2]; rfl) ?_
      conv => whnf
      exact ⟨(r, ps), ⟨i1, is, e⟩, Weaker.tidy _ _ _ _ rfl rfl rfl (by kernel_rfl) (by kernel_rfl)⟩
     clear done1
     obtain ⟨j, hj⟩ : ∃ j, c.toNat = j + 1 := ⟨c.toNat - 1, by omega⟩
     rw [hj, anLoop_s, if_neg (by rw [c2]; simp)] at i4
     have nxt := anInv_next (rd := rdPrf) (fun b hb hl => (rdPrf_prfS hb hl).1) i1 c2
     have nxs := rNext_suf is 3
     have i2 := i1.2.1
     rw [c2] at i2
     simp only [Bool.false_eq_true, if_false, Nat.add_zero] at i2
     have h4 := take_ok l r 3 is (by omega)
     have k4 := rNext_rok i1.1 3
     have h5 := refpread_ok _ k4.2.1.2.2 k4.2.2
     generalize rNext 3 r = q at h4 h5 nxt nxs i4
     obtain ⟨st, ra⟩ := q
     dsimp only at h4 h5 nxt nxs i4
     generalize rdPrf st.b = q at h5 nxt i4
     obtain ⟨p, er⟩ := q
     dsimp only at h5 nxt i4
     rw [show decide (er ≠ 0) = !decide (er = 0) by simp] at nxt i4
     generalize decide (er = 0) = x at h5 nxt i4
     have lm : (ps ++ [p]).length = ps.length + 1 := by simp
     refine wpc_sound (M := MQ) (PL := PL0) (CU := cutAt [100025, 100026]) TTok mixed _ _ _ ?_
     conv => whnf
     repeat ((first | refine ifB_t ?_ | (refine ifB_pos (decide_eq_true (by first | omega | rfl | (dsimp only; omega))) ?_) | refine ⟨_, rfl, ?_⟩); conv => whnf)
     refine ifB_pos (by rw [c2]; rfl) ?_
     conv => whnf
     repeat ((first | refine ⟨rfl, ?_⟩ | (refine And.intro ?_ ?_; (focus (first | (simp only [pureL, pureV, pureL_bys, Bool.and_true, Bool.and_self]; done) | (simp only [pureL, pureV, pureL_bys, pureL_toks, Bool.and_true, Bool.and_self]; done))))); conv => whnf)
     refine ⟨_, _, h4, by first | rfl | simp [noRoIf, noRoL, noRoV, noRoL_bys], ?_⟩
     conv => whnf
     repeat ((first | refine ⟨pureL_bys _, ?_⟩ | refine ⟨rfl, ?_⟩ | refine ⟨_, rfl, ?_⟩); conv => whnf)
     refine ⟨_, _, h5, by first | rfl | simp [noRoIf, noRoL, noRoV, noRoL_bys], ?_⟩
     conv => whnf
     repeat ((first | refine ⟨(⟨by kernel_rfl, by kernel_rfl, Nat.le_of_ble_eq_true (by kernel_rfl)⟩ : AV.ones _ = true ∧ _ ∧ _), ?_⟩ | refine ⟨rfl, ?_⟩); conv => whnf)
     refine Does.tidy [(2, .ptr 0 0), (4, .ro l.length (toksC l)), (6, .ptr 1 0), (9, .ptr 2 0), (13, .int .i64 c), (14, .ptr 4 0), (15, .bool x)] [(0, msgV 0 0 0 .nil .nil .nil), (1, curC l ra), (2, msgV 2 f.n t.n .nil (.sl 3 0 ps.length 266 false) .nil), (3, rowsC prfC ps), (4, prfC p)] 5 212 rfl rfl rfl (by kernel_rfl) (by kernel_rfl) ?_
     clear h4 h5
     refine wpc_sound (M := MQ) (PL := PL0) (CU := noCut) TTok mixed _ _ _ ?_
     obtain ⟨ral, rab⟩ := ra
     cases rab
     ·conv => whnf
      repeat ((first | refine ifB_f ?_ | refine ⟨(⟨by kernel_rfl, by kernel_rfl, Nat.le_of_ble_eq_true (by kernel_rfl)⟩ : AV.ones _ = true ∧ _ ∧ _), ?_⟩ | refine ⟨_, rfl, ?_⟩); conv => whnf)
      refine Does.tidy [(2, .ptr 0 0), (4, .ro l.length (toksC l)), (6, .ptr 1 0), (9, .ptr 2 0), (13, .int .i64 c), (14, .ptr 4 0)] [(0, msgV 0 0 0 .nil .nil .nil), (1, curC l ⟨ral, false || !x⟩), (2, msgV 2 f.n t.n .nil (.sl 3 0 ps.length 266 false) .nil), (3, rowsC prfC ps), (4, prfC p)] 5 212 rfl rfl rfl (by kernel_rfl) (by kernel_rfl) ?_
      refine wpc_sound (M := MQ) (PL := PL0) (CU := noCut) TTok mixed _ _ _ ?_
      conv => whnf
      repeat ((first | (refine Or.inl ⟨⟨rfl, ?_⟩, ?_⟩; (focus (first | rfl | (simp; done) | (rw [toksC_length]; omega)))) | refine ⟨rfl, ?_⟩ | refine ⟨_, rfl, ?_⟩ | refine ⟨⟨rfl, rfl⟩, ?_⟩); conv => whnf)
      refine ⟨⟨rfl, rfl, by rw [prfs_len]; omega, by simp [limB]; omega⟩, ?_⟩
      conv => whnf
      repeat ((first | (refine fit_i64 ⟨by first | omega | rfl | (dsimp only; omega), by first | omega | rfl | (dsimp only; omega)⟩ ?_) | refine ⟨(⟨by kernel_rfl, by kernel_rfl, Nat.le_of_ble_eq_true (by kernel_rfl)⟩ : AV.ones _ = true ∧ _ ∧ _), ?_⟩); conv => whnf)
      refine ⟨(c - 1, ⟨ral, false || !x⟩, ps ++ [p]), ⟨nxt, nxs, by dsimp only; omega, ?_⟩, by dsimp only; omega, weaker_of [(0, 0), (1, 1), (2, 2), (3, 6)] rfl rfl ⟨⟨rfl, rfl⟩, ⟨rfl, rfl, pureL_toks _⟩, ⟨rfl, rfl⟩, ⟨rfl, rfl⟩, ⟨rfl, rfl⟩, trivial⟩ ⟨⟨⟨rfl, rfl⟩, ⟨rfl, rfl⟩, ⟨rfl, rfl⟩, trivial, trivial, trivial, trivial⟩, ⟨⟨rfl, rfl, pureL_toks _⟩, ⟨rfl, rfl⟩, rfl, trivial⟩, ⟨⟨rfl, rfl⟩, ⟨rfl, rfl⟩, ⟨rfl, rfl⟩, trivial, ⟨rfl, rfl, lm.symm, rfl, fun h => h⟩, trivial, trivial⟩, ?_, trivial⟩⟩
      ·rw [← i4]
       dsimp only
       congr 1
       omega
      ·refine rowsC_les prfC_les ?_
       rw [rowsC_append]
       simp only [rowsC, List.append_nil]
       rfl
     ·conv => whnf
      repeat ((first | refine ifB_t ?_ | refine ⟨(⟨by kernel_rfl, by kernel_rfl, Nat.le_of_ble_eq_true (by kernel_rfl)⟩ : AV.ones _ = true ∧ _ ∧ _), ?_⟩ | refine ⟨_, rfl, ?_⟩); conv => whnf)
      refine Does.tidy [(2, .ptr 0 0), (4, .ro l.length (toksC l)), (6, .ptr 1 0), (9, .ptr 2 0), (13, .int .i64 c), (14, .ptr 4 0)] [(0, msgV 0 0 0 .nil .nil .nil), (1, curC l ⟨ral, true || !x⟩), (2, msgV 2 f.n t.n .nil (.sl 3 0 ps.length 266 false) .nil), (3, rowsC prfC ps), (4, prfC p)] 5 212 rfl rfl rfl (by kernel_rfl) (by kernel_rfl) ?_
      refine wpc_sound (M := MQ) (PL := PL0) (CU := noCut) TTok mixed _ _ _ ?_
      conv => whnf
      repeat ((first | (refine Or.inl ⟨⟨rfl, ?_⟩, ?_⟩; (focus (first | rfl | (simp; done) | (rw [toksC_length]; omega)))) | refine ⟨rfl, ?_⟩ | refine ⟨_, rfl, ?_⟩ | refine ⟨⟨rfl, rfl⟩, ?_⟩); conv => whnf)
      refine ⟨⟨rfl, rfl, by rw [prfs_len]; omega, by simp [limB]; omega⟩, ?_⟩
      conv => whnf
      repeat ((first | (refine fit_i64 ⟨by first | omega | rfl | (dsimp only; omega), by first | omega | rfl | (dsimp only; omega)⟩ ?_) | refine ⟨(⟨by kernel_rfl, by kernel_rfl, Nat.le_of_ble_eq_true (by kernel_rfl)⟩ : AV.ones _ = true ∧ _ ∧ _), ?_⟩); conv => whnf)
      refine ⟨(c - 1, ⟨ral, true || !x⟩, ps ++ [p]), ⟨nxt, nxs, by dsimp only; omega, ?_⟩, by dsimp only; omega, weaker_of [(0, 0), (1, 1), (2, 2), (3, 6)] rfl rfl ⟨⟨rfl, rfl⟩, ⟨rfl, rfl, pureL_toks _⟩, ⟨rfl, rfl⟩, ⟨rfl, rfl⟩, ⟨rfl, rfl⟩, trivial⟩ ⟨⟨⟨rfl, rfl⟩, ⟨rfl, rfl⟩, ⟨rfl, rfl⟩, trivial, trivial, trivial, trivial⟩, ⟨⟨rfl, rfl, pureL_toks _⟩, ⟨rfl, rfl⟩, rfl, trivial⟩, ⟨⟨rfl, rfl⟩, ⟨rfl, rfl⟩, ⟨rfl, rfl⟩, trivial, ⟨rfl, rfl, lm.symm, rfl, fun h => h⟩, trivial, trivial⟩, ?_, trivial⟩⟩
      ·rw [← i4]
       dsimp only
       congr 1
       omega
      ·refine rowsC_les prfC_les ?_
       rw [rowsC_append]
       simp only [rowsC, List.append_nil]
       rfl
    ·exact weaker_of [(0, 0), (1, 1), (2, 2)] rfl rfl ⟨⟨rfl, rfl⟩, ⟨rfl, rfl, pureL_toks _⟩, ⟨rfl, rfl⟩, ⟨rfl, rfl⟩, ⟨rfl, rfl⟩, trivial⟩ ⟨⟨⟨rfl, rfl⟩, ⟨rfl, rfl⟩, ⟨rfl, rfl⟩, trivial, trivial, trivial, trivial⟩, ⟨⟨rfl, rfl, pureL_toks _⟩, ⟨rfl, rfl⟩, rfl, trivial⟩, ⟨⟨rfl, rfl⟩, ⟨rfl, rfl⟩, ⟨rfl, rfl⟩, trivial, rfl, trivial, trivial⟩, rfl, trivial⟩
   ·rintro ⟨r4', zs⟩ ⟨hz, hs4, he⟩
    dsimp only at hz hs4 he ⊢
    rw [he] at eM
    dsimp only at eM
    have j4 := take_ok l r4' 5 hs4 (by omega)
    have k6 := rNext_rok hz.1 5
    have s6 := rNext_suf hs4 5
    have l6 := rNext_len 5 r4'
    have inv2 := hz.2.1
    have l4 : r4'.l.length ≤ 1000001 ∧ zs.length ≤ 1000001 := by split at inv2 <;> omega
    generalize rNext 5 r4' = q at j4 k6 s6 l6 eM
    obtain ⟨k2', r6⟩ := q
    dsimp only at j4 k6 s6 l6 eM
    have FB : ∀ (zs' : List Prf) (ra : Rw) (hz : zs' = zs) (ps : List Ent) (r : Rw), AnInv 1000001 EntS r ps → r.l <:+ l → anLoop rdEnt k2'.n.toNat r6 [] = (ps, r) → MsgS ⟨2, f.n, t.n, [], zs', ps⟩ ∧ r.l <:+ l ∧ rdFin (⟨2, f.n, t.n, [], zs', ps⟩, r) = rdM ⟨l, false⟩ := by
     rintro zs' ra rfl ps r inv hs e
     rw [e] at eM
     have i2 := inv.2.1
     refine ⟨{ kind := ⟨by dsimp only; omega, by dsimp only; omega⟩, frm := k3.2.1.2.1, to := k4.2.1.2.1, hs := fun h hh => absurd hh (List.not_mem_nil), ps := hz.2.2, es := inv.2.2, hl := by simp, pl := by dsimp only; omega, el := by dsimp only; split at i2 <;> omega }, hs, eM.symm⟩
    have hz : zs = zs := rfl
    refine wpc_sound (M := MQ) (PL := PL0) (CU := noCut) TTok mixed _ _ _ ?_
    conv => whnf
    repeat ((first | refine ⟨rfl, ?_⟩ | (refine And.intro ?_ ?_; (focus (first | (simp only [pureL, pureV, pureL_bys, Bool.and_true, Bool.and_self]; done) | (simp only [pureL, pureV, pureL_bys, pureL_toks, Bool.and_true, Bool.and_self]; done))))); conv => whnf)
    refine ⟨_, _, j4, by first | rfl | simp [noRoIf, noRoL, noRoV, noRoL_bys], ?_⟩
    conv => whnf
    repeat ((refine ⟨_, rfl, ?_⟩); conv => whnf)
    clear eM j4
    refine Does.loop (fun g : Int × Rw × List Ent => mkSt [(2, .ptr 0 0), (4, .ro l.length (toksC l)), (6, .ptr 1 0), (9, .ptr 2 0), (16, .int .i64 g.1)] [(0, msgV 0 0 0 .nil .nil .nil), (1, curC l g.2.1), (2, msgV 2 f.n t.n .nil (.sl 3 0 zs.length 266 false) (.sl 4 0 g.2.2.length 133 false)), (3, rowsC prfC zs), (4, rowsC entC g.2.2)] 5 212)
     (fun g => AnInv 1000001 EntS g.2.1 g.2.2 ∧ g.2.1.l <:+ l ∧ (g.1 < 9223372036854775808 ∧ -9223372036854775808 ≤ g.1) ∧ anLoop rdEnt g.1.toNat g.2.1 g.2.2 = anLoop rdEnt k2'.n.toNat r6 []) (fun g => g.1.toNat) ?_ (k2'.n, r6, []) ⟨⟨k6.1, by simp; omega, fun h hh => absurd hh (List.not_mem_nil)⟩, s6, ⟨k6.2.1.2.1.2, k6.2.1.2.1.1⟩, rfl⟩ ?_
    ·rintro ⟨c, r, ps⟩ ⟨i1, is, i5, i4⟩
     dsimp only at i1 is i4 i5 ⊢
     have done1 : ∀ (hb : c ≤ 0 ∨ r.bad = true), anLoop rdEnt k2'.n.toNat r6 [] = (ps, r) := by
      intro hb
      rw [← i4]
      rcases hb with hb | hb
      ·rw [show c.toNat = 0 by omega]; rfl
      ·cases c.toNat
       ·rfl
       ·rw [anLoop_s, if_pos hb]
     by_cases c1 : c ≤ 0
     ·have e := done1 (.inl c1)
      clear done1
      refine Does.freeze 4 rfl (Does.freeze 3 (zs := rowsC prfC zs) (by show some (frzL 4 _ (rowsC prfC zs)) = _; rw [rowsC_frz (fun x => prfC_frz _ _ x)]) (Does.tidy [(2, .ptr 0 0), (4, .ro l.length (toksC l)), (6, .ptr 1 0), (9, .ptr 2 0), (16, .int .i64 c)] [(0, msgV 0 0 0 .nil .nil .nil), (1, curC l r), (2, msgV 2 f.n t.n .nil (.ro zs.length (List.take (zs.length * 266) (List.drop 0 (rowsC prfC zs)))) (.ro ps.length (List.take (ps.length * 133) (List.drop 0 (rowsC entC ps)))))] 5 212 rfl rfl rfl (by kernel_rfl) (by kernel_rfl) ?_))
      rw [rowsC_whole prfC_length, rowsC_whole entC_length]
      refine wpc_sound (M := MQ) (PL := PL0) (CU := noCut) TTok mixed _ _ _ ?_
      conv => whnf
      repeat ((first | refine ifB_f ?_ | (refine ifB_neg (decide_eq_false (by first | omega | rfl | (dsimp only; omega))) ?_)); conv => whnf)
      exact ⟨(⟨2, f.n, t.n, [], zs, ps⟩, r), FB zs r4' hz ps r i1 is e, weaker_of [(0, 0), (1, 1), (2, 2)] rfl rfl ⟨⟨rfl, rfl⟩, ⟨rfl, rfl, pureL_toks _⟩, ⟨rfl, rfl⟩, ⟨rfl, rfl⟩, trivial⟩ ⟨⟨⟨rfl, rfl⟩, ⟨rfl, rfl⟩, ⟨rfl, rfl⟩, trivial, trivial, trivial, trivial⟩, ⟨⟨rfl, rfl, pureL_toks _⟩, ⟨rfl, rfl⟩, rfl, trivial⟩, ⟨⟨rfl, rfl⟩, ⟨rfl, rfl⟩, ⟨rfl, rfl⟩, ⟨rfl, rfl⟩, ⟨rfl, rfl, prfs_pure _⟩, ⟨rfl, rfl, ents_pure _⟩, trivial⟩, trivial⟩⟩
     cases c2 : r.bad
     case true =>
      have e := done1 (.inr c2)
      clear done1
      refine Does.freeze 4 rfl (Does.freeze 3 (zs := rowsC prfC zs) (by show some (frzL 4 _ (rowsC prfC zs)) = _; rw [rowsC_frz (fun x => prfC_frz _ _ x)]) (Does.tidy [(2, .ptr 0 0), (4, .ro l.length (toksC l)), (6, .ptr 1 0), (9, .ptr 2 0), (16, .int .i64 c)] [(0, msgV 0 0 0 .nil .nil .nil), (1, curC l r), (2, msgV 2 f.n t.n .nil (.ro zs.length (List.take (zs.length * 266) (List.drop 0 (rowsC prfC zs)))) (.ro ps.length (List.take (ps.length * 133) (List.drop 0 (rowsC entC ps)))))] 5 212 rfl rfl rfl (by kernel_rfl) (by kernel_rfl) ?_))
      rw [rowsC_whole prfC_length, rowsC_whole entC_length]
      refine wpc_sound (M := MQ) (PL := PL0) (CU := noCut) TTok mixed _ _ _ ?_
      conv => whnf
      repeat ((first | refine ifB_t ?_ | (refine ifB_pos (decide_eq_true (by first | omega | rfl | (dsimp only; omega))) ?_) | refine ⟨_, rfl, ?_⟩); conv => whnf)
      refine ifB_neg (by rw [c2]; rfl) ?_
      conv => whnf
      exact ⟨(⟨2, f.n, t.n, [], zs, ps⟩, r), FB zs r4' hz ps r i1 is e, weaker_of [(0, 0), (1, 1), (2, 2)] rfl rfl ⟨⟨rfl, rfl⟩, ⟨rfl, rfl, pureL_toks _⟩, ⟨rfl, rfl⟩, ⟨rfl, rfl⟩, trivial⟩ ⟨⟨⟨rfl, rfl⟩, ⟨rfl, rfl⟩, ⟨rfl, rfl⟩, trivial, trivial, trivial, trivial⟩, ⟨⟨rfl, rfl, pureL_toks _⟩, ⟨rfl, rfl⟩, rfl, trivial⟩, ⟨⟨rfl, rfl⟩, ⟨rfl, rfl⟩, ⟨rfl, rfl⟩, ⟨rfl, rfl⟩, ⟨rfl, rfl, prfs_pure _⟩, ⟨rfl, rfl, ents_pure _⟩, trivial⟩, trivial⟩⟩
     clear done1
     obtain ⟨j, hj⟩ : ∃ j, c.toNat = j + 1 := ⟨c.toNat - 1, by omega⟩
     rw [hj, anLoop_s, if_neg (by rw [c2]; simp)] at i4
     have nxt := anInv_next (rd := rdEnt) (fun b hb hl => (rdEnt_entS hb hl).1) i1 c2
     have nxs := rNext_suf is 3
     have i2 := i1.2.1
     rw [c2] at i2
     simp only [Bool.false_eq_true, if_false, Nat.add_zero] at i2
     have h4 := take_ok l r 3 is (by omega)
     have k4 := rNext_rok i1.1 3
     have h5 := refread_ok _ k4.2.1.2.2 k4.2.2
     generalize rNext 3 r = q at h4 h5 nxt nxs i4
     obtain ⟨st, ra⟩ := q
     dsimp only at h4 h5 nxt nxs i4
     generalize rdEnt st.b = q at h5 nxt i4
     obtain ⟨p, er⟩ := q
     dsimp only at h5 nxt i4
     rw [show decide (er ≠ 0) = !decide (er = 0) by simp] at nxt i4
     generalize decide (er = 0) = x at h5 nxt i4
     have lm : (ps ++ [p]).length = ps.length + 1 := by simp
     refine wpc_sound (M := MQ) (PL := PL0) (CU := cutAt [100031, 100032]) TTok mixed _ _ _ ?_
     conv => whnf
     repeat ((first | refine ifB_t ?_ | (refine ifB_pos (decide_eq_true (by first | omega | rfl | (dsimp only; omega))) ?_) | refine ⟨_, rfl, ?_⟩); conv => whnf)
     refine ifB_pos (by rw [c2]; rfl) ?_
     conv => whnf
     repeat ((first | refine ⟨rfl, ?_⟩ | (refine And.intro ?_ ?_; (focus (first | (simp only [pureL, pureV, pureL_bys, Bool.and_true, Bool.and_self]; done) | (simp only [pureL, pureV, pureL_bys, pureL_toks, Bool.and_true, Bool.and_self]; done))))); conv => whnf)
     refine ⟨_, _, h4, by first | rfl | simp [noRoIf, noRoL, noRoV, noRoL_bys], ?_⟩
     conv => whnf
     repeat ((first | refine ⟨pureL_bys _, ?_⟩ | refine ⟨rfl, ?_⟩ | refine ⟨_, rfl, ?_⟩); conv => whnf)
     refine ⟨_, _, h5, by first | rfl | simp [noRoIf, noRoL, noRoV, noRoL_bys], ?_⟩
     conv => whnf
     repeat ((first | refine ⟨(⟨by kernel_rfl, by kernel_rfl, Nat.le_of_ble_eq_true (by kernel_rfl)⟩ : AV.ones _ = true ∧ _ ∧ _), ?_⟩ | refine ⟨rfl, ?_⟩); conv => whnf)
     refine Does.tidy [(2, .ptr 0 0), (4, .ro l.length (toksC l)), (6, .ptr 1 0), (9, .ptr 2 0), (16, .int .i64 c), (17, .ptr 5 0), (18, .bool x)] [(0, msgV 0 0 0 .nil .nil .nil), (1, curC l ra), (2, msgV 2 f.n t.n .nil (.sl 3 0 zs.length 266 false) (.sl 4 0 ps.length 133 false)), (3, rowsC prfC zs), (4, rowsC entC ps), (5, entC p)] 6 212 rfl rfl rfl (by kernel_rfl) (by kernel_rfl) ?_
     clear h4 h5
     refine wpc_sound (M := MQ) (PL := PL0) (CU := noCut) TTok mixed _ _ _ ?_
     obtain ⟨ral, rab⟩ := ra
     cases rab
     ·conv => whnf
      repeat ((first | refine ifB_f ?_ | refine ⟨(⟨by kernel_rfl, by kernel_rfl, Nat.le_of_ble_eq_true (by kernel_rfl)⟩ : AV.ones _ = true ∧ _ ∧ _), ?_⟩ | refine ⟨_, rfl, ?_⟩); conv => whnf)
      refine Does.tidy [(2, .ptr 0 0), (4, .ro l.length (toksC l)), (6, .ptr 1 0), (9, .ptr 2 0), (16, .int .i64 c), (17, .ptr 5 0)] [(0, msgV 0 0 0 .nil .nil .nil), (1, curC l ⟨ral, false || !x⟩), (2, msgV 2 f.n t.n .nil (.sl 3 0 zs.length 266 false) (.sl 4 0 ps.length 133 false)), (3, rowsC prfC zs), (4, rowsC entC ps), (5, entC p)] 6 212 rfl rfl rfl (by kernel_rfl) (by kernel_rfl) ?_
      refine wpc_sound (M := MQ) (PL := PL0) (CU := noCut) TTok mixed _ _ _ ?_
      conv => whnf
      repeat ((first | (refine Or.inl ⟨⟨rfl, ?_⟩, ?_⟩; (focus (first | rfl | (simp; done) | (rw [toksC_length]; omega)))) | refine ⟨rfl, ?_⟩ | refine ⟨_, rfl, ?_⟩ | refine ⟨⟨rfl, rfl⟩, ?_⟩); conv => whnf)
      refine ⟨⟨rfl, rfl, by rw [ents_len]; omega, by simp [limB]; omega⟩, ?_⟩
      conv => whnf
      repeat ((first | (refine fit_i64 ⟨by first | omega | rfl | (dsimp only; omega), by first | omega | rfl | (dsimp only; omega)⟩ ?_) | refine ⟨(⟨by kernel_rfl, by kernel_rfl, Nat.le_of_ble_eq_true (by kernel_rfl)⟩ : AV.ones _ = true ∧ _ ∧ _), ?_⟩); conv => whnf)
      refine ⟨(c - 1, ⟨ral, false || !x⟩, ps ++ [p]), ⟨nxt, nxs, by dsimp only; omega, ?_⟩, by dsimp only; omega, weaker_of [(0, 0), (1, 1), (2, 2), (3, 3), (4, 7)] rfl rfl ⟨⟨rfl, rfl⟩, ⟨rfl, rfl, pureL_toks _⟩, ⟨rfl, rfl⟩, ⟨rfl, rfl⟩, ⟨rfl, rfl⟩, trivial⟩ ⟨⟨⟨rfl, rfl⟩, ⟨rfl, rfl⟩, ⟨rfl, rfl⟩, trivial, trivial, trivial, trivial⟩, ⟨⟨rfl, rfl, pureL_toks _⟩, ⟨rfl, rfl⟩, rfl, trivial⟩, ⟨⟨rfl, rfl⟩, ⟨rfl, rfl⟩, ⟨rfl, rfl⟩, trivial, ⟨rfl, rfl, rfl, rfl, fun h => h⟩, ⟨rfl, rfl, lm.symm, rfl, fun h => h⟩, trivial⟩, rowsC_les prfC_les rfl, ?_, trivial⟩⟩
      ·rw [← i4]
       dsimp only
       congr 1
       omega
      ·refine rowsC_les entC_les ?_
       rw [rowsC_append]
       simp only [rowsC, List.append_nil]
       rfl
     ·conv => whnf
      repeat ((first | refine ifB_t ?_ | refine ⟨(⟨by kernel_rfl, by kernel_rfl, Nat.le_of_ble_eq_true (by kernel_rfl)⟩ : AV.ones _ = true ∧ _ ∧ _), ?_⟩ | refine ⟨_, rfl, ?_⟩); conv => whnf)
      refine Does.tidy [(2, .ptr 0 0), (4, .ro l.length (toksC l)), (6, .ptr 1 0), (9, .ptr 2 0), (16, .int .i64 c), (17, .ptr 5 0)] [(0, msgV 0 0 0 .nil .nil .nil), (1, curC l ⟨ral, true || !x⟩), (2, msgV 2 f.n t.n .nil (.sl 3 0 zs.length 266 false) (.sl 4 0 ps.length 133 false)), (3, rowsC prfC zs), (4, rowsC entC ps), (5, entC p)] 6 212 rfl rfl rfl (by kernel_rfl) (by kernel_rfl) ?_
      refine wpc_sound (M := MQ) (PL := PL0) (CU := noCut) TTok mixed _ _ _ ?_
      conv => whnf
      repeat ((first | (refine Or.inl ⟨⟨rfl, ?_⟩, ?_⟩; (focus (first | rfl | (simp; done) | (rw [toksC_length]; omega)))) | refine ⟨rfl, ?_⟩ | refine ⟨_, rfl, ?_⟩ | refine ⟨⟨rfl, rfl⟩, ?_⟩); conv => whnf)
      refine ⟨⟨rfl, rfl, by rw [ents_len]; omega, by simp [limB]; omega⟩, ?_⟩
      conv => whnf
      repeat ((first | (refine fit_i64 ⟨by first | omega | rfl | (dsimp only; omega), by first | omega | rfl | (dsimp only; omega)⟩ ?_) | refine ⟨(⟨by kernel_rfl, by kernel_rfl, Nat.le_of_ble_eq_true (by kernel_rfl)⟩ : AV.ones _ = true ∧ _ ∧ _), ?_⟩); conv => whnf)
      refine ⟨(c - 1, ⟨ral, true || !x⟩, ps ++ [p]), ⟨nxt, nxs, by dsimp only; omega, ?_⟩, by dsimp only; omega, weaker_of [(0, 0), (1, 1), (2, 2), (3, 3), (4, 7)] rfl rfl ⟨⟨rfl, rfl⟩, ⟨rfl, rfl, pureL_toks _⟩, ⟨rfl, rfl⟩, ⟨rfl, rfl⟩, ⟨rfl, rfl⟩, trivial⟩ ⟨⟨⟨rfl, rfl⟩, ⟨rfl, rfl⟩, ⟨rfl, rfl⟩, trivial, trivial, trivial, trivial⟩, ⟨⟨rfl, rfl, pureL_toks _⟩, ⟨rfl, rfl⟩, rfl, trivial⟩, ⟨⟨rfl, rfl⟩, ⟨rfl, rfl⟩, ⟨rfl, rfl⟩, trivial, ⟨rfl, rfl, rfl, rfl, fun h => h⟩, ⟨rfl, rfl, lm.symm, rfl, fun h => h⟩, trivial⟩, rowsC_les prfC_les rfl, ?_, trivial⟩⟩
      ·rw [← i4]
       dsimp only
       congr 1
       omega
      ·refine rowsC_les entC_les ?_
       rw [rowsC_append]
       simp only [rowsC, List.append_nil]
       rfl
    ·exact weaker_of [(0, 0), (1, 1), (2, 2), (3, 3)] rfl rfl ⟨⟨rfl, rfl⟩, ⟨rfl, rfl, pureL_toks _⟩, ⟨rfl, rfl⟩, ⟨rfl, rfl⟩, ⟨rfl, rfl⟩, trivial⟩ ⟨⟨⟨rfl, rfl⟩, ⟨rfl, rfl⟩, ⟨rfl, rfl⟩, trivial, trivial, trivial, trivial⟩, ⟨⟨rfl, rfl, pureL_toks _⟩, ⟨rfl, rfl⟩, rfl, trivial⟩, ⟨⟨rfl, rfl⟩, ⟨rfl, rfl⟩, ⟨rfl, rfl⟩, trivial, ⟨rfl, rfl, rfl, rfl, fun h => h⟩, rfl, trivial⟩, rowsC_les prfC_les rfl, rfl, trivial⟩
  rw [if_neg c2] at eM
  rw [eM]
  clear h5
  by_cases c3 : kd.n = 3
  ·have c4 : n.n ≠ 4 := fun h => c1 ⟨h, c3⟩
   refine wpc_sound (M := MQ) (PL := PL0) (CU := noCut) TTok mixed _ _ _ ?_
   conv => whnf
   repeat ((first | refine ifB_t ?_ | refine ifB_f ?_ | (refine ifB_neg (decide_eq_false (by first | omega | rfl | (dsimp only; omega))) ?_) | (refine ifB_pos (decide_eq_true (by first | omega | rfl | (dsimp only; omega))) ?_) | refine ⟨(⟨by kernel_rfl, by kernel_rfl, Nat.le_of_ble_eq_true (by kernel_rfl)⟩ : AV.ones _ = true ∧ _ ∧ _), ?_⟩ | refine ⟨rfl, ?_⟩ | refine ⟨_, rfl, ?_⟩ | refine ⟨⟨rfl, rfl⟩, ?_⟩); conv => whnf)
   rfl
  by_cases c5 : kd.n = 4
  ·have c4 : n.n ≠ 5 := fun h => c2 ⟨h, c5⟩
   refine wpc_sound (M := MQ) (PL := PL0) (CU := noCut) TTok mixed _ _ _ ?_
   conv => whnf
   repeat ((first | refine ifB_t ?_ | refine ifB_f ?_ | (refine ifB_neg (decide_eq_false (by first | omega | rfl | (dsimp only; omega))) ?_) | (refine ifB_pos (decide_eq_true (by first | omega | rfl | (dsimp only; omega))) ?_) | refine ⟨(⟨by kernel_rfl, by kernel_rfl, Nat.le_of_ble_eq_true (by kernel_rfl)⟩ : AV.ones _ = true ∧ _ ∧ _), ?_⟩ | refine ⟨rfl, ?_⟩ | refine ⟨_, rfl, ?_⟩ | refine ⟨⟨rfl, rfl⟩, ?_⟩); conv => whnf)
   rfl
  refine wpc_sound (M := MQ) (PL := PL0) (CU := noCut) TTok mixed _ _ _ ?_
  conv => whnf
  repeat ((first | refine ifB_f ?_ | (refine ifB_neg (decide_eq_false (by first | omega | rfl | (dsimp only; omega))) ?_) | refine ⟨(⟨by kernel_rfl, by kernel_rfl, Nat.le_of_ble_eq_true (by kernel_rfl)⟩ : AV.ones _ = true ∧ _ ∧ _), ?_⟩ | refine ⟨rfl, ?_⟩ | refine ⟨_, rfl, ?_⟩ | refine ⟨⟨rfl, rfl⟩, ?_⟩); conv => whnf)
  rfl
 ·rintro ⟨m, rl, rb⟩ ⟨hm, hs, e⟩
  dsimp only at hm hs e ⊢
  rw [← e]
  clear hd h1 h2 h3 h4 h5 eM e
  have h6 := refmsg_ok m hm
  have e2 := List.IsSuffix.length_le hs
  unfold rdFin
  dsimp only
  cases rb
  ·by_cases e0 : rl.length = 0
   ·have e1 : rl = [] := List.length_eq_zero_iff.1 e0
    subst e1
    rw [if_pos (by simp)]
    cases c5 : msgR m <;> rw [c5] at h6
    ·rw [if_neg (by simp)]
     refine wpc_sound (M := MQ) (PL := PL0) (CU := noCut) TTok mixed _ _ _ ?_
     conv => whnf
     repeat ((first | refine ifB_f ?_ | (refine ifB_neg (decide_eq_false (by first | omega | rfl | (dsimp only; omega))) ?_) | refine ⟨rfl, ?_⟩ | refine ⟨_, rfl, ?_⟩ | refine ⟨(show pureL _ = true from by first | exact prfC_pure _ | exact hdC_pure _ | exact msgC_pure _ | exact letC_pure _), ?_⟩); conv => whnf)
     refine ⟨_, _, h6, by first | rfl | simp [noRoIf, noRoL, noRoV, noRoL_bys], ?_⟩
     conv => whnf
     repeat ((first | refine ifB_t ?_ | refine ifB_f ?_ | refine ⟨(⟨by kernel_rfl, by kernel_rfl, Nat.le_of_ble_eq_true (by kernel_rfl)⟩ : AV.ones _ = true ∧ _ ∧ _), ?_⟩ | refine ⟨rfl, ?_⟩ | refine ⟨_, rfl, ?_⟩ | refine ⟨⟨rfl, rfl⟩, ?_⟩); conv => whnf)
     rfl
    ·rw [if_pos rfl]
     refine wpc_sound (M := MQ) (PL := PL0) (CU := noCut) TTok mixed _ _ _ ?_
     conv => whnf
     repeat ((first | refine ifB_f ?_ | (refine ifB_neg (decide_eq_false (by first | omega | rfl | (dsimp only; omega))) ?_) | refine ⟨rfl, ?_⟩ | refine ⟨_, rfl, ?_⟩ | refine ⟨(show pureL _ = true from by first | exact prfC_pure _ | exact hdC_pure _ | exact msgC_pure _ | exact letC_pure _), ?_⟩); conv => whnf)
     refine ⟨_, _, h6, by first | rfl | simp [noRoIf, noRoL, noRoV, noRoL_bys], ?_⟩
     conv => whnf
     repeat ((first | refine ifB_f ?_ | refine ⟨(⟨by kernel_rfl, by kernel_rfl, Nat.le_of_ble_eq_true (by kernel_rfl)⟩ : AV.ones _ = true ∧ _ ∧ _), ?_⟩ | refine ⟨_, rfl, ?_⟩ | refine ⟨⟨rfl, rfl⟩, ?_⟩); conv => whnf)
     refine ⟨⟨rfl, rfl, hds_pure _⟩, ?_⟩
     conv => whnf
     refine ⟨⟨rfl, rfl, prfs_pure _⟩, ?_⟩
     conv => whnf
     refine ⟨⟨rfl, rfl, ents_pure _⟩, ?_⟩
     conv => whnf
     repeat ((refine ⟨rfl, ?_⟩); conv => whnf)
     rfl
   ·rw [if_neg (by simp; intro h; rw [h] at e0; exact e0 rfl)]
    refine wpc_sound (M := MQ) (PL := PL0) (CU := noCut) TTok mixed _ _ _ ?_
    conv => whnf
    repeat ((first | refine ifB_t ?_ | refine ifB_f ?_ | (refine ifB_pos (decide_eq_true (by first | omega | rfl | (dsimp only; omega))) ?_) | refine ⟨(⟨by kernel_rfl, by kernel_rfl, Nat.le_of_ble_eq_true (by kernel_rfl)⟩ : AV.ones _ = true ∧ _ ∧ _), ?_⟩ | refine ⟨rfl, ?_⟩ | refine ⟨_, rfl, ?_⟩ | refine ⟨⟨rfl, rfl⟩, ?_⟩); conv => whnf)
    rfl
  ·rw [if_neg (by simp)]
   refine wpc_sound (M := MQ) (PL := PL0) (CU := noCut) TTok mixed _ _ _ ?_
   conv => whnf
   repeat ((first | refine ifB_t ?_ | refine ⟨(⟨by kernel_rfl, by kernel_rfl, Nat.le_of_ble_eq_true (by kernel_rfl)⟩ : AV.ones _ = true ∧ _ ∧ _), ?_⟩ | refine ⟨rfl, ?_⟩ | refine ⟨_, rfl, ?_⟩ | refine ⟨⟨rfl, rfl⟩, ?_⟩); conv => whnf)
   rfl
end Go.Proofs.YthnhpkpbjaelnaaDoor.Abs
end
section
--KR
namespace Go.Proofs.YthnhpkpbjaelnaaDoor.Abs
open Go
attribute [local irreducible] ifB fitP Does Weaker
theorem rdMsg_S {b : List Int} (hb : Byt b) (hl : b.length ≤ 1000000000) : MsgS (rdMsg b).1 := by
 have k0 := rOpen_rok hb hl
 have l0 := rOpen_len b
 unfold rdMsg
 rw [rdM_eq]
 have k1 := rNext_rok k0 5
 have l1 := rNext_len 5 (rOpen b)
 have k2 := rNext_rok k1.1 1
 have l2 := rNext_len 1 (rNext 5 (rOpen b)).2
 split
 ·rcases rdFin_or (rdFr (rNext 1 (rNext 5 (rOpen b)).2).2) with e | ⟨e, _⟩
  ·rw [e]; exact msg0_S'
  ·rw [e]; exact (rdFr_ok k2.1 (by omega)).1
 split
 ·rcases rdFin_or (rdAn (rNext 1 (rNext 5 (rOpen b)).2).2) with e | ⟨e, _⟩
  ·rw [e]; exact msg0_S'
  ·rw [e]; exact (rdAn_ok k2.1 (by omega)).1
 ·exact msg0_S'
set_option maxRecDepth 20000 in
set_option maxHeartbeats 2000000 in
theorem wireReads_ok (b : List Int) (hb : Byt b ∧ b.length ≤ 9223372036854775807) : ACall Tryd.prog 6 [.ro b.length (bys b)] (.bool true) [] := by
 refine ACall.of_does TTok Tryd.func6 rfl Tryd.call6 rfl (wpc_sound (M := ML3) (PL := PL0) (CU := noCut) TTok mixed _ _ _ ?_)
 by_cases hl : b.length ≤ 4000
 case neg =>
  conv => whnf
  repeat ((first | (refine ifB_pos (decide_eq_true (by first | omega | rfl | (dsimp only; omega))) ?_) | refine ⟨rfl, ?_⟩); conv => whnf)
  rfl
 have tw := (twin_ok b (by omega)).roRes
 have h1 := mread_ok b hb.1 (by omega)
 have h2 := refmread_ok b hb.1 (by omega)
 have hS := rdMsg_S hb.1 (show b.length ≤ 1000000000 by omega)
 have kk := kmsg_ok _ _ hS hS
 rw [dt rfl] at kk
 have bb := bytes_ok b b (by omega)
 rw [dt rfl] at bb
 rcases rdMsg_or b with e | e
 ·rw [e] at h1 h2 kk
  conv => whnf
  repeat ((first | (refine ifB_neg (decide_eq_false (by first | omega | rfl | (dsimp only; omega))) ?_) | refine ⟨pureL_bys _, ?_⟩ | refine ⟨rfl, ?_⟩); conv => whnf)
  refine ⟨_, _, tw, by first | rfl | simp [noRoIf, noRoL, noRoV, noRoL_bys], ?_⟩
  conv => whnf
  repeat ((first | refine ⟨pureL_bys _, ?_⟩ | refine ⟨rfl, ?_⟩); conv => whnf)
  refine ⟨_, _, h1, by first | rfl | simp [noRoIf, noRoL, noRoV, noRoL_bys], ?_⟩
  conv => whnf
  repeat ((first | refine ⟨pureL_bys _, ?_⟩ | refine ⟨(⟨by kernel_rfl, by kernel_rfl, Nat.le_of_ble_eq_true (by kernel_rfl)⟩ : AV.ones _ = true ∧ _ ∧ _), ?_⟩ | refine ⟨rfl, ?_⟩); conv => whnf)
  refine ⟨_, _, h2, by first | rfl | simp [noRoIf, noRoL, noRoV, noRoL_bys], ?_⟩
  conv => whnf
  repeat ((first | refine ifB_t ?_ | refine ifB_f ?_ | refine ⟨(⟨by kernel_rfl, by kernel_rfl, Nat.le_of_ble_eq_true (by kernel_rfl)⟩ : AV.ones _ = true ∧ _ ∧ _), ?_⟩ | refine ⟨rfl, ?_⟩ | refine ⟨_, rfl, ?_⟩); conv => whnf)
  refine ⟨_, _, kk, by first | rfl | simp [noRoIf, noRoL, noRoV, noRoL_bys], ?_⟩
  conv => whnf
  repeat ((first | refine ifB_f ?_ | refine ⟨pureL_bys _, ?_⟩ | refine ⟨rfl, ?_⟩); conv => whnf)
  refine ⟨_, _, bb, by first | rfl | simp [noRoIf, noRoL, noRoV, noRoL_bys], ?_⟩
  conv => whnf
  repeat ((first | refine ifB_t ?_ | refine ifB_f ?_ | refine ⟨rfl, ?_⟩); conv => whnf)
  refine ⟨_, _, wakes13_ok, by first | rfl | simp [noRoIf, noRoL, noRoV, noRoL_bys], ?_⟩
  conv => whnf
  repeat ((refine ⟨rfl, ?_⟩); conv => whnf)
  rfl
 ·have hi := rdMsg_inv hb.1 e
  have e1 := (msg_bytes_ok _ hS).roRes2 (.inl ⟨_, _, rfl⟩)
  rw [show msgB (rdMsg b).1 = (b, 0) by unfold msgB; rw [if_pos hi.1, hi.2]] at e1
  rw [e] at h1 h2
  clear hi hS
  generalize (rdMsg b).1 = m at h1 h2 kk e1
  conv => whnf
  repeat ((first | (refine ifB_neg (decide_eq_false (by first | omega | rfl | (dsimp only; omega))) ?_) | refine ⟨pureL_bys _, ?_⟩ | refine ⟨rfl, ?_⟩); conv => whnf)
  refine ⟨_, _, tw, by first | rfl | simp [noRoIf, noRoL, noRoV, noRoL_bys], ?_⟩
  conv => whnf
  repeat ((first | refine ⟨pureL_bys _, ?_⟩ | refine ⟨rfl, ?_⟩); conv => whnf)
  refine ⟨_, _, h1, by first | rfl | simp [noRoIf, noRoL, noRoV, noRoL_bys], ?_⟩
  conv => whnf
  repeat ((first | refine ⟨pureL_bys _, ?_⟩ | refine ⟨(⟨by kernel_rfl, by kernel_rfl, Nat.le_of_ble_eq_true (by kernel_rfl)⟩ : AV.ones _ = true ∧ _ ∧ _), ?_⟩ | refine ⟨rfl, ?_⟩); conv => whnf)
  refine ⟨_, _, h2, by first | rfl | simp [noRoIf, noRoL, noRoV, noRoL_bys], ?_⟩
  conv => whnf
  repeat ((first | refine ifB_f ?_ | refine ⟨(⟨by kernel_rfl, by kernel_rfl, Nat.le_of_ble_eq_true (by kernel_rfl)⟩ : AV.ones _ = true ∧ _ ∧ _), ?_⟩ | refine ⟨rfl, ?_⟩ | refine ⟨_, rfl, ?_⟩ | refine ⟨(show pureL _ = true from by first | exact prfC_pure _ | exact hdC_pure _ | exact msgC_pure _ | exact letC_pure _), ?_⟩); conv => whnf)
  refine ⟨_, _, kk, by first | rfl | simp [noRoIf, noRoL, noRoV, noRoL_bys], ?_⟩
  conv => whnf
  repeat ((first | refine ifB_f ?_ | refine ⟨pureL_bys _, ?_⟩ | refine ⟨rfl, ?_⟩); conv => whnf)
  refine ⟨_, _, bb, by first | rfl | simp [noRoIf, noRoL, noRoV, noRoL_bys], ?_⟩
  conv => whnf
  repeat ((first | refine ifB_f ?_ | refine ⟨rfl, ?_⟩ | refine ⟨_, rfl, ?_⟩ | refine ⟨(show pureL _ = true from by first | exact prfC_pure _ | exact hdC_pure _ | exact msgC_pure _ | exact letC_pure _), ?_⟩); conv => whnf)
  refine ⟨_, _, e1, by first | rfl | simp [noRoIf, noRoL, noRoV, noRoL_bys], ?_⟩
  conv => whnf
  repeat ((first | refine ifB_t ?_ | refine ⟨pureL_bys _, ?_⟩ | refine ⟨rfl, ?_⟩); conv => whnf)
  refine ⟨_, _, bb, by first | rfl | simp [noRoIf, noRoL, noRoV, noRoL_bys], ?_⟩
  conv => whnf
  repeat ((first | refine ifB_t ?_ | refine ⟨rfl, ?_⟩); conv => whnf)
  refine ⟨_, _, wakes13_ok, by first | rfl | simp [noRoIf, noRoL, noRoV, noRoL_bys], ?_⟩
  conv => whnf
  repeat ((first | refine ifB_t ?_ | refine ⟨rfl, ?_⟩); conv => whnf)
  rfl
end Go.Proofs.YthnhpkpbjaelnaaDoor.Abs
end
section

namespace Go.Proofs.YthnhpkpbjaelnaaDoor.Abs
open Go Go.Shelf Go.Lib
theorem first_eq : ∀ c : Fin 256, firstT c.val = utf8First.getD c.val 0 := by decide +kernel
theorem acc_eq : ∀ i : Fin 16, accLo i.val = utf8Ranges.getD (2 * i.val) 0 ∧ accHi i.val = utf8Ranges.getD (2 * i.val + 1) 0 := by decide +kernel
theorem tabOk_of {W : World} (h : Lib.Utf8Tabs 1 2 W) : TabOk (env0 W) := by
 obtain ⟨h1, h2⟩ := h
 have l1 : utf8First.length = 256 := by decide +kernel
 have l2 : utf8Ranges.length = 32 := by decide +kernel
 have s0 : 1 < W.heap.size := World.block_lt_of_cell? _ _ (h1 0 (by omega))
 have s1 : 2 < W.heap.size := World.block_lt_of_cell? _ _ (h2 0 (by omega)).1
 intro g k l hg
 unfold tabs at hg
 by_cases g0 : g = 1
 ·subst g0
  simp only [Nat.beq_refl, cond_true, Option.some.injEq, Prod.mk.injEq] at hg
  obtain ⟨rfl, rfl⟩ := hg
  refine ⟨s0, fun hv => hv, fun j x hx => ?_⟩
  have hj : j < 256 := by rw [← l1]; exact (List.getElem?_eq_some_iff.1 hx).1
  have := h1 j hj
  have e := first_eq ⟨j, hj⟩
  simp only at e
  rw [e, List.getD_eq_getElem?_getD, hx] at this
  exact this
 ·have hb : Nat.beq g 1 = false := by
   cases hh : Nat.beq g 1
   ·rfl
   ·exact absurd (Nat.eq_of_beq_eq_true hh) g0
  rw [hb, cond_false] at hg
  by_cases g1 : g = 2
  ·subst g1
   simp only [Nat.beq_refl, cond_true, Option.some.injEq, Prod.mk.injEq] at hg
   obtain ⟨rfl, rfl⟩ := hg
   refine ⟨s1, fun hv => hv, fun j x hx => ?_⟩
   have hj : j < 32 := by rw [← l2]; exact (List.getElem?_eq_some_iff.1 hx).1
   have e := acc_eq ⟨j / 2, by omega⟩
   obtain ⟨q1, q2⟩ := h2 (j / 2) (by omega)
   simp only at e
   rw [e.1] at q1
   rw [e.2] at q2
   rcases Nat.mod_two_eq_zero_or_one j with hm | hm
   ·have ej : 2 * (j / 2) = j := by omega
    rw [ej, List.getD_eq_getElem?_getD, hx] at q1
    exact q1
   ·have ej : 2 * (j / 2) + 1 = j := by omega
    rw [ej, List.getD_eq_getElem?_getD, hx] at q2
    exact q2
  ·have hb : Nat.beq g 2 = false := by
    cases hh : Nat.beq g 2
    ·rfl
    ·exact absurd (Nat.eq_of_beq_eq_true hh) g1
   rw [hb, cond_false] at hg
   cases hg
def utRen : Ren := ⟨fun x => x, fun n => if n = 5 then 5 else if n = 119 then 169 else if n = 138 then 171 else 172, fun n => if n = 3 then 1 else 2⟩
theorem tabOk_of_laid {W : World} (hL : laidMet Tryd.prog [("unicode/utf8.acceptRanges", Rows.laid_unicode_utf8_acceptRanges), ("unicode/utf8.first", Rows.laid_unicode_utf8_first)] W) : TabOk (env0 W) := by
 have e1 : Rows.laid_unicode_utf8_first = Lib.firstData := Pinned.utf8First_eq
 have e2 : (Rows.laid_unicode_utf8_acceptRanges : DataW Unit) = Lib.acceptData := by kernel_rfl
 rw [e1, e2] at hL
 exact tabOk_of (utf8Tabs_of_readsT (P := Tryd.prog) (ρ := utRen) ⟨by kernel_rfl, by kernel_rfl, by kernel_rfl, by kernel_rfl⟩ ⟨by kernel_rfl, by kernel_rfl, by kernel_rfl, by kernel_rfl, by kernel_rfl, by kernel_rfl, by kernel_rfl⟩
  (Lib.laidMet.reads hL (.tail _ (.head _))) (Lib.laidMet.reads hL (.head _)))
end Go.Proofs.YthnhpkpbjaelnaaDoor.Abs
end
section
namespace Go.Proofs.YthnhpkpbjaelnaaDoor.wireReads
open Go Go.ChangeShapes Go.WideShapes Go.ChangeAt Go.RowKit Go.Proofs.YthnhpkpbjaelnaaDoor.Abs
theorem own : ownKnob Tryd.prog.godebug = none := by kernel_rfl
theorem laidOut : laidOutB Tryd.prog = true := by kernel_rfl
noncomputable def laidWorld (os : Os) : World := World.laidAll Tryd.prog os Rows.wireReadsRow.laid
theorem laid_met (os : Os) (args : Array Value) : laidMetH Tryd.prog Rows.wireReadsRow.laid ((laidWorld os).forCall (fun _ _ => 0) ⟨#[], args, []⟩).memory := by
 rw [MakeChecks.laidMetH_plain _ _ _ (by kernel_rfl)]
 exact laidMet_laidAll args (by kernel_rfl) (by kernel_rfl)
set_option maxRecDepth 100000 in
theorem lifted (os : Os) (started : os.Started) (H : Type) (enc : TypeId × Value → H) :
  ReturnsInHanded {} Tryd.checked os 6 .any (fun w args => (Rows.wireReadsSpec.pre enc Tryd.prog Tryd.f6 [] false w args ∧ laidMetH Tryd.prog Rows.wireReadsRow.laid w) ∧ sizedMet enc Tryd.prog Tryd.f6 (OpenSpec.ofChange Rows.wireReadsSpec) false w args)
   (Rows.wireReadsSpec.post enc Tryd.prog Tryd.f6 false true false false) := by
 refine returnsInHanded_of_change_and (C := Tryd.checked) (X := fun w _ => laidMetH Tryd.prog Rows.wireReadsRow.laid w) (fun _ _ _ hh h => h.of_heap hh) own started (by kernel_rfl) Tryd.func6
  (ChangeSpec.witness_shaped (enc := enc) (C := Tryd.checked) (os := os) (X := fun w _ => laidMetH Tryd.prog Rows.wireReadsRow.laid w) false (laidWorld os) #[.slice none 0 0] 8 (World.laidAll_os _ _ _) (World.shaped_of_RefB (by kernel_rfl) (by kernel_rfl)) (by kernel_rfl) (by kernel_rfl) (by kernel_rfl) (laid_met os _)) ?_
 intro W base args ds gs before hval0 hW _ _ hL _
 have hval : ∀ (j : Nat) t v, Tryd.f6.params[j]? = some t → args[j]? = some v → Value.okWide Tryd.prog W .any base t v := hval0
 have hW' := hW
 obtain ⟨p, q, hA0, hV, rfl, hfz, hnd⟩ := hW
 have hA : DataW.TrodAll enc Tryd.prog W 0 (fun _ => true) true Tryd.f6.params.toList args.toList ds p := hA0
 rw [Tryd.params6] at hA hval
 rw [MakeChecks.laidMetH_plain _ _ _ (by kernel_rfl)] at hL
 have htab : TabOk (env0 W) := tabOk_of_laid hL
 obtain ⟨v0, vs0, d0, ds0, p0, q0, hargs, rfl, rfl, h0, r0⟩ := trodAll_cons hA
 obtain ⟨rfl, rfl, rfl⟩ := trodAll_nil r0
 obtain rfl : args = #[v0] := by cases args; simp_all
 obtain ⟨rfl, rfl⟩ := trodVars_none hV
 obtain ⟨a0, len0, cap0, rfl⟩ := okWide_slice Tryd.underlying38 (hval 0 38 v0 rfl rfl)
 have k0 := h0
 have lt0 : ∀ x ∈ p0, x.block < W.heap.size := by obtain ⟨m, hm⟩ := k0; exact DataW.trod_lt m _ _ _ hm
 obtain ⟨x0, w0, t0⟩ := (by obtain ⟨fuel, hf⟩ := h0; exact open_any TTok 4 fuel 38 _ _ (by kernel_rfl) hf : ∃ xs, RepL (env0 W) xs (Value.cells _).toList ∧ TyL TT 4 38 xs)
 obtain ⟨l0, rfl, b0⟩ := bytes_of_slice t0
 have w0 := rep_one w0 rfl
 clear hA0 hval0
 refine (ACall.row (wireReads_ok l0 b0) (by simp [pureL, pureV, pureL_bys, pureL_ints, pureL_toks]) (W := W) (vals := [.slice a0 len0 cap0]) (by simp only [RepL]; exact ⟨_, _, rfl, w0, rfl⟩) htab).mono fun e W' ⟨he, bel⟩ => ?_
 subst he
 exact ⟨_, rfl, _, _, _, [], _, [], hW', trodAll_mk1 (shut_bool Tryd.underlying4 _), (trodAll_cons_mk (Below.trod laidOut (by kernel_rfl) (of_decide_eq_true (by kernel_rfl)) k0 bel lt0) trodAll_mk0), rfl, bel.frame _, fun h => by cases h⟩
theorem over : Rows.wireReadsRow.holds Tryd.pinned (OpenSpec.ofChange Rows.wireReadsSpec) :=
 OpenClaim.holds_of_wide 6 Tryd.f6 rfl rfl rfl rfl rfl rfl rfl ⟨rfl, rfl, rfl, rfl, rfl⟩ rfl rfl rfl rfl rfl (by kernel_rfl) Tryd.func6 (by kernel_rfl)
  (of_decide_eq_true (by kernel_rfl)) (by unfold Func.isWrapper; first | (rw [if_pos (by decide +kernel)]; kernel_rfl) | (rw [if_neg (by decide +kernel)]; exact ⟨rfl, rfl⟩))
  (fun os started H enc _ => lifted os started H enc)
theorem card : Claim7.holds Tryd.pinned (.plain (OpenSpec.ofChange Rows.wireReadsSpec)) Rows.wireReadsCard :=
 Claim7.holds_tied_plain_at .later [] [.data, .pinned] true (true, "a1d4d039e12ce51c527179abb6707c2903e2c466e0152ceeca9117415cbf1307") false
  over (fun _ h => by cases h) (by kernel_rfl) (fun _ h => by cases h) wireReads_row_tie rfl ⟨rfl, rfl⟩ (by kernel_rfl) rfl
  (fun f fn hf hfn => by
   obtain rfl : f = 6 := Option.some.inj ((show Tryd.prog.funcNamed "codicil/codicillaw13.WireReads" = some 6 by kernel_rfl).symm.trans hf) |>.symm
   obtain rfl : fn = Tryd.f6 := (Option.some.inj (Tryd.func6.symm.trans hfn)).symm
   exact ⟨by kernel_rfl, fun j t ht => by
    rw [Tryd.params6] at ht
    have hm : t ∈ [38] := by simpa using Array.mem_of_getElem? ht
    have hall : ([38].all fun u => !Tryd.prog.wantsStandIn u) = true := by kernel_rfl
    exact (show Tryd.prog.wantsStandIn t = false by simpa using List.all_eq_true.1 hall t hm)⟩)
  (by kernel_rfl)
end Go.Proofs.YthnhpkpbjaelnaaDoor.wireReads
namespace Go.Proofs.YthnhpkpbjaelnaaDoor
theorem wireReads_holds : Rows.WireReadsCardSaid := wireReads.card
end Go.Proofs.YthnhpkpbjaelnaaDoor
end
