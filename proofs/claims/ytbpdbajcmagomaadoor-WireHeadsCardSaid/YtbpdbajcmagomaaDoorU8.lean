/- Texts CI to CT, merged. -/
import Derived.ChangeArms
import Derived.OpenShut
import Derived.WideShapes
import Derived.Test.YtbpdbajcmagomaaDoorU7
set_option linter.unusedVariables false
set_option linter.unusedSimpArgs false
namespace Go.Proofs.YtbpdbajcmagomaaDoor.Abs
open Go
section

attribute [local irreducible] ifB fitP Does Weaker
theorem lesP_toks {o : Nat → Option Nat} {xs : List AV} : ∀ {l : List Tok}, xs = toksC l → lesP o (toksC l) xs
 | [], h => by subst h; trivial
 | t :: l, h => by
  subst h
  exact ⟨⟨rfl, rfl⟩, ⟨rfl, rfl⟩, ⟨rfl, rfl, pureL_bys _⟩, lesP_toks rfl⟩
theorem lesP_toks_nil {o : Nat → Option Nat} {k n : Int} : ∀ {l : List Tok}, lesP o (toksC (l ++ [⟨k, n, []⟩])) (toksC l ++ [.int .i64 k, .int .i64 n, .nil])
 | [] => ⟨⟨rfl, rfl⟩, ⟨rfl, rfl⟩, ⟨rfl, rfl⟩, trivial⟩
 | t :: l => ⟨⟨rfl, rfl⟩, ⟨rfl, rfl⟩, ⟨rfl, rfl, pureL_bys _⟩, lesP_toks_nil⟩
structure Pa where
 at' : Nat
 l : List Tok
 bad : Bool
def pC (b : List Int) (p : Pa) : List AV := [.ro b.length (bys b), .int .i64 (p.at' : Int), .own p.l.length 3 (toksC p.l), .bool p.bad]
def pMany (g : Pa → Pa) : Nat → Pa → Pa
 | 0, p => p
 | n + 1, p => if p.bad then p else pMany g n (g p)
def pPart (b : List Int) (k n : Int) (next : Nat) (l : List Tok) : Pa :=
 if (b.length : Int) < next + n then ⟨next, l ++ [⟨k, 0, []⟩], true⟩ else ⟨next + n.toNat, l ++ [⟨k, 0, (b.drop next).take n.toNat⟩], false⟩
def pGo (b : List Int) (g : Pa → Pa) (m n : Int) (next : Nat) (l : List Tok) : Pa :=
 if m = 0 then ⟨next, l ++ [⟨1, n, []⟩], false⟩
 else if m = 1 then ⟨next, l ++ [⟨2, n, []⟩], false⟩
 else if m = 2 then pPart b 3 n next l
 else if m = 3 then pPart b 4 n next l
 else if m = 4 then pMany g n.toNat ⟨next, l ++ [⟨5, n, []⟩], false⟩
 else if m = 5 then pMany g (2 * min n 65).toNat ⟨next, l ++ [⟨6, n, []⟩], false⟩
 else ⟨next, l, true⟩
def pBad (b : List Int) (p : Pa) : Prop := p.bad = true ∨ (getR b p.at').2.2.2 ≠ 0 ∨ 600 ≤ p.l.length
instance (b : List Int) (p : Pa) : Decidable (pBad b p) := by unfold pBad; infer_instance
def pItem (b : List Int) : Nat → Pa → Pa
 | 0, p => { p with bad := true }
 | f + 1, p => if pBad b p then { p with bad := true } else pGo b (pItem b f) (getR b p.at').1 (getR b p.at').2.1 (getR b p.at').2.2.1.toNat p.l
def PItemOk (b : List Int) (f : Nat) : Prop := ∀ p : Pa, p.at' ≤ b.length → p.l.length ≤ 600 →
 ACall Tryd.prog 99 [.ref (pC b p), .int .i64 (8 - (f : Int))] (.tuple []) [.ref (pC b (pItem b f p))]
def PInv (b : List Int) (p : Pa) : Prop := p.at' ≤ b.length ∧ p.l.length ≤ 600
theorem pMany_inv (b : List Int) (g : Pa → Pa) (hg : ∀ p, PInv b p → PInv b (g p)) : ∀ (n : Nat) (p : Pa), PInv b p → PInv b (pMany g n p)
 | 0, p, h => h
 | n + 1, p, h => by
  unfold pMany
  split
  ·exact h
  ·exact pMany_inv b g hg n _ (hg p h)
theorem pPart_inv (b : List Int) (k n : Int) (hn : 0 ≤ n) (next : Nat) (hx : next ≤ b.length) (l : List Tok) (hl : l.length < 600) : PInv b (pPart b k n next l) := by
 unfold pPart
 split
 ·exact ⟨hx, by simp; omega⟩
 ·exact ⟨by simp only; omega, by simp; omega⟩
theorem pGo_inv (b : List Int) (g : Pa → Pa) (hg : ∀ p, PInv b p → PInv b (g p)) (m n : Int) (hn : 0 ≤ n) (next : Nat) (hx : next ≤ b.length) (l : List Tok) (hl : l.length < 600) : PInv b (pGo b g m n next l) := by
 unfold pGo
 split
 ·exact ⟨hx, by simp; omega⟩
 split
 ·exact ⟨hx, by simp; omega⟩
 split
 ·exact pPart_inv b _ n hn next hx l hl
 split
 ·exact pPart_inv b _ n hn next hx l hl
 split
 ·exact pMany_inv b g hg _ _ ⟨hx, by simp; omega⟩
 split
 ·exact pMany_inv b g hg _ _ ⟨hx, by simp; omega⟩
 ·exact ⟨hx, by simp only; omega⟩
theorem getR_right (b : List Int) (hb : Byt b) (at' : Nat) (h : (getR b at').2.2.2 = 0) : ∃ (M n : Int) (X : Nat), getR b at' = (M, n, (X : Int), 0) ∧ (0 ≤ M ∧ M < 8) ∧ (0 ≤ n ∧ n ≤ 9223372036854775807) ∧ X ≤ b.length ∧ at' < X := by
 rcases getR_says b hb at' with ⟨e, _⟩ | ⟨e, _⟩ | ⟨k, m, hk, n, hkk, hkm, hn0, hn1, e, _⟩
 ·rw [e] at h; simp at h
 ·rw [e] at h; simp at h
 ·have hbk := hb b[k] (by simp)
  refine ⟨b[k] / 32, n, k + 1 + m, by rw [e]; simp, by omega, ⟨hn0, hn1⟩, hkm, by omega⟩
theorem pItem_inv (b : List Int) (hb : Byt b) : ∀ (f : Nat) (p : Pa), PInv b p → PInv b (pItem b f p)
 | 0, p, h => h
 | f + 1, p, h => by
  unfold pItem
  split
  ·exact h
  ·rename_i hh
   simp only [pBad, not_or] at hh
   obtain ⟨M, n, X, e, _, hn, hX, _⟩ := getR_right b hb p.at' (by omega)
   rw [e]
   exact pGo_inv b _ (fun p hp => pItem_inv b hb f p hp) _ _ hn.1 _ (by simpa using hX) _ (by omega)
def PLpi : Nat → Bool × Plan := plans [(0, (false, (takesTo [0, 1, 2, 4, 5, 6] (.all [(3, (.all [(7, (.all [(8, (takes [9, 10, 11, 12, 13, 14, 15, 16, 17]))]))])), (7, (.all [(3, (.all [(8, (takes [9, 10, 11, 12, 13, 14, 15, 16, 17]))]))]))])))),
 (12, (false, (takesTo [0, 1, 2, 3, 5, 6] (.all [(4, (.all [(7, (takesTo [8] (.all [(9, (.all [(10, (takesTo [11, 12] (.all [(13, .done)])))]))])))])), (7, (takesTo [8] (.all [(4, (.all [(9, (.all [(10, (takesTo [11, 12] (.all [(13, .done)])))]))])), (9, (.all [(4, (.all [(10, (takesTo [11, 12] (.all [(13, .done)])))]))]))])))])))),
 (14, (false, (takesTo [0, 1, 2, 3, 5, 6] (.all [(4, (.all [(7, (takesTo [8] (.all [(9, (.all [(10, (takesTo [11, 12] (.all [(13, .done)])))]))])))])), (7, (takesTo [8] (.all [(4, (.all [(9, (.all [(10, (takesTo [11, 12] (.all [(13, .done)])))]))])), (9, (.all [(4, (.all [(10, (takesTo [11, 12] (.all [(13, .done)])))]))]))])))]))))]
theorem pItem_bad (b : List Int) (hb : Byt b) (hbl : b.length ≤ 32768) (p : Pa) (hat : p.at' ≤ b.length) (hl : p.l.length ≤ 600) (d : Int) (h : pBad b p ∨ 7 < d) :
  ACall Tryd.prog 99 [.ref (pC b p), .int .i64 d] (.tuple []) [.ref (pC b { p with bad := true })] := by
 obtain ⟨at', l, bad⟩ := p
 simp only [pBad] at hat hl h
 have hL := pureL_toks l
 have hg := get_ok b hb (by omega) (at' : Int)
 obtain ⟨r, hr⟩ : ∃ r, r = getR b at' := ⟨_, rfl⟩
 rw [← hr] at hg h
 refine ACall.of_does TTok Tryd.func99 rfl Tryd.call99 rfl (wpc_sound (M := MC) (PL := PLpi) (CU := cutAt [200000]) TTok mixed _ _ _ ?_)
 conv => whnf
 refine Does.seqCut (α := Unit) (fun _ => mkSt [(0, .ptr 1 0), (1, .int .i64 d), (4, .int .i64 r.1), (5, .int .i64 r.2.1), (6, .int .i64 r.2.2.1), (7, .int .i64 r.2.2.2)]
  [(0, toksC l), (1, [.ro b.length (bys b), .int .i64 (at' : Int), .sl 0 0 l.length 3 false, .bool bad])] 2 157) (fun _ => True) ?_ (fun _ _ => ?_)
 ·refine wpc_sound (M := MC) (PL := PLpi) (CU := noCut) TTok mixed _ _ _ ?_
  conv => whnf
  refine ⟨by kernel_rfl, ?_⟩
  conv => whnf
  refine ⟨?_, ?_⟩
  ·conv => whnf
   repeat ((first | refine ⟨pureL_bys _, ?_⟩ | refine ⟨rfl, ?_⟩ | refine ⟨_, rfl, ?_⟩); conv => whnf)
   refine ⟨_, _, hg, by first | rfl | simp [noRoIf, noRoL, noRoV, noRoL_bys], ?_⟩
   conv => whnf
   refine ⟨(), trivial, weaker_of [] rfl rfl ?_ ?_⟩
   ·exact ⟨⟨rfl, rfl⟩, ⟨rfl, rfl⟩, ⟨rfl, rfl⟩, ⟨rfl, rfl⟩, ⟨rfl, rfl⟩, ⟨rfl, rfl⟩, trivial⟩
   ·exact ⟨lesP_toks rfl, ⟨⟨rfl, rfl, pureL_bys _⟩, ⟨rfl, rfl⟩, ⟨rfl, rfl, rfl, rfl, id⟩, rfl, trivial⟩, trivial⟩
  ·conv => whnf
   repeat ((first | refine ⟨pureL_bys _, ?_⟩ | refine ⟨rfl, ?_⟩ | refine ⟨_, rfl, ?_⟩); conv => whnf)
   refine ⟨_, _, hg, by first | rfl | simp [noRoIf, noRoL, noRoV, noRoL_bys], ?_⟩
   conv => whnf
   refine ⟨(), trivial, weaker_of [] rfl rfl ?_ ?_⟩
   ·exact ⟨⟨rfl, rfl⟩, ⟨rfl, rfl⟩, ⟨rfl, rfl⟩, ⟨rfl, rfl⟩, ⟨rfl, rfl⟩, ⟨rfl, rfl⟩, trivial⟩
   ·exact ⟨lesP_toks rfl, ⟨⟨rfl, rfl, pureL_bys _⟩, ⟨rfl, rfl⟩, ⟨rfl, rfl, rfl, rfl, id⟩, rfl, trivial⟩, trivial⟩
 ·refine wpc_sound (M := MC) (PL := PLpi) (CU := noCut) TTok mixed _ _ _ ?_
  conv => whnf
  repeat ((refine ⟨_, rfl, ?_⟩); conv => whnf)
  cases bad
  ·conv => whnf
   repeat ((refine ifB_f ?_); conv => whnf)
   refine ifB_dec (fun k1 => ?_) (fun k1 => ?_)
   ·conv => whnf
    repeat ((first | refine ifB_t ?_ | refine ⟨rfl, ?_⟩ | refine ⟨⟨rfl, rfl⟩, ?_⟩ | (refine ⟨⟨rfl, rfl, rfl, ?_, pureL_toks _⟩, ?_⟩; (focus (rw [toksC_length]; omega))) | (refine ⟨⟨rfl, rfl, ?_⟩, ?_⟩; (focus (first | assumption | exact pureL_bys _ | exact pureL_toks _))) | (refine ⟨⟨rfl, rfl, ?_⟩, ?_⟩; (focus (first | exact Nat.le_of_ble_eq_true rfl | (simp; done))))); conv => whnf)
    rfl
   have k1 : r.2.2.2 = 0 := Classical.not_not.1 k1
   conv => whnf
   repeat ((first | refine ifB_f ?_ | refine ⟨_, rfl, ?_⟩); conv => whnf)
   refine ifB_dec (fun k2 => ?_) (fun k2 => ?_)
   ·conv => whnf
    repeat ((first | refine ifB_t ?_ | refine ⟨rfl, ?_⟩ | refine ⟨⟨rfl, rfl⟩, ?_⟩ | (refine ⟨⟨rfl, rfl, rfl, ?_, pureL_toks _⟩, ?_⟩; (focus (rw [toksC_length]; omega))) | (refine ⟨⟨rfl, rfl, ?_⟩, ?_⟩; (focus (first | assumption | exact pureL_bys _ | exact pureL_toks _))) | (refine ⟨⟨rfl, rfl, ?_⟩, ?_⟩; (focus (first | exact Nat.le_of_ble_eq_true rfl | (simp; done))))); conv => whnf)
    rfl
   conv => whnf
   repeat ((refine ifB_f ?_); conv => whnf)
   refine ifB_pos (decide_eq_true ?_) ?_
   ·rcases h with (h | h | h) | h
    ·simp at h
    ·omega
    ·omega
    ·exact h
   ·conv => whnf
    repeat ((first | refine ⟨rfl, ?_⟩ | refine ⟨⟨rfl, rfl⟩, ?_⟩ | (refine ⟨⟨rfl, rfl, rfl, ?_, pureL_toks _⟩, ?_⟩; (focus (rw [toksC_length]; omega))) | (refine ⟨⟨rfl, rfl, ?_⟩, ?_⟩; (focus (first | assumption | exact pureL_bys _ | exact pureL_toks _))) | (refine ⟨⟨rfl, rfl, ?_⟩, ?_⟩; (focus (first | exact Nat.le_of_ble_eq_true rfl | (simp; done))))); conv => whnf)
    rfl
  ·conv => whnf
   repeat ((first | refine ifB_t ?_ | refine ⟨rfl, ?_⟩ | refine ⟨⟨rfl, rfl⟩, ?_⟩ | (refine ⟨⟨rfl, rfl, rfl, ?_, pureL_toks _⟩, ?_⟩; (focus (rw [toksC_length]; omega))) | (refine ⟨⟨rfl, rfl, ?_⟩, ?_⟩; (focus (first | assumption | exact pureL_bys _ | exact pureL_toks _))) | (refine ⟨⟨rfl, rfl, ?_⟩, ?_⟩; (focus (first | exact Nat.le_of_ble_eq_true rfl | (simp; done))))); conv => whnf)
   rfl
set_option maxHeartbeats 8000000 in
theorem pItem_go (b : List Int) (hb : Byt b) (hbl : b.length ≤ 32768) (f : Nat) (hf : f ≤ 6) (ih : PItemOk b f) (at' : Nat) (l : List Tok) (hat : at' ≤ b.length) (hl : l.length < 600) (he : (getR b at').2.2.2 = 0) :
  ACall Tryd.prog 99 [.ref (pC b ⟨at', l, false⟩), .int .i64 (7 - (f : Int))] (.tuple []) [.ref (pC b (pGo b (pItem b f) (getR b at').1 (getR b at').2.1 (getR b at').2.2.1.toNat l))] := by
 have hL := pureL_toks l
 have hg := get_ok b hb (by omega) (at' : Int)
 obtain ⟨M, n, X, e, hM, hn, hX, _⟩ := getR_right b hb at' he
 obtain ⟨n, rfl⟩ : ∃ m : Nat, n = m := ⟨n.toNat, by omega⟩
 obtain ⟨r, hr⟩ : ∃ r, r = getR b at' := ⟨_, rfl⟩
 rw [← hr] at hg e ⊢
 clear he hr
 subst e
 simp only [Int.toNat_natCast]
 have hi' : ∀ p : Pa, PInv b p → ACall Tryd.prog 99 [.ref (pC b p), .int .i64 (7 - (f : Int) + 1)] (.tuple []) [.ref (pC b (pItem b f p))] := by
  intro p hp
  have := ih p hp.1 hp.2
  rwa [show 8 - (f : Int) = 7 - f + 1 by omega] at this
 refine ACall.of_does TTok Tryd.func99 rfl Tryd.call99 rfl (wpc_sound (M := MC) (PL := PLpi) (CU := cutAt [200000, 7]) TTok mixed _ _ _ ?_)
 conv => whnf
 refine Does.seqCut (α := Unit) (fun _ => mkSt [(0, .ptr 1 0), (1, .int .i64 (7 - (f : Int))), (4, .int .i64 M), (5,   .int .i64 (n : Int)), (6, .int .i64 (X : Int)), (7, .int .i64 0)]
  [(0, toksC l), (1, [.ro b.length (bys b), .int .i64 (at' : Int), .sl 0 0 l.length 3 false, .bool false])] 2 157) (fun _ => True) ?_ (fun _ _ => ?_)
 ·refine wpc_sound (M := MC) (PL := PLpi) (CU := noCut) TTok mixed _ _ _ ?_
  conv => whnf
  refine ⟨by kernel_rfl, ?_⟩
  conv => whnf
  refine ⟨?_, ?_⟩
  ·conv => whnf
   repeat ((first | refine ⟨pureL_bys _, ?_⟩ | refine ⟨rfl, ?_⟩ | refine ⟨_, rfl, ?_⟩); conv => whnf)
   refine ⟨_, _, hg, by first | rfl | simp [noRoIf, noRoL, noRoV, noRoL_bys], ?_⟩
   conv => whnf
   refine ⟨(), trivial, weaker_of [] rfl rfl ?_ ?_⟩
   ·exact ⟨⟨rfl, rfl⟩, ⟨rfl, rfl⟩, ⟨rfl, rfl⟩, ⟨rfl, rfl⟩, ⟨rfl, rfl⟩, ⟨rfl, rfl⟩, trivial⟩
   ·exact ⟨lesP_toks rfl, ⟨⟨rfl, rfl, pureL_bys _⟩, ⟨rfl, rfl⟩, ⟨rfl, rfl, rfl, rfl, id⟩, rfl, trivial⟩, trivial⟩
  ·conv => whnf
   repeat ((first | refine ⟨pureL_bys _, ?_⟩ | refine ⟨rfl, ?_⟩ | refine ⟨_, rfl, ?_⟩); conv => whnf)
   refine ⟨_, _, hg, by first | rfl | simp [noRoIf, noRoL, noRoV, noRoL_bys], ?_⟩
   conv => whnf
   refine ⟨(), trivial, weaker_of [] rfl rfl ?_ ?_⟩
   ·exact ⟨⟨rfl, rfl⟩, ⟨rfl, rfl⟩, ⟨rfl, rfl⟩, ⟨rfl, rfl⟩, ⟨rfl, rfl⟩, ⟨rfl, rfl⟩, trivial⟩
   ·exact ⟨lesP_toks rfl, ⟨⟨rfl, rfl, pureL_bys _⟩, ⟨rfl, rfl⟩, ⟨rfl, rfl, rfl, rfl, id⟩, rfl, trivial⟩, trivial⟩
 ·refine wpc_sound (M := MC) (PL := PLpi) (CU := cutAt [7]) TTok mixed _ _ _ ?_
  conv => whnf
  repeat ((first | refine ifB_f ?_ | (refine ifB_neg (decide_eq_false (by first | omega | rfl | (dsimp only; omega))) ?_) | refine ⟨_, rfl, ?_⟩ | (refine ⟨⟨rfl, rfl, ?_⟩, ?_⟩; (focus (first | exact Nat.le_of_ble_eq_true rfl | (simp; done))))); conv => whnf)
  refine Does.seqCut (α := Pa × Nat) (fun q => mkSt [(0, .ptr 1 0), (1, .int .i64 (7 - (f : Int))), (8, .int .i64 (q.2 : Int))]
   [(1, [.ro b.length (bys b), .int .i64 (q.1.at' : Int), .sl 2 0 q.1.l.length 3 false, .bool q.1.bad]), (2, toksC q.1.l)] 3 157) (fun q => PInv b q.1 ∧ q.2 ≤ 9223372036854775807 ∧ pMany (pItem b f) q.2 q.1 = pGo b (pItem b f) M (n : Int) X l) ?_ ?_
  ·refine wpc_sound (M := MC) (PL := PLpi) (CU := noCut) TTok mixed _ _ _ ?_
   conv => whnf
   refine ifB_dec (fun k0 => ?_) (fun k0 => ?_)
   ·conv => whnf
    repeat ((first | (refine Or.inl ⟨⟨rfl, ?_⟩, ?_⟩; (focus (first | rfl | (simp; done) | (rw [toksC_length]; omega)))) | refine ⟨rfl, ?_⟩ | refine ⟨_, rfl, ?_⟩ | refine ⟨⟨rfl, rfl⟩, ?_⟩); conv => whnf)
    refine ⟨⟨rfl, rfl, by rw [toksC_length]; omega, by simp [limB]; omega⟩, ?_⟩
    conv => whnf
    repeat ((first | refine ifB_t ?_ | refine ifB_f ?_); conv => whnf)
    conv => whnf
    repeat ((refine ⟨⟨rfl, rfl, ?_⟩, ?_⟩; (focus (first | exact Nat.le_of_ble_eq_true rfl | (simp; done)))); conv => whnf)
    refine ⟨(⟨X, l ++ [⟨1, (n : Int), []⟩], false⟩, 0), ⟨⟨⟨hX, by simp; omega⟩, by first | omega | (simp only; omega), ?_⟩, weaker_of [(2, 3)] rfl rfl ?_ ?_⟩⟩
    ·simp [pGo, pMany, k0]
    ·exact ⟨⟨rfl, rfl⟩, ⟨rfl, rfl⟩, leP_int rfl, trivial⟩
    ·exact ⟨⟨⟨rfl, rfl, pureL_bys _⟩, leP_int (by simp), ⟨rfl, rfl, by simp, rfl, nofun⟩, rfl, trivial⟩, lesP_toks_nil, trivial⟩
   conv => whnf
   repeat ((first | refine ifB_t ?_ | refine ifB_f ?_); conv => whnf)
   refine ifB_dec (fun k1 => ?_) (fun k1 => ?_)
   ·conv => whnf
    repeat ((first | (refine Or.inl ⟨⟨rfl, ?_⟩, ?_⟩; (focus (first | rfl | (simp; done) | (rw [toksC_length]; omega)))) | refine ⟨rfl, ?_⟩ | refine ⟨_, rfl, ?_⟩ | refine ⟨⟨rfl, rfl⟩, ?_⟩); conv => whnf)
    refine ⟨⟨rfl, rfl, by rw [toksC_length]; omega, by simp [limB]; omega⟩, ?_⟩
    conv => whnf
    repeat ((first | refine ifB_t ?_ | refine ifB_f ?_); conv => whnf)
    conv => whnf
    repeat ((refine ⟨⟨rfl, rfl, ?_⟩, ?_⟩; (focus (first | exact Nat.le_of_ble_eq_true rfl | (simp; done)))); conv => whnf)
    refine ⟨(⟨X, l ++ [⟨2, (n : Int), []⟩], false⟩, 0), ⟨⟨⟨hX, by simp; omega⟩, by first | omega | (simp only; omega), ?_⟩, weaker_of [(2, 3)] rfl rfl ?_ ?_⟩⟩
    ·simp [pGo, pMany, k0, k1]
    ·exact ⟨⟨rfl, rfl⟩, ⟨rfl, rfl⟩, leP_int rfl, trivial⟩
    ·exact ⟨⟨⟨rfl, rfl, pureL_bys _⟩, leP_int (by simp), ⟨rfl, rfl, by simp, rfl, nofun⟩, rfl, trivial⟩, lesP_toks_nil, trivial⟩
   conv => whnf
   repeat ((first | refine ifB_t ?_ | refine ifB_f ?_); conv => whnf)
   refine ifB_dec (fun k2 => ?_) (fun k2 => ?_)
   ·conv => whnf
    refine ⟨by kernel_rfl, ?_⟩
    by_cases hlt : b.length < X + n
    ·conv => whnf
     refine ⟨?_, ?_⟩
     ·conv => whnf
      repeat ((first | refine ⟨pureL_bys _, ?_⟩ | refine ⟨rfl, ?_⟩ | refine ⟨_, rfl, ?_⟩ | refine ⟨⟨rfl, rfl⟩, ?_⟩); conv => whnf)
      refine ⟨_, [.ro b.length (bys b), .int .i64 (X : Int), .top, .bool true], part_no b X n false hX (by omega) (by omega), ⟨by show (noHidL [AV.ro b.length (bys b), AV.int .i64 (X : Int), AV.top, AV.bool false] && noHidL [AV.int .i64 (n : Int)] && noHidL [AV.ro b.length (bys b), AV.int .i64 (X : Int), AV.top, AV.bool true] && noHidV (AV.ro 0 [])) = true; simp [noHidL, noHidV, noHidL_bys], rfl, rfl⟩, ?_⟩
      conv => whnf
      repeat ((first | (refine Or.inl ⟨⟨rfl, ?_⟩, ?_⟩; (focus (first | rfl | (simp; done) | (rw [toksC_length]; omega)))) | refine ⟨rfl, ?_⟩ | refine ⟨⟨rfl, rfl⟩, ?_⟩); conv => whnf)
      refine ⟨⟨rfl, rfl, by rw [toksC_length]; omega, by simp [limB]; omega⟩, ?_⟩
      conv => whnf
      repeat ((first | refine ifB_t ?_ | refine ifB_f ?_); conv => whnf)
      conv => whnf
      repeat ((refine ⟨⟨rfl, rfl, ?_⟩, ?_⟩; (focus (first | exact Nat.le_of_ble_eq_true rfl | (simp; done)))); conv => whnf)
      refine ⟨(⟨X, l ++ [⟨3, 0, []⟩], true⟩, 0), ⟨⟨⟨hX, by simp; omega⟩, by first | omega | (simp only; omega), ?_⟩, weaker_of [(2, 3)] rfl rfl ?_ ?_⟩⟩
      ·simp [pGo, pPart, pMany, k0, k1, k2]; omega
      ·exact ⟨⟨rfl, rfl⟩, ⟨rfl, rfl⟩, leP_int rfl, trivial⟩
      ·exact ⟨⟨⟨rfl, rfl, pureL_bys _⟩, leP_int (by simp), ⟨rfl, rfl, by simp, rfl, nofun⟩, rfl, trivial⟩, lesP_toks (by simp [toksC_append, toksC, bys]), trivial⟩
     ·conv => whnf
      repeat ((first | refine ⟨pureL_bys _, ?_⟩ | refine ⟨rfl, ?_⟩ | refine ⟨⟨rfl, rfl⟩, ?_⟩); conv => whnf)
      refine ⟨_, [.ro b.length (bys b), .int .i64 (X : Int), .top, .bool true], part_no b X n false hX (by omega) (by omega), ⟨by show (noHidL [AV.ro b.length (bys b), AV.int .i64 (X : Int), AV.top, AV.bool false] && noHidL [AV.int .i64 (n : Int)] && noHidL [AV.ro b.length (bys b), AV.int .i64 (X : Int), AV.top, AV.bool true] && noHidV (AV.ro 0 [])) = true; simp [noHidL, noHidV, noHidL_bys], rfl, rfl⟩, ?_⟩
      conv => whnf
      refine ⟨?_, ?_⟩
      ·conv => whnf
       repeat ((first | (refine Or.inl ⟨⟨rfl, ?_⟩, ?_⟩; (focus (first | rfl | (simp; done) | (rw [toksC_length]; omega)))) | refine ⟨rfl, ?_⟩ | refine ⟨_, rfl, ?_⟩ | refine ⟨⟨rfl, rfl⟩, ?_⟩); conv => whnf)
       refine ⟨⟨rfl, rfl, by rw [toksC_length]; omega, by simp [limB]; omega⟩, ?_⟩
       conv => whnf
       repeat ((first | refine ifB_t ?_ | refine ifB_f ?_); conv => whnf)
       conv => whnf
       repeat ((refine ⟨⟨rfl, rfl, ?_⟩, ?_⟩; (focus (first | exact Nat.le_of_ble_eq_true rfl | (simp; done)))); conv => whnf)
       refine ⟨(⟨X, l ++ [⟨3, 0, []⟩], true⟩, 0), ⟨⟨⟨hX, by simp; omega⟩, by first | omega | (simp only; omega), ?_⟩, weaker_of [(2, 3)] rfl rfl ?_ ?_⟩⟩
       ·simp [pGo, pPart, pMany, k0, k1, k2]; omega
       ·exact ⟨⟨rfl, rfl⟩, ⟨rfl, rfl⟩, leP_int rfl, trivial⟩
       ·exact ⟨⟨⟨rfl, rfl, pureL_bys _⟩, leP_int (by simp), ⟨rfl, rfl, by simp, rfl, nofun⟩, rfl, trivial⟩, lesP_toks (by simp [toksC_append, toksC, bys]), trivial⟩
      ·conv => whnf
       repeat ((first | (refine Or.inl ⟨⟨rfl, ?_⟩, ?_⟩; (focus (first | rfl | (simp; done) | (rw [toksC_length]; omega)))) | refine ⟨rfl, ?_⟩ | refine ⟨_, rfl, ?_⟩ | refine ⟨⟨rfl, rfl⟩, ?_⟩); conv => whnf)
       refine ⟨⟨rfl, rfl, by rw [toksC_length]; omega, by simp [limB]; omega⟩, ?_⟩
       conv => whnf
       repeat ((first | refine ifB_t ?_ | refine ifB_f ?_); conv => whnf)
       conv => whnf
       repeat ((refine ⟨⟨rfl, rfl, ?_⟩, ?_⟩; (focus (first | exact Nat.le_of_ble_eq_true rfl | (simp; done)))); conv => whnf)
       refine ⟨(⟨X, l ++ [⟨3, 0, []⟩], true⟩, 0), ⟨⟨⟨hX, by simp; omega⟩, by first | omega | (simp only; omega), ?_⟩, weaker_of [(2, 3)] rfl rfl ?_ ?_⟩⟩
       ·simp [pGo, pPart, pMany, k0, k1, k2]; omega
       ·exact ⟨⟨rfl, rfl⟩, ⟨rfl, rfl⟩, leP_int rfl, trivial⟩
       ·exact ⟨⟨⟨rfl, rfl, pureL_bys _⟩, leP_int (by simp), ⟨rfl, rfl, by simp, rfl, nofun⟩, rfl, trivial⟩, lesP_toks (by simp [toksC_append, toksC, bys]), trivial⟩
    ·conv => whnf
     refine ⟨?_, ?_⟩
     ·conv => whnf
      repeat ((first | refine ⟨pureL_bys _, ?_⟩ | refine ⟨rfl, ?_⟩ | refine ⟨_, rfl, ?_⟩ | refine ⟨⟨rfl, rfl⟩, ?_⟩); conv => whnf)
      refine ⟨_, [.ro b.length (bys b), .int .i64 ((X : Int) + n), .top, .bool false], part_yes b X n false (by omega) (by omega), ⟨by show (noHidL [AV.ro b.length (bys b), AV.int .i64 (X : Int), AV.top, AV.bool false] && noHidL [AV.int .i64 (n : Int)] && noHidL [AV.ro b.length (bys b), AV.int .i64 ((X : Int) + n), AV.top, AV.bool false] && noHidV (AV.ro n (bys ((b.drop X).take n)))) = true; simp [noHidL, noHidV, noHidL_bys], rfl, rfl⟩, ?_⟩
      conv => whnf
      repeat ((first | (refine Or.inl ⟨⟨rfl, ?_⟩, ?_⟩; (focus (first | rfl | (simp; done) | (rw [toksC_length]; omega)))) | refine ⟨rfl, ?_⟩ | refine ⟨⟨rfl, rfl⟩, ?_⟩); conv => whnf)
      refine ⟨⟨rfl, rfl, by rw [toksC_length]; omega, by simp [limB]; omega⟩, ?_⟩
      conv => whnf
      repeat ((first | refine ifB_t ?_ | refine ifB_f ?_); conv => whnf)
      conv => whnf
      repeat ((refine ⟨⟨rfl, rfl, ?_⟩, ?_⟩; (focus (first | exact Nat.le_of_ble_eq_true rfl | (simp; done)))); conv => whnf)
      refine ⟨(⟨X + n, l ++ [⟨3, 0, (b.drop X).take n⟩], false⟩, 0), ⟨⟨⟨by simp only; omega, by simp; omega⟩, by first | omega | (simp only; omega), ?_⟩, weaker_of [(2, 3)] rfl rfl ?_ ?_⟩⟩
      ·simp [pGo, pPart, pMany, k0, k1, k2]; omega
      ·exact ⟨⟨rfl, rfl⟩, ⟨rfl, rfl⟩, leP_int rfl, trivial⟩
      ·exact ⟨⟨⟨rfl, rfl, pureL_bys _⟩, leP_int (by simp), ⟨rfl, rfl, by simp, rfl, nofun⟩, rfl, trivial⟩, lesP_toks (by simp [toksC_append, toksC, bys]; omega), trivial⟩
     ·conv => whnf
      repeat ((first | refine ⟨pureL_bys _, ?_⟩ | refine ⟨rfl, ?_⟩ | refine ⟨⟨rfl, rfl⟩, ?_⟩); conv => whnf)
      refine ⟨_, [.ro b.length (bys b), .int .i64 ((X : Int) + n), .top, .bool false], part_yes b X n false (by omega) (by omega), ⟨by show (noHidL [AV.ro b.length (bys b), AV.int .i64 (X : Int), AV.top, AV.bool false] && noHidL [AV.int .i64 (n : Int)] && noHidL [AV.ro b.length (bys b), AV.int .i64 ((X : Int) + n), AV.top, AV.bool false] && noHidV (AV.ro n (bys ((b.drop X).take n)))) = true; simp [noHidL, noHidV, noHidL_bys], rfl, rfl⟩, ?_⟩
      conv => whnf
      refine ⟨?_, ?_⟩
      ·conv => whnf
       repeat ((first | (refine Or.inl ⟨⟨rfl, ?_⟩, ?_⟩; (focus (first | rfl | (simp; done) | (rw [toksC_length]; omega)))) | refine ⟨rfl, ?_⟩ | refine ⟨_, rfl, ?_⟩ | refine ⟨⟨rfl, rfl⟩, ?_⟩); conv => whnf)
       refine ⟨⟨rfl, rfl, by rw [toksC_length]; omega, by simp [limB]; omega⟩, ?_⟩
       conv => whnf
       repeat ((first | refine ifB_t ?_ | refine ifB_f ?_); conv => whnf)
       conv => whnf
       repeat ((refine ⟨⟨rfl, rfl, ?_⟩, ?_⟩; (focus (first | exact Nat.le_of_ble_eq_true rfl | (simp; done)))); conv => whnf)
       refine ⟨(⟨X + n, l ++ [⟨3, 0, (b.drop X).take n⟩], false⟩, 0), ⟨⟨⟨by simp only; omega, by simp; omega⟩, by first | omega | (simp only; omega), ?_⟩, weaker_of [(2, 3)] rfl rfl ?_ ?_⟩⟩
       ·simp [pGo, pPart, pMany, k0, k1, k2]; omega
       ·exact ⟨⟨rfl, rfl⟩, ⟨rfl, rfl⟩, leP_int rfl, trivial⟩
       ·exact ⟨⟨⟨rfl, rfl, pureL_bys _⟩, leP_int (by simp), ⟨rfl, rfl, by simp, rfl, nofun⟩, rfl, trivial⟩, lesP_toks (by simp [toksC_append, toksC, bys]; omega), trivial⟩
      ·conv => whnf
       repeat ((first | (refine Or.inl ⟨⟨rfl, ?_⟩, ?_⟩; (focus (first | rfl | (simp; done) | (rw [toksC_length]; omega)))) | refine ⟨rfl, ?_⟩ | refine ⟨_, rfl, ?_⟩ | refine ⟨⟨rfl, rfl⟩, ?_⟩); conv => whnf)
       refine ⟨⟨rfl, rfl, by rw [toksC_length]; omega, by simp [limB]; omega⟩, ?_⟩
       conv => whnf
       repeat ((first | refine ifB_t ?_ | refine ifB_f ?_); conv => whnf)
       conv => whnf
       repeat ((refine ⟨⟨rfl, rfl, ?_⟩, ?_⟩; (focus (first | exact Nat.le_of_ble_eq_true rfl | (simp; done)))); conv => whnf)
       refine ⟨(⟨X + n, l ++ [⟨3, 0, (b.drop X).take n⟩], false⟩, 0), ⟨⟨⟨by simp only; omega, by simp; omega⟩, by first | omega | (simp only; omega), ?_⟩, weaker_of [(2, 3)] rfl rfl ?_ ?_⟩⟩
       ·simp [pGo, pPart, pMany, k0, k1, k2]; omega
       ·exact ⟨⟨rfl, rfl⟩, ⟨rfl, rfl⟩, leP_int rfl, trivial⟩
       ·exact ⟨⟨⟨rfl, rfl, pureL_bys _⟩, leP_int (by simp), ⟨rfl, rfl, by simp, rfl, nofun⟩, rfl, trivial⟩, lesP_toks (by simp [toksC_append, toksC, bys]; omega), trivial⟩
   conv => whnf
   repeat ((first | refine ifB_t ?_ | refine ifB_f ?_); conv => whnf)
   refine ifB_dec (fun k3 => ?_) (fun k3 => ?_)
   ·conv => whnf
    refine ⟨by kernel_rfl, ?_⟩
    by_cases hlt : b.length < X + n
    ·conv => whnf
     refine ⟨?_, ?_⟩
     ·conv => whnf
      repeat ((first | refine ⟨pureL_bys _, ?_⟩ | refine ⟨rfl, ?_⟩ | refine ⟨_, rfl, ?_⟩ | refine ⟨⟨rfl, rfl⟩, ?_⟩); conv => whnf)
      refine ⟨_, [.ro b.length (bys b), .int .i64 (X : Int), .top, .bool true], part_no b X n false hX (by omega) (by omega), ⟨by show (noHidL [AV.ro b.length (bys b), AV.int .i64 (X : Int), AV.top, AV.bool false] && noHidL [AV.int .i64 (n : Int)] && noHidL [AV.ro b.length (bys b), AV.int .i64 (X : Int), AV.top, AV.bool true] && noHidV (AV.ro 0 [])) = true; simp [noHidL, noHidV, noHidL_bys], rfl, rfl⟩, ?_⟩
      conv => whnf
      repeat ((first | (refine Or.inl ⟨⟨rfl, ?_⟩, ?_⟩; (focus (first | rfl | (simp; done) | (rw [toksC_length]; omega)))) | refine ⟨rfl, ?_⟩ | refine ⟨⟨rfl, rfl⟩, ?_⟩); conv => whnf)
      refine ⟨⟨rfl, rfl, by rw [toksC_length]; omega, by simp [limB]; omega⟩, ?_⟩
      conv => whnf
      repeat ((first | refine ifB_t ?_ | refine ifB_f ?_); conv => whnf)
      conv => whnf
      repeat ((refine ⟨⟨rfl, rfl, ?_⟩, ?_⟩; (focus (first | exact Nat.le_of_ble_eq_true rfl | (simp; done)))); conv => whnf)
      refine ⟨(⟨X, l ++ [⟨4, 0, []⟩], true⟩, 0), ⟨⟨⟨hX, by simp; omega⟩, by first | omega | (simp only; omega), ?_⟩, weaker_of [(2, 3)] rfl rfl ?_ ?_⟩⟩
      ·simp [pGo, pPart, pMany, k0, k1, k2, k3]; omega
      ·exact ⟨⟨rfl, rfl⟩, ⟨rfl, rfl⟩, leP_int rfl, trivial⟩
      ·exact ⟨⟨⟨rfl, rfl, pureL_bys _⟩, leP_int (by simp), ⟨rfl, rfl, by simp, rfl, nofun⟩, rfl, trivial⟩, lesP_toks (by simp [toksC_append, toksC, bys]), trivial⟩
     ·conv => whnf
      repeat ((first | refine ⟨pureL_bys _, ?_⟩ | refine ⟨rfl, ?_⟩ | refine ⟨⟨rfl, rfl⟩, ?_⟩); conv => whnf)
      refine ⟨_, [.ro b.length (bys b), .int .i64 (X : Int), .top, .bool true], part_no b X n false hX (by omega) (by omega), ⟨by show (noHidL [AV.ro b.length (bys b), AV.int .i64 (X : Int), AV.top, AV.bool false] && noHidL [AV.int .i64 (n : Int)] && noHidL [AV.ro b.length (bys b), AV.int .i64 (X : Int), AV.top, AV.bool true] && noHidV (AV.ro 0 [])) = true; simp [noHidL, noHidV, noHidL_bys], rfl, rfl⟩, ?_⟩
      conv => whnf
      refine ⟨?_, ?_⟩
      ·conv => whnf
       repeat ((first | (refine Or.inl ⟨⟨rfl, ?_⟩, ?_⟩; (focus (first | rfl | (simp; done) | (rw [toksC_length]; omega)))) | refine ⟨rfl, ?_⟩ | refine ⟨_, rfl, ?_⟩ | refine ⟨⟨rfl, rfl⟩, ?_⟩); conv => whnf)
       refine ⟨⟨rfl, rfl, by rw [toksC_length]; omega, by simp [limB]; omega⟩, ?_⟩
       conv => whnf
       repeat ((first | refine ifB_t ?_ | refine ifB_f ?_); conv => whnf)
       conv => whnf
       repeat ((refine ⟨⟨rfl, rfl, ?_⟩, ?_⟩; (focus (first | exact Nat.le_of_ble_eq_true rfl | (simp; done)))); conv => whnf)
       refine ⟨(⟨X, l ++ [⟨4, 0, []⟩], true⟩, 0), ⟨⟨⟨hX, by simp; omega⟩, by first | omega | (simp only; omega), ?_⟩, weaker_of [(2, 3)] rfl rfl ?_ ?_⟩⟩
       ·simp [pGo, pPart, pMany, k0, k1, k2, k3]; omega
       ·exact ⟨⟨rfl, rfl⟩, ⟨rfl, rfl⟩, leP_int rfl, trivial⟩
       ·exact ⟨⟨⟨rfl, rfl, pureL_bys _⟩, leP_int (by simp), ⟨rfl, rfl, by simp, rfl, nofun⟩, rfl, trivial⟩, lesP_toks (by simp [toksC_append, toksC, bys]), trivial⟩
      ·conv => whnf
       repeat ((first | (refine Or.inl ⟨⟨rfl, ?_⟩, ?_⟩; (focus (first | rfl | (simp; done) | (rw [toksC_length]; omega)))) | refine ⟨rfl, ?_⟩ | refine ⟨_, rfl, ?_⟩ | refine ⟨⟨rfl, rfl⟩, ?_⟩); conv => whnf)
       refine ⟨⟨rfl, rfl, by rw [toksC_length]; omega, by simp [limB]; omega⟩, ?_⟩
       conv => whnf
       repeat ((first | refine ifB_t ?_ | refine ifB_f ?_); conv => whnf)
       conv => whnf
       repeat ((refine ⟨⟨rfl, rfl, ?_⟩, ?_⟩; (focus (first | exact Nat.le_of_ble_eq_true rfl | (simp; done)))); conv => whnf)
       refine ⟨(⟨X, l ++ [⟨4, 0, []⟩], true⟩, 0), ⟨⟨⟨hX, by simp; omega⟩, by first | omega | (simp only; omega), ?_⟩, weaker_of [(2, 3)] rfl rfl ?_ ?_⟩⟩
       ·simp [pGo, pPart, pMany, k0, k1, k2, k3]; omega
       ·exact ⟨⟨rfl, rfl⟩, ⟨rfl, rfl⟩, leP_int rfl, trivial⟩
       ·exact ⟨⟨⟨rfl, rfl, pureL_bys _⟩, leP_int (by simp), ⟨rfl, rfl, by simp, rfl, nofun⟩, rfl, trivial⟩, lesP_toks (by simp [toksC_append, toksC, bys]), trivial⟩
    ·conv => whnf
     refine ⟨?_, ?_⟩
     ·conv => whnf
      repeat ((first | refine ⟨pureL_bys _, ?_⟩ | refine ⟨rfl, ?_⟩ | refine ⟨_, rfl, ?_⟩ | refine ⟨⟨rfl, rfl⟩, ?_⟩); conv => whnf)
      refine ⟨_, [.ro b.length (bys b), .int .i64 ((X : Int) + n), .top, .bool false], part_yes b X n false (by omega) (by omega), ⟨by show (noHidL [AV.ro b.length (bys b), AV.int .i64 (X : Int), AV.top, AV.bool false] && noHidL [AV.int .i64 (n : Int)] && noHidL [AV.ro b.length (bys b), AV.int .i64 ((X : Int) + n), AV.top, AV.bool false] && noHidV (AV.ro n (bys ((b.drop X).take n)))) = true; simp [noHidL, noHidV, noHidL_bys], rfl, rfl⟩, ?_⟩
      conv => whnf
      repeat ((first | (refine Or.inl ⟨⟨rfl, ?_⟩, ?_⟩; (focus (first | rfl | (simp; done) | (rw [toksC_length]; omega)))) | refine ⟨rfl, ?_⟩ | refine ⟨⟨rfl, rfl⟩, ?_⟩); conv => whnf)
      refine ⟨⟨rfl, rfl, by rw [toksC_length]; omega, by simp [limB]; omega⟩, ?_⟩
      conv => whnf
      repeat ((first | refine ifB_t ?_ | refine ifB_f ?_); conv => whnf)
      conv => whnf
      repeat ((refine ⟨⟨rfl, rfl, ?_⟩, ?_⟩; (focus (first | exact Nat.le_of_ble_eq_true rfl | (simp; done)))); conv => whnf)
      refine ⟨(⟨X + n, l ++ [⟨4, 0, (b.drop X).take n⟩], false⟩, 0), ⟨⟨⟨by simp only; omega, by simp; omega⟩, by first | omega | (simp only; omega), ?_⟩, weaker_of [(2, 3)] rfl rfl ?_ ?_⟩⟩
      ·simp [pGo, pPart, pMany, k0, k1, k2, k3]; omega
      ·exact ⟨⟨rfl, rfl⟩, ⟨rfl, rfl⟩, leP_int rfl, trivial⟩
      ·exact ⟨⟨⟨rfl, rfl, pureL_bys _⟩, leP_int (by simp), ⟨rfl, rfl, by simp, rfl, nofun⟩, rfl, trivial⟩, lesP_toks (by simp [toksC_append, toksC, bys]; omega), trivial⟩
     ·conv => whnf
      repeat ((first | refine ⟨pureL_bys _, ?_⟩ | refine ⟨rfl, ?_⟩ | refine ⟨⟨rfl, rfl⟩, ?_⟩); conv => whnf)
      refine ⟨_, [.ro b.length (bys b), .int .i64 ((X : Int) + n), .top, .bool false], part_yes b X n false (by omega) (by omega), ⟨by show (noHidL [AV.ro b.length (bys b), AV.int .i64 (X : Int), AV.top, AV.bool false] && noHidL [AV.int .i64 (n : Int)] && noHidL [AV.ro b.length (bys b), AV.int .i64 ((X : Int) + n), AV.top, AV.bool false] && noHidV (AV.ro n (bys ((b.drop X).take n)))) = true; simp [noHidL, noHidV, noHidL_bys], rfl, rfl⟩, ?_⟩
      conv => whnf
      refine ⟨?_, ?_⟩
      ·conv => whnf
       repeat ((first | (refine Or.inl ⟨⟨rfl, ?_⟩, ?_⟩; (focus (first | rfl | (simp; done) | (rw [toksC_length]; omega)))) | refine ⟨rfl, ?_⟩ | refine ⟨_, rfl, ?_⟩ | refine ⟨⟨rfl, rfl⟩, ?_⟩); conv => whnf)
       refine ⟨⟨rfl, rfl, by rw [toksC_length]; omega, by simp [limB]; omega⟩, ?_⟩
       conv => whnf
       repeat ((first | refine ifB_t ?_ | refine ifB_f ?_); conv => whnf)
       conv => whnf
       repeat ((refine ⟨⟨rfl, rfl, ?_⟩, ?_⟩; (focus (first | exact Nat.le_of_ble_eq_true rfl | (simp; done)))); conv => whnf)
       refine ⟨(⟨X + n, l ++ [⟨4, 0, (b.drop X).take n⟩], false⟩, 0), ⟨⟨⟨by simp only; omega, by simp; omega⟩, by first | omega | (simp only; omega), ?_⟩, weaker_of [(2, 3)] rfl rfl ?_ ?_⟩⟩
       ·simp [pGo, pPart, pMany, k0, k1, k2, k3]; omega
       ·exact ⟨⟨rfl, rfl⟩, ⟨rfl, rfl⟩, leP_int rfl, trivial⟩
       ·exact ⟨⟨⟨rfl, rfl, pureL_bys _⟩, leP_int (by simp), ⟨rfl, rfl, by simp, rfl, nofun⟩, rfl, trivial⟩, lesP_toks (by simp [toksC_append, toksC, bys]; omega), trivial⟩
      ·conv => whnf
       repeat ((first | (refine Or.inl ⟨⟨rfl, ?_⟩, ?_⟩; (focus (first | rfl | (simp; done) | (rw [toksC_length]; omega)))) | refine ⟨rfl, ?_⟩ | refine ⟨_, rfl, ?_⟩ | refine ⟨⟨rfl, rfl⟩, ?_⟩); conv => whnf)
       refine ⟨⟨rfl, rfl, by rw [toksC_length]; omega, by simp [limB]; omega⟩, ?_⟩
       conv => whnf
       repeat ((first | refine ifB_t ?_ | refine ifB_f ?_); conv => whnf)
       conv => whnf
       repeat ((refine ⟨⟨rfl, rfl, ?_⟩, ?_⟩; (focus (first | exact Nat.le_of_ble_eq_true rfl | (simp; done)))); conv => whnf)
       refine ⟨(⟨X + n, l ++ [⟨4, 0, (b.drop X).take n⟩], false⟩, 0), ⟨⟨⟨by simp only; omega, by simp; omega⟩, by first | omega | (simp only; omega), ?_⟩, weaker_of [(2, 3)] rfl rfl ?_ ?_⟩⟩
       ·simp [pGo, pPart, pMany, k0, k1, k2, k3]; omega
       ·exact ⟨⟨rfl, rfl⟩, ⟨rfl, rfl⟩, leP_int rfl, trivial⟩
       ·exact ⟨⟨⟨rfl, rfl, pureL_bys _⟩, leP_int (by simp), ⟨rfl, rfl, by simp, rfl, nofun⟩, rfl, trivial⟩, lesP_toks (by simp [toksC_append, toksC, bys]; omega), trivial⟩
   conv => whnf
   repeat ((first | refine ifB_t ?_ | refine ifB_f ?_); conv => whnf)
   refine ifB_dec (fun k4 => ?_) (fun k4 => ?_)
   ·conv => whnf
    repeat ((first | (refine Or.inl ⟨⟨rfl, ?_⟩, ?_⟩; (focus (first | rfl | (simp; done) | (rw [toksC_length]; omega)))) | refine ⟨rfl, ?_⟩ | refine ⟨_, rfl, ?_⟩ | refine ⟨⟨rfl, rfl⟩, ?_⟩); conv => whnf)
    refine ⟨⟨rfl, rfl, by rw [toksC_length]; omega, by simp [limB]; omega⟩, ?_⟩
    conv => whnf
    repeat ((first | refine ifB_t ?_ | refine ifB_f ?_); conv => whnf)
    conv => whnf
    repeat ((refine ⟨⟨rfl, rfl, ?_⟩, ?_⟩; (focus (first | exact Nat.le_of_ble_eq_true rfl | (simp; done)))); conv => whnf)
    refine ⟨(⟨X, l ++ [⟨5, (n : Int), []⟩], false⟩, n), ⟨⟨⟨hX, by simp; omega⟩, by first | omega | (simp only; omega), ?_⟩, weaker_of [(2, 3)] rfl rfl ?_ ?_⟩⟩
    ·simp [pGo, k0, k1, k2, k3, k4]
    ·exact ⟨⟨rfl, rfl⟩, ⟨rfl, rfl⟩, leP_int rfl, trivial⟩
    ·exact ⟨⟨⟨rfl, rfl, pureL_bys _⟩, leP_int (by simp), ⟨rfl, rfl, by simp, rfl, nofun⟩, rfl, trivial⟩, lesP_toks_nil, trivial⟩
   conv => whnf
   repeat ((first | refine ifB_t ?_ | refine ifB_f ?_); conv => whnf)
   refine ifB_dec (fun k5 => ?_) (fun k5 => ?_)
   ·conv => whnf
    repeat ((first | (refine Or.inl ⟨⟨rfl, ?_⟩, ?_⟩; (focus (first | rfl | (simp; done) | (rw [toksC_length]; omega)))) | refine ⟨rfl, ?_⟩ | refine ⟨_, rfl, ?_⟩ | refine ⟨⟨rfl, rfl⟩, ?_⟩); conv => whnf)
    refine ⟨⟨rfl, rfl, by rw [toksC_length]; omega, by simp [limB]; omega⟩, ?_⟩
    conv => whnf
    repeat ((first | refine ifB_t ?_ | refine ifB_f ?_); conv => whnf)
    conv => whnf
    repeat ((first | (refine fit_i64 ⟨by first | omega | rfl | (dsimp only; omega), by first | omega | rfl | (dsimp only; omega)⟩ ?_) | (refine ⟨⟨rfl, rfl, ?_⟩, ?_⟩; (focus (first | exact Nat.le_of_ble_eq_true rfl | (simp; done))))); conv => whnf)
    refine ⟨(⟨X, l ++ [⟨6, (n : Int), []⟩], false⟩, (2 * min (n : Int) 65).toNat), ⟨⟨⟨hX, by simp; omega⟩, by first | omega | (simp only; omega), ?_⟩, weaker_of [(2, 3)] rfl rfl ?_ ?_⟩⟩
    ·simp [pGo, k0, k1, k2, k3, k4, k5]
    ·exact ⟨⟨rfl, rfl⟩, ⟨rfl, rfl⟩, leP_int (by simp; omega), trivial⟩
    ·exact ⟨⟨⟨rfl, rfl, pureL_bys _⟩, leP_int (by simp), ⟨rfl, rfl, by simp, rfl, nofun⟩, rfl, trivial⟩, lesP_toks_nil, trivial⟩
   conv => whnf
   repeat ((first | refine ifB_t ?_ | refine ifB_f ?_); conv => whnf)
   conv => whnf
   repeat ((refine ⟨⟨rfl, rfl, ?_⟩, ?_⟩; (focus (first | exact Nat.le_of_ble_eq_true rfl | (simp; done)))); conv => whnf)
   refine ⟨(⟨X, l, true⟩, 0), ⟨⟨⟨hX, by simp; omega⟩, by first | omega | (simp only; omega), ?_⟩, weaker_of [(2, 0)] rfl rfl ?_ ?_⟩⟩
   ·simp [pGo, pMany, k0, k1, k2, k3, k4, k5]
   ·exact ⟨⟨rfl, rfl⟩, ⟨rfl, rfl⟩, leP_int rfl, trivial⟩
   ·exact ⟨⟨⟨rfl, rfl, pureL_bys _⟩, leP_int (by simp), ⟨rfl, rfl, by simp, rfl, nofun⟩, rfl, trivial⟩, lesP_toks rfl, trivial⟩
  ·rintro ⟨p, N⟩ ⟨hp, hN, hfin⟩
   simp only at hp hN hfin
   refine wpc_sound (M := MC) (PL := PLpi) (CU := noCut) TTok mixed _ _ _ ?_
   conv => whnf
   refine Does.loop (fun q : Nat × Pa => mkSt [(0, .ptr 1 0), (1, .int .i64 (7 - (f : Int))), (8, .int .i64 (N : Int)), (9, .int .i64 (q.1 : Int))]
    [(1, [.ro b.length (bys b), .int .i64 (q.2.at' : Int), .sl 2 0 q.2.l.length 3 false, .bool q.2.bad]), (2, toksC q.2.l)] 3 157)
    (fun q => q.1 ≤ N ∧ PInv b q.2 ∧ pMany (pItem b f) (N - q.1) q.2 = pGo b (pItem b f) M (n : Int) X l) (fun q => N - q.1) ?_ (0, p) ⟨Nat.zero_le _, hp, hfin⟩ ?_
   ·rintro ⟨c, p⟩ ⟨p1, p2, p3⟩
    simp only at p1 p2 p3
    obtain ⟨a, o, bd⟩ := p
    refine wpc_sound (M := MC) (PL := PLpi) (CU := noCut) TTok mixed _ _ _ ?_
    conv => whnf
    refine ifB_dec (fun k1 => ?_) (fun k1 => ?_)
    ·simp only at k1
     cases bd
     ·conv => whnf
      repeat ((first | refine ifB_t ?_ | (refine fit_i64 ⟨by first | omega | rfl | (dsimp only; omega), by first | omega | rfl | (dsimp only; omega)⟩ ?_) | refine ⟨pureL_bys _, ?_⟩ | refine ⟨rfl, ?_⟩ | refine ⟨_, rfl, ?_⟩ | (refine ⟨⟨rfl, rfl, ?_, pureL_toks _⟩, ?_⟩; (focus (rw [toksC_length]; omega)))); conv => whnf)
      refine ⟨_, _, hi' ⟨a, o, false⟩ p2, by first | rfl | simp [noRoIf, noRoL, noRoV, noRoL_bys], ?_⟩
      conv => whnf
      repeat ((refine fit_i64 ⟨by first | omega | rfl | (dsimp only; omega), by first | omega | rfl | (dsimp only; omega)⟩ ?_); conv => whnf)
      refine ⟨(c + 1, pItem b f ⟨a, o, false⟩), ⟨by simp only; omega, pItem_inv b hb f _ p2, ?_⟩, by simp only; omega, weaker_of [(2, 3)] rfl rfl ?_ ?_⟩
      ·rw [← p3]
       obtain ⟨m, hm⟩ : ∃ m, N - c = m + 1 := ⟨N - c - 1, by omega⟩
       simp only
       rw [hm, show N - (c + 1) = m by omega]
       simp [pMany]
      ·exact ⟨⟨rfl, rfl⟩, ⟨rfl, rfl⟩, ⟨rfl, rfl⟩, ⟨rfl, rfl⟩, trivial⟩
      ·exact ⟨⟨⟨rfl, rfl, pureL_bys _⟩, ⟨rfl, rfl⟩, ⟨rfl, rfl, rfl, rfl, id⟩, rfl, trivial⟩, lesP_toks rfl, trivial⟩
     ·have hfin : pGo b (pItem b f) M (n : Int) X l = ⟨a, o, true⟩ := by
       rw [← p3]
       obtain ⟨m, hm⟩ : ∃ m, N - c = m + 1 := ⟨N - c - 1, by omega⟩
       rw [hm]
       simp [pMany]
      rw [hfin]
      conv => whnf
      repeat ((first | refine ifB_t ?_ | refine ifB_f ?_ | refine ⟨rfl, ?_⟩ | refine ⟨_, rfl, ?_⟩ | refine ⟨⟨rfl, rfl⟩, ?_⟩ | (refine ⟨⟨rfl, rfl, rfl, ?_, pureL_toks _⟩, ?_⟩; (focus (rw [toksC_length]; omega))) | (refine ⟨⟨rfl, rfl, ?_⟩, ?_⟩; (focus (first | assumption | exact pureL_bys _ | exact pureL_toks _)))); conv => whnf)
      rfl
    ·simp only at k1
     have hfin : pGo b (pItem b f) M (n : Int) X l = ⟨a, o, bd⟩ := by
      rw [← p3, show N - c = 0 by omega]
      rfl
     rw [hfin]
     conv => whnf
     repeat ((first | refine ifB_f ?_ | refine ⟨rfl, ?_⟩ | refine ⟨⟨rfl, rfl⟩, ?_⟩ | (refine ⟨⟨rfl, rfl, rfl, ?_, pureL_toks _⟩, ?_⟩; (focus (rw [toksC_length]; omega))) | (refine ⟨⟨rfl, rfl, ?_⟩, ?_⟩; (focus (first | assumption | exact pureL_bys _ | exact pureL_toks _)))); conv => whnf)
     rfl
   ·refine weaker_of [(2, 2)] rfl rfl ?_ ?_
    ·exact ⟨⟨rfl, rfl⟩, ⟨rfl, rfl⟩, ⟨rfl, rfl⟩, ⟨rfl, rfl⟩, trivial⟩
    ·exact ⟨⟨⟨rfl, rfl, pureL_bys _⟩, ⟨rfl, rfl⟩, ⟨rfl, rfl, rfl, rfl, id⟩, rfl, trivial⟩, lesP_toks rfl, trivial⟩
end
section

attribute [local irreducible] ifB fitP Does Weaker
theorem pItem_ok (b : List Int) (hb : Byt b) (hbl : b.length ≤ 32768) : ∀ f : Nat, f ≤ 7 → PItemOk b f
 | 0, _ => by
  intro p hat hl
  exact pItem_bad b hb hbl p hat hl _ (.inr (by simp))
 | f + 1, hf => by
  intro p hat hl
  unfold pItem
  by_cases h : pBad b p
  ·rw [if_pos h]
   exact pItem_bad b hb hbl p hat hl _ (.inl h)
  ·rw [if_neg h]
   have e : 8 - ((f + 1 : Nat) : Int) = 7 - f := by omega
   rw [e]
   obtain ⟨at', l, bad⟩ := p
   simp only [pBad, not_or, Bool.not_eq_true] at h
   obtain ⟨h1, h2, h3⟩ := h
   subst h1
   exact pItem_go b hb hbl f (by omega) (pItem_ok b hb hbl f (by omega)) at' l hat (by simpa using h3) (by simpa using h2)
theorem encR_byt (l : List Tok) (hl : ToksOk l) : Byt (encR validR l).1 := by
 unfold encR
 split
 ·simp [Byt]
 split
 ·simp [Byt]
 ·exact wItem_byt _ _ hl _ _ (by simp [Byt])
def POk (b : List Int) (p : Pa) : Prop := ToksOk p.l ∧ ∀ t ∈ p.l, t.b.length ≤ b.length
theorem pok_snoc {b : List Int} {l : List Tok} {x : Nat} {bd : Bool} {t : Tok} (h : ToksOk l ∧ ∀ t ∈ l, t.b.length ≤ b.length) (ht : TokOk t) (hb : t.b.length ≤ b.length) : POk b ⟨x, l ++ [t], bd⟩ := by
 constructor
 ·intro s hs
  rcases List.mem_append.1 hs with hs | hs
  ·exact h.1 s hs
  ·simp at hs; subst hs; exact ht
 ·intro s hs
  rcases List.mem_append.1 hs with hs | hs
  ·exact h.2 s hs
  ·simp at hs; subst hs; exact hb
theorem pMany_ok (b : List Int) (g : Pa → Pa) (hg : ∀ p, POk b p → POk b (g p)) : ∀ (n : Nat) (p : Pa), POk b p → POk b (pMany g n p)
 | 0, p, h => h
 | n + 1, p, h => by
  unfold pMany
  split
  ·exact h
  ·exact pMany_ok b g hg n _ (hg p h)
theorem byt_sub {b : List Int} (hb : Byt b) (x n : Nat) : Byt ((b.drop x).take n) := fun y hy => hb y (List.mem_of_mem_drop (List.mem_of_mem_take hy))
theorem pPart_ok (b : List Int) (hb : Byt b) (k n : Int) (hk : 0 ≤ k ∧ k < 10) (next : Nat) (l : List Tok) (h : ToksOk l ∧ ∀ t ∈ l, t.b.length ≤ b.length) : POk b (pPart b k n next l) := by
 unfold pPart
 split
 ·exact pok_snoc h ⟨by simp only; omega, by simp only; omega, by simp [Byt]⟩ (by simp)
 ·exact pok_snoc h ⟨by simp only; omega, by simp only; omega, byt_sub hb _ _⟩ (by simp; omega)
theorem pGo_ok (b : List Int) (hb : Byt b) (g : Pa → Pa) (hg : ∀ p, POk b p → POk b (g p)) (m n : Int) (hn : 0 ≤ n ∧ n ≤ 9223372036854775807) (next : Nat) (l : List Tok) (h : ToksOk l ∧ ∀ t ∈ l, t.b.length ≤ b.length) : POk b (pGo b g m n next l) := by
 have key : ∀ k : Int, 0 ≤ k → k < 10 → POk b ⟨next, l ++ [⟨k, n, []⟩], false⟩ := fun k h1 h2 => pok_snoc h ⟨by simp only; omega, by simp only; omega, by simp [Byt]⟩ (by simp)
 unfold pGo
 split
 ·exact key 1 (by omega) (by omega)
 split
 ·exact key 2 (by omega) (by omega)
 split
 ·exact pPart_ok b hb _ n (by omega) next l h
 split
 ·exact pPart_ok b hb _ n (by omega) next l h
 split
 ·exact pMany_ok b g hg _ _ (key 5 (by omega) (by omega))
 split
 ·exact pMany_ok b g hg _ _ (key 6 (by omega) (by omega))
 ·exact h
theorem pItem_toks (b : List Int) (hb : Byt b) : ∀ (f : Nat) (p : Pa), POk b p → POk b (pItem b f p)
 | 0, p, h => h
 | f + 1, p, h => by
  unfold pItem
  split
  ·exact h
  ·rename_i hh
   simp only [pBad, not_or] at hh
   obtain ⟨M, n, X, e, _, hn, hX, _⟩ := getR_right b hb p.at' (by omega)
   rw [e]
   exact pGo_ok b hb _ (fun p hp => pItem_toks b hb f p hp) _ _ hn _ _ h
def decR (u : List Int → Bool) (b : List Int) : List Tok × Int :=
 if 32768 < b.length then ([], 3)
 else if (pItem b 7 ⟨0, [], false⟩).bad || decide ((pItem b 7 ⟨0, [], false⟩).at' ≠ b.length) then ([], 3)
 else if (encR u (pItem b 7 ⟨0, [], false⟩).l).2 ≠ 0 ∨ (encR u (pItem b 7 ⟨0, [], false⟩).l).1 ≠ b then ([], 3)
 else ((pItem b 7 ⟨0, [], false⟩).l, 0)
theorem bequal_ok (x y : List Int) (hx : Byt x) (hy : Byt y) : ACall Tryd.prog 100 [.ro x.length (bys x), .ro y.length (bys y)] (.bool (decide (x = y))) [] := by
 refine ACall.of_does TTok Tryd.func100 rfl Tryd.call100 rfl (wpc_sound (M := MC) (PL := PL0) (CU := noCut) TTok mixed _ _ _ ?_)
 conv => whnf
 refine ⟨by simp, ?_⟩
 conv => whnf
 repeat ((first | refine ifB_t ?_ | refine ifB_f ?_); conv => whnf)
 refine ⟨x, ⟨rfl, hx⟩, ?_⟩
 conv => whnf
 repeat ((first | refine ifB_t ?_ | refine ifB_f ?_); conv => whnf)
 conv => whnf
 refine ⟨by simp, ?_⟩
 conv => whnf
 repeat ((first | refine ifB_t ?_ | refine ifB_f ?_); conv => whnf)
 refine ⟨y, ⟨rfl, hy⟩, ?_⟩
 conv => whnf
 repeat ((refine ⟨rfl, ?_⟩); conv => whnf)
 rfl
theorem decode_ok (b : List Int) (hb : Byt b) (hbl : b.length ≤ 1099511627776) : ACall Tryd.prog 80 [.ro b.length (bys b)]
  (.tuple [.own (decR validR b).1.length 3 (toksC (decR validR b).1), .int .i64 (decR validR b).2]) [] := by
 refine ACall.of_does TTok Tryd.func80 rfl Tryd.call80 rfl (wpc_sound (M := MC) (PL := PL0) (CU := noCut) TTok mixed _ _ _ ?_)
 unfold decR
 conv => whnf
 refine ifB_dec (fun k1 => ?_) (fun k1 => ?_)
 ·rw [if_pos (by omega)]
  conv => whnf
  repeat ((refine ⟨⟨rfl, rfl⟩, ?_⟩); conv => whnf)
  rfl
 rw [if_neg (by omega)]
 have hi := pItem_ok b hb (by omega) 7 (by omega) ⟨0, [], false⟩ (by simp) (by simp)
 have hinv := pItem_inv b hb 7 ⟨0, [], false⟩ ⟨by simp, by simp⟩
 have htk := pItem_toks b hb 7 ⟨0, [], false⟩ ⟨by simp [ToksOk], by simp⟩
 obtain ⟨p, hp⟩ : ∃ p, p = pItem b 7 ⟨0, [], false⟩ := ⟨_, rfl⟩
 rw [← hp] at hi hinv htk ⊢
 rw [show (8 : Int) - ((7 : Nat) : Int) = 1 from rfl] at hi
 obtain ⟨pa, pl, pb⟩ := p
 have hen := encode_ok pl htk.1 (fun t ht => by have := htk.2 t ht; omega)
 have heb := encR_byt pl htk.1
 have heq := bequal_ok (encR validR pl).1 b heb hb
 conv => whnf
 repeat ((first | refine ⟨pureL_bys _, ?_⟩ | refine ⟨rfl, ?_⟩); conv => whnf)
 refine ⟨_, _, hi, by first | rfl | simp [noRoIf, noRoL, noRoV, noRoL_bys], ?_⟩
 conv => whnf
 repeat ((refine ⟨_, rfl, ?_⟩); conv => whnf)
 cases pb
 ·conv => whnf
  repeat ((first | refine ifB_f ?_ | refine ⟨_, rfl, ?_⟩); conv => whnf)
  refine ifB_dec (fun k2 => ?_) (fun k2 => ?_)
  ·simp only at k2
   rw [if_pos (by simp; omega)]
   conv => whnf
   repeat ((refine ⟨⟨rfl, rfl⟩, ?_⟩); conv => whnf)
   rfl
  simp only at k2
  rw [if_neg (by simp; omega)]
  conv => whnf
  repeat ((first | (refine Or.inl ⟨⟨rfl, ?_⟩, ?_⟩; (focus (first | rfl | (simp; done) | (rw [toksC_length]; omega)))) | refine ⟨rfl, ?_⟩ | refine ⟨_, rfl, ?_⟩ | (refine And.intro ?_ ?_; (focus (first | (simp only [pureL, pureV, pureL_bys, Bool.and_true, Bool.and_self]; done) | (simp only [pureL, pureV, pureL_bys, pureL_toks, Bool.and_true, Bool.and_self]; done))))); conv => whnf)
  refine ⟨_, _, hen, by first | rfl | simp [noRoIf, noRoL, noRoV, noRoL_bys], ?_⟩
  conv => whnf
  refine ifB_dec (fun k3 => ?_) (fun k3 => ?_)
  ·simp only
   rw [if_pos (Or.inl k3)]
   conv => whnf
   repeat ((first | refine ifB_t ?_ | refine ⟨⟨rfl, rfl⟩, ?_⟩); conv => whnf)
   rfl
  conv => whnf
  repeat ((first | refine ifB_f ?_ | refine ⟨pureL_bys _, ?_⟩ | (refine Or.inl ⟨⟨rfl, ?_⟩, ?_⟩; (focus (first | rfl | (simp; done) | (rw [toksC_length]; omega)))) | refine ⟨rfl, ?_⟩); conv => whnf)
  refine ⟨_, _, heq, by first | rfl | simp [noRoIf, noRoL, noRoV, noRoL_bys], ?_⟩
  conv => whnf
  repeat ((refine ifB_f ?_); conv => whnf)
  by_cases k4 : (encR validR pl).1 = b
  ·simp only
   rw [if_neg (by simp [k4]; simpa using k3)]
   rw [decide_eq_true k4]
   conv => whnf
   repeat ((first | refine ifB_f ?_ | refine ⟨_, rfl, ?_⟩ | refine ⟨⟨rfl, rfl⟩, ?_⟩ | (refine ⟨⟨rfl, rfl, rfl, ?_, pureL_toks _⟩, ?_⟩; (focus (rw [toksC_length]; omega)))); conv => whnf)
   rfl
  ·simp only
   rw [if_pos (Or.inr k4)]
   rw [decide_eq_false k4]
   conv => whnf
   repeat ((first | refine ifB_t ?_ | refine ⟨⟨rfl, rfl⟩, ?_⟩); conv => whnf)
   rfl
 ·rw [if_pos (by simp)]
  conv => whnf
  repeat ((first | refine ifB_t ?_ | refine ⟨⟨rfl, rfl⟩, ?_⟩); conv => whnf)
  rfl
end
section

attribute [local irreducible] ifB fitP Does Weaker
end
section

attribute [local irreducible] ifB fitP Does Weaker
end
section

theorem putL_short (M : Int) {n : Int} (h : 0 ≤ n) : (putL M n).length ≤ 9 := by
 rw [putL_length]; have := (sizeR_le n h).1; omega
end
section

def phi (l : List Tok) (w : W) : Pa := ⟨w.out.length, l.take w.at', w.bad⟩
theorem wHead_ok {M n : Int} {w : W} (h : (wHead M n w).bad = false) (hM : 0 ≤ M ∧ M < 8) : 0 ≤ n ∧ wHead M n w = ⟨w.at', w.out ++ putL M n, false⟩ ∧ w.bad = false := by
 unfold wHead putS at h ⊢
 simp only [Bool.or_eq_false_iff, decide_eq_false_iff_not] at h
 obtain ⟨h1, h2⟩ := h
 split at h2
 ·exact absurd (by decide) h2
 ·rename_i h3
  refine ⟨by omega, ?_, h1⟩
  rw [if_neg h3]
  simp [h1]
theorem pItem_at {s : List Int} {w : W} {M n : Int} {L : List Tok} (f : Nat) (hM : 0 ≤ M) (hn : 0 ≤ n) (hn2 : n < 9223372036854775808) (hp : w.out ++ putL M n <+: s) (hL : L.length < 600) :
  pItem s (f + 1) ⟨w.out.length, L, false⟩ = pGo s (pItem s f) M n (w.out ++ putL M n).length L := by
 obtain ⟨q, rfl⟩ := hp
 have hg := getR_put w.out q M n hM hn hn2
 have hb : ¬ pBad (w.out ++ putL M n ++ q) ⟨w.out.length, L, false⟩ := by
  rintro (h | h | h)
  ·cases h
  ·exact h (congrArg (fun r => r.2.2.2) hg)
  ·simp at h; omega
 show (if pBad _ _ then _ else pGo (w.out ++ putL M n ++ q) (pItem _ f) (getR (w.out ++ putL M n ++ q) w.out.length).1 (getR (w.out ++ putL M n ++ q) w.out.length).2.1 (getR (w.out ++ putL M n ++ q) w.out.length).2.2.1.toNat L) = _
 rw [if_neg hb, hg]
 simp only [Int.toNat_natCast]
theorem take_tok {l : List Tok} {i : Nat} (h : i < l.length) : l.take (i + 1) = l.take i ++ [l[i]] := by
 rw [List.take_succ_eq_append_getElem h]
def Goes (l : List Tok) (s : List Int) (g : W → W) (h : Pa → Pa) : Prop := ∀ w, (g w).bad = false → (g w).out <+: s → h (phi l w) = phi l (g w)
theorem pMany_arr {l : List Tok} {s : List Int} {g : W → W} {h : Pa → Pa} (hg : Mono g) (H : Goes l s g h) : ∀ (n : Nat) (w : W), (wArr g n w).bad = false → (wArr g n w).out <+: s → pMany h n (phi l w) = phi l (wArr g n w)
 | 0, w, h1, h2 => rfl
 | n + 1, w, h1, h2 => by
  have hb := (wArr_mono g hg (n + 1) w h1).1
  have e : wArr g (n + 1) w = wArr g n (g w) := by rw [wArr, if_neg (by simp [hb])]
  rw [e] at h1 h2 ⊢
  obtain ⟨k1, k2⟩ := wArr_mono g hg n _ h1
  have e2 : pMany h (n + 1) (phi l w) = pMany h n (h (phi l w)) := by rw [pMany, if_neg (by simp [phi, hb])]
  rw [e2, H w k1 (k2.trans h2)]
  exact pMany_arr hg H n _ h1 h2
theorem pMany_map {l : List Tok} {s : List Int} {g : W → W} {h : Pa → Pa} (hg : Mono g) (H : Goes l s g h) : ∀ (n i a b : Nat) (w : W), (wMap g n i a b w).bad = false → (wMap g n i a b w).out <+: s → pMany h (2 * n) (phi l w) = phi l (wMap g n i a b w)
 | 0, _, _, _, w, h1, h2 => rfl
 | n + 1, i, a, b, w, h1, h2 => by
  have hb := (wMap_mono g hg (n + 1) i a b w h1).1
  have e : ∃ x y, wMap g (n + 1) i a b w = wMap g n (i + 1) x y (g (g w)) := by
   rw [wMap] at h1 ⊢
   rw [if_neg (by simp [hb])] at h1 ⊢
   split at h1
   ·simp at h1
   ·rename_i hc
    rw [if_neg hc]
    exact ⟨_, _, rfl⟩
  obtain ⟨x, y, e⟩ := e
  rw [e] at h1 h2 ⊢
  obtain ⟨k1, k2⟩ := wMap_mono g hg n _ _ _ _ h1
  obtain ⟨k3, k4⟩ := hg _ k1
  have e2 : pMany h (2 * (n + 1)) (phi l w) = pMany h (2 * n) (h (h (phi l w))) := by
   rw [show 2 * (n + 1) = 2 * n + 1 + 1 by omega, pMany, if_neg (by simp [phi, hb]), H w k3 (k4.trans (k2.trans h2)), pMany, if_neg (by simp [phi, k3])]
  rw [e2, H w k3 (k4.trans (k2.trans h2)), H (g w) k1 (k2.trans h2)]
  exact pMany_map hg H n _ _ _ _ h1 h2
theorem wBytes_ok {u : List Int → Bool} {t : Tok} {w : W} (h : (wBytes u t w).bad = false) : t.n = 0 ∧ (t.b.length : Int) ≤ 32768 ∧ (t.k = 4 → u t.b = true) ∧
  wBytes u t w = ⟨w.at', w.out ++ putL (if t.k = 4 then 3 else 2) t.b.length ++ t.b, false⟩ := by
 unfold wBytes at h ⊢
 split at h
 ·simp at h
 ·rename_i hh
  rw [if_neg hh]
  simp only [Bool.or_eq_true, not_or, decide_eq_true_eq, Bool.and_eq_true, not_and, Bool.not_eq_true'] at hh
  obtain ⟨⟨⟨h1, h2⟩, h3⟩, h4⟩ := hh
  obtain ⟨k1, k2, k3⟩ := wHead_ok h (by split <;> omega)
  rw [k2]
  refine ⟨by omega, by omega, fun e => ?_, by simp⟩
  have := h2 e
  simpa using this
theorem pItem_of_wItem (u : List Int → Bool) (l : List Tok) (hl : ToksOk l) (hn : l.length ≤ 600) (s : List Int) (f : Nat) : Goes l s (wItem u l f) (pItem s (f + 1)) := by
  intro w h hs
  have hw := (wItem_mono u l f w h).1
  obtain ⟨at', out, bad⟩ := w
  simp only at hw
  subst hw
  unfold wItem at h hs ⊢
  split at h
  ·simp at h
  rename_i hh
  rw [dif_neg hh] at hs ⊢
  simp only at hh h hs ⊢
  have hat : at' < l.length := by omega
  have hL : (l.take at').length < 600 := by rw [List.length_take]; omega
  obtain ⟨t, ht⟩ : ∃ t, t = l[at'] := ⟨_, rfl⟩
  have htk := hl _ (List.getElem_mem hat)
  have htt := take_tok hat
  rw [← ht] at h hs htk htt ⊢
  have num : ∀ (M : Int) (hM : 0 ≤ M ∧ M < 8), (wNumber M t ⟨at' + 1, out, false⟩).bad = false → (wNumber M t ⟨at' + 1, out, false⟩).out <+: s → t.b = [] ∧
    wNumber M t ⟨at' + 1, out, false⟩ = ⟨at' + 1, out ++ putL M t.n, false⟩ ∧ pItem s (f + 1) (phi l ⟨at', out, false⟩) = pGo s (pItem s f) M t.n (out ++ putL M t.n).length (l.take at') := by
   intro M hM h1 h2
   unfold wNumber at h1 h2 ⊢
   obtain ⟨k1, k2, k3⟩ := wHead_ok h1 hM
   rw [k2] at h2 ⊢
   simp only [Bool.false_or, decide_eq_false_iff_not] at k3
   refine ⟨List.length_eq_zero_iff.1 (by omega), rfl, ?_⟩
   exact pItem_at (w := ⟨at', out, false⟩) f hM.1 k1 htk.2.1.2 h2 hL
  have tok : ∀ k : Int, t.k = k → t.b = [] → t = ⟨k, t.n, []⟩ := by
   intro k h1 h2
   obtain ⟨a, b, c⟩ := t
   simp only at h1 h2
   rw [h1, h2]
  split at h
  ·rename_i k
   rw [if_pos k] at hs ⊢
   obtain ⟨e1, e2, e3⟩ := num 0 (by omega) h hs
   rw [e2, e3]
   unfold pGo
   rw [if_pos rfl]
   simp only [phi, htt]
   rw [tok 1 k e1]
  rename_i k1; rw [if_neg k1] at hs ⊢
  split at h
  ·rename_i k
   rw [if_pos k] at hs ⊢
   obtain ⟨e1, e2, e3⟩ := num 1 (by omega) h hs
   rw [e2, e3]
   unfold pGo
   rw [if_neg (by omega), if_pos rfl]
   simp only [phi, htt]
   rw [tok 2 k e1]
  rename_i k2; rw [if_neg k2] at hs ⊢
  split at h
  ·rename_i k
   rw [if_pos k] at hs ⊢
   obtain ⟨e1, e2, e3, e4⟩ := wBytes_ok h
   rw [e4] at hs ⊢
   simp only at hs
   have hp := pItem_at (w := ⟨at', out, false⟩) f (M := if t.k = 4 then 3 else 2) (n := t.b.length) (L := l.take at') (by split <;> omega) (by omega) (by omega) ((List.prefix_append _ _).trans hs) hL
   have hp' : pItem s (f + 1) (phi l ⟨at', out, false⟩) = _ := hp
   rw [hp']
   obtain ⟨q, hq⟩ := hs
   have part : ∀ M : Int, t.k = M → pPart s M t.b.length (out ++ putL (if t.k = 4 then 3 else 2) t.b.length).length (l.take at') = phi l ⟨at' + 1, out ++ putL (if t.k = 4 then 3 else 2) t.b.length ++ t.b, false⟩ := by
    intro M hM
    unfold pPart
    rw [if_neg (by rw [← hq]; simp only [List.length_append]; omega)]
    simp only [phi, htt]
    have : (s.drop (out ++ putL (if t.k = 4 then 3 else 2) t.b.length).length).take (t.b.length : Int).toNat = t.b := by
     rw [← hq, List.append_assoc _ t.b q, List.drop_left, Int.toNat_natCast, List.take_left]
    rw [this]
    have et : (⟨M, 0, t.b⟩ : Tok) = t := by
     obtain ⟨a, b, c⟩ := t
     simp only at e1 hM ⊢
     rw [e1, hM]
    rw [et]
    congr 1
    simp
    omega
   rcases k with k | k
   ·have e : (if t.k = 4 then (3 : Int) else 2) = 2 := by rw [if_neg (by omega)]
    rw [← part 3 k]
    simp only [e]
    unfold pGo
    rw [if_neg (by omega), if_neg (by omega), if_pos rfl]
   ·have e : (if t.k = 4 then (3 : Int) else 2) = 3 := by rw [if_pos k]
    rw [← part 4 k]
    simp only [e]
    unfold pGo
    rw [if_neg (by omega), if_neg (by omega), if_neg (by omega), if_pos rfl]
  rename_i k3; rw [if_neg k3] at hs ⊢
  split at h
  ·rename_i k
   rw [if_pos k] at hs ⊢
   cases f with
   | zero => simp at h
   | succ f =>
    simp only at h hs ⊢
    split at h
    ·simp at h
    rename_i k4
    rw [if_neg k4] at hs ⊢
    have ih := pItem_of_wItem u l hl hn s f
    have hm : t.b = [] ∧ 0 ≤ t.n ∧ t.n ≤ 64 := by
     simp only [wManyBad, Bool.or_eq_true, not_or, decide_eq_true_eq] at k4
     exact ⟨List.length_eq_zero_iff.1 (by omega), by omega, by omega⟩
    split at h
    ·rename_i k5
     rw [if_pos k5] at hs ⊢
     obtain ⟨j1, j2⟩ := wArr_mono _ (wItem_mono u l f) _ _ h
     obtain ⟨i1, i2, i3⟩ := wHead_ok j1 (by omega)
     have hp := pItem_at (w := ⟨at', out, false⟩) (f + 1) (M := 4) (n := t.n) (L := l.take at') (by omega) i1 htk.2.1.2 (by have := j2.trans hs; rw [i2] at this; exact this) hL
     have hp' : pItem s (f + 1 + 1) (phi l ⟨at', out, false⟩) = _ := hp
     rw [hp', ← pMany_arr (wItem_mono u l f) ih _ _ h hs, i2]
     unfold pGo
     rw [if_neg (by omega), if_neg (by omega), if_neg (by omega), if_neg (by omega), if_pos rfl]
     simp only [phi, htt]
     rw [tok 5 k5 hm.1]
    ·rename_i k5
     rw [if_neg k5] at hs ⊢
     have k6 : t.k = 6 := by omega
     obtain ⟨j1, j2⟩ := wMap_mono _ (wItem_mono u l f) _ _ _ _ _ h
     obtain ⟨i1, i2, i3⟩ := wHead_ok j1 (by omega)
     have hp := pItem_at (w := ⟨at', out, false⟩) (f + 1) (M := 5) (n := t.n) (L := l.take at') (by omega) i1 htk.2.1.2 (by have := j2.trans hs; rw [i2] at this; exact this) hL
     have hp' : pItem s (f + 1 + 1) (phi l ⟨at', out, false⟩) = _ := hp
     rw [hp', ← pMany_map (wItem_mono u l f) ih _ _ _ _ _ h hs, i2]
     unfold pGo
     rw [if_neg (by omega), if_neg (by omega), if_neg (by omega), if_neg (by omega), if_neg (by omega), if_pos rfl]
     simp only [phi, htt]
     rw [tok 6 k6 hm.1, show (2 * min t.n 65).toNat = 2 * t.n.toNat by omega]
  ·simp at h
theorem encR_yes {u : List Int → Bool} {l : List Tok} {a : List Int} (h : encR u l = (a, 0)) : l.length ≤ 600 ∧ wItem u l 6 ⟨0, [], false⟩ = ⟨l.length, a, false⟩ ∧ a.length ≤ 32768 := by
 unfold encR at h
 split at h
 ·cases h
 split at h
 ·cases h
 rename_i h1 h2
 simp only [Bool.or_eq_true, decide_eq_true_eq, not_or, Bool.not_eq_true] at h2
 obtain ⟨⟨h3, h4⟩, h5⟩ := h2
 have e := congrArg Prod.fst h
 simp only at e
 refine ⟨by omega, ?_, by rw [← e]; omega⟩
 have h4 := Classical.not_not.1 h4
 generalize wItem u l 6 ⟨0, [], false⟩ = w at *
 obtain ⟨x, y, z⟩ := w
 simp only at h3 h4 e
 rw [h3, h4, e]
theorem encR_or (u : List Int → Bool) (l : List Tok) : encR u l = ([], 1) ∨ ∃ a, encR u l = (a, 0) := by
 unfold encR
 split
 ·exact .inl rfl
 split
 ·exact .inl rfl
 ·exact .inr ⟨_, rfl⟩
theorem pItem_enc {u : List Int → Bool} {l : List Tok} {a : List Int} (hl : ToksOk l) (h : encR u l = (a, 0)) (q : List Int) : pItem (a ++ q) 7 ⟨0, [], false⟩ = ⟨a.length, l, false⟩ := by
 obtain ⟨h1, h2, h3⟩ := encR_yes h
 have := pItem_of_wItem u l hl h1 (a ++ q) 6 ⟨0, [], false⟩ (by rw [h2]) (by rw [h2]; exact List.prefix_append _ _)
 rw [h2] at this
 simpa [phi] using this
theorem decR_enc {u : List Int → Bool} {l : List Tok} {a : List Int} (hl : ToksOk l) (h : encR u l = (a, 0)) : decR u a = (l, 0) := by
 have hi := pItem_enc hl h []
 rw [List.append_nil] at hi
 have := encR_yes h
 unfold decR
 rw [if_neg (by omega), hi]
 simp [h]
theorem decR_or (u : List Int → Bool) (b : List Int) : decR u b = ([], 3) ∨ ∃ l, decR u b = (l, 0) ∧ encR u l = (b, 0) ∧ pItem b 7 ⟨0, [], false⟩ = ⟨b.length, l, false⟩ := by
 unfold decR
 split
 ·exact .inl rfl
 split
 ·exact .inl rfl
 split
 ·exact .inl rfl
 ·rename_i h1 h2 h3
  refine .inr ⟨_, rfl, ?_, ?_⟩
  ·have h4 := Classical.not_not.1 (fun e => h3 (.inl e))
   have h5 := Classical.not_not.1 (fun e => h3 (.inr e))
   exact Prod.ext h5 h4
  ·simp only [Bool.or_eq_true, decide_eq_true_eq, not_or, Bool.not_eq_true] at h2
   obtain ⟨h4, h5⟩ := h2
   have h5 := Classical.not_not.1 h5
   generalize pItem b 7 ⟨0, [], false⟩ = p at *
   obtain ⟨x, y, z⟩ := p
   simp only at h4 h5
   rw [h4, h5]
end
section

def TyF (R : TypeId → List AV → Prop) : List (Nat × TypeId) → List (List AV) → Prop
 | [], ys => ys = []
 | f :: fs, ys => ∃ y r, ys = y :: r ∧ R f.2 y ∧ TyF R fs r
def TyL (T : Types) : Nat → TypeId → List AV → Prop
 | 0, _, _ => False
 | n + 1, t, xs => match T t with
  | none => False
  | some i => match i.d with
   | .int k => ∃ z, xs = [.int k z] ∧ IntKind.lo k ≤ z ∧ z ≤ IntKind.hi k
   | .bool => ∃ b, xs = [.bool b]
   | .str => ∃ s, xs = [.str s] ∧ Byt s ∧ s.length ≤ 9223372036854775807
   | .slice e => ∃ es : List (List AV), xs = [.ro es.length es.flatten] ∧ es.length ≤ 9223372036854775807 ∧ ∀ y ∈ es, TyL T n e y
   | .struct fs => ∃ ys : List (List AV), xs = ys.flatten ∧ TyF (TyL T n) fs ys
   | .arr m e => ∃ ys : List (List AV), xs = ys.flatten ∧ ys.length = m ∧ ∀ y ∈ ys, TyL T n e y
   | _ => False
def szT (T : Types) (t : TypeId) : Nat := match T t with
 | some i => i.size
 | none => 0
def tileF (T : Types) : Nat → List (Nat × TypeId) → Option Nat
 | k, [] => some k
 | k, f :: fs => match Nat.beq k f.1 with
  | true => tileF T (k + szT T f.2) fs
  | false => none
def tyOk (T : Types) : Nat → TypeId → Bool
 | 0, _ => false
 | n + 1, t => match T t with
  | none => false
  | some i => match i.d with
   | .int _ | .bool | .str => Nat.beq i.size 1
   | .slice e => Nat.beq i.size 1 && tyOk T n e
   | .struct fs => (match tileF T 0 fs with | some k => Nat.beq k i.size | none => false) && fs.all fun f => tyOk T n f.2
   | .arr m e => Nat.beq i.size (m * szT T e) && tyOk T n e
   | _ => false
section
variable {H : Type} {enc : TypeId × Value → H} {P : Program} {T : Types} {W : World} {base : Nat} {spare : Nat → Bool} {held : Bool}
theorem cellsOf_T (hT : TOK P T) {t : TypeId} {i : TI} (h : T t = some i) : P.cellsOf t = i.size := by
 obtain ⟨f, h1, h2, _⟩ := (hT t i h).info
 simp [Program.cellsOf, h1, h2]
theorem wf_lohi {k : IntKind} {n : Int} (h : (Lit.int k n).wf = true) : IntKind.lo k ≤ n ∧ n ≤ IntKind.hi k := by
 cases k <;> simp [Lit.wf, IntKind.min, IntKind.max, IntKind.signed, IntKind.bits, Abs.IntKind.lo, Abs.IntKind.hi] at h ⊢ <;> omega
theorem trod_int {fuel : Nat} {t : TypeId} {k : IntKind} {cs : List Value} {x : DataW H × List MemPlace} (ht : P.underlying t = some (.int k)) (h : DataW.trod enc P W base spare held fuel t cs = some x) :
  ∃ n, cs = [.int k n] ∧ (Lit.int k n).wf = true := by
 cases fuel with
 | zero => simp [DataW.trod] at h
 | succ n =>
  unfold DataW.trod at h
  rw [ht] at h
  split at h <;> simp_all
theorem trod_bool {fuel : Nat} {t : TypeId} {cs : List Value} {x : DataW H × List MemPlace} (ht : P.underlying t = some .bool) (h : DataW.trod enc P W base spare held fuel t cs = some x) :
  ∃ b, cs = [.bool b] := by
 cases fuel with
 | zero => simp [DataW.trod] at h
 | succ n =>
  unfold DataW.trod at h
  rw [ht] at h
  split at h <;> simp_all
theorem cells_get {a : Addr} {n : Nat} {cs : List Value} (h : W.cells? base a n = some cs) : cs.length = n ∧ ∀ j, j < n → W.cell? (a.add j) = cs[j]? := by
 unfold World.cells? at h
 split at h
 ·have h1 := mapM_some_length h
  refine ⟨by simpa using h1, fun j hj => ?_⟩
  exact mapM_some_get h j j (by simp [hj])
 ·cases h
theorem add_add (a : Addr) (i j : Nat) : (a.add i).add j = a.add (i + j) := by
 unfold Addr.add
 by_cases hi : i = 0
 ·subst hi; simp
 ·by_cases hj : j = 0
  ·subst hj; simp [hi]
  ·have : ¬ i + j = 0 := by omega
   rw [if_neg hi, if_neg hj, if_neg this]
   simp [Nat.add_assoc]
theorem spot_none {a : Addr} {v : Value} (h : W.cell? a = some v) : a.spot = none := by
 unfold World.cell? at h
 split at h
 ·cases hs : a.spot with
  | none => rfl
  | some q => simp [hs] at h
 ·cases h
theorem chunks_repL {E : Env} (sz : Nat) : ∀ (m : Nat) (xss : List (List AV)) (cs : List Value), xss.length = m → cs.length = m * sz →
  (∀ i x, xss[i]? = some x → RepL E x ((cs.drop (i * sz)).take sz)) → RepL E xss.flatten cs
 | 0, xss, cs, h1, h2, h3 => by
  obtain rfl := List.length_eq_zero_iff.1 h1
  have : cs = [] := List.length_eq_zero_iff.1 (by omega)
  subst this
  simp [RepL]
 | m + 1, xss, cs, h1, h2, h3 => by
  cases xss with
  | nil => simp at h1
  | cons x xss =>
   have h0 := h3 0 x rfl
   simp only [Nat.zero_mul, List.drop_zero] at h0
   have ih := chunks_repL (E := E) sz m xss (cs.drop sz) (by simpa using h1) (by simp [h2, Nat.add_mul]) (fun i y hy => by
    have := h3 (i + 1) y (by simpa using hy)
    rw [List.drop_drop]
    rwa [show sz + i * sz = (i + 1) * sz by rw [Nat.add_mul]; omega])
   have := repL_append h0 ih
   rw [List.take_append_drop] at this
   simpa using this
theorem repM_of_repL {E : Env} {b off : Nat} : ∀ (xs : List AV) (cs : List Value), RepL E xs cs → (∀ j u, cs[j]? = some u → E.w.cell? ⟨b, off + j, none⟩ = some u) → RepM E xs b off
 | [], cs, _, _ => by simp [RepM]
 | x :: xs, cs, h, hc => by
  simp only [RepL] at h
  obtain ⟨u, us, rfl, h1, h2⟩ := h
  simp only [RepM]
  refine ⟨⟨u, by simpa using hc 0 u rfl, h1⟩, ?_⟩
  have aux : ∀ (off' : Nat), off' = off + 1 → RepM E xs b off' := by
   intro off' e
   subst e
   exact repM_of_repL xs us h2 fun j v hv => by
    have := hc (j + 1) v (by simpa using hv)
    rwa [show off + 1 + j = off + (j + 1) by omega]
  exact aux _ rfl
theorem choose_list {α : Type} {Q : Nat → α → Prop} : ∀ (n : Nat), (∀ i, i < n → ∃ x, Q i x) → ∃ l : List α, l.length = n ∧ ∀ i x, l[i]? = some x → Q i x
 | 0, _ => ⟨[], rfl, fun i x h => by simp at h⟩
 | n + 1, h => by
  obtain ⟨l, h1, h2⟩ := choose_list n (fun i hi => h i (by omega))
  obtain ⟨x, hx⟩ := h n (by omega)
  refine ⟨l ++ [x], by simp [h1], fun i y hy => ?_⟩
  rcases Nat.lt_or_ge i l.length with hi | hi
  ·rw [List.getElem?_append_left hi] at hy; exact h2 i y hy
  ·rw [List.getElem?_append_right hi] at hy
   have hin : i = n := by
    have := (List.getElem?_eq_some_iff.1 hy).1
    simp at this
    omega
   subst hin
   rw [h1] at hy
   simp at hy
   subst hy
   exact hx
theorem fields_open (n : Nat) (ih : ∀ (f : Nat) (t : TypeId) (cs : List Value) (x : DataW H × List MemPlace), tyOk T n t = true → DataW.trod enc P W base spare held f t cs = some x → ∃ xs, RepL (env0 W) xs cs ∧ TyL T n t xs)
  (hT : TOK P T) {fuel : Nat} {cs : List Value} : ∀ (fs : List Field) (k e : Nat), tileF T k (fs.map fun f => (f.offset, f.type)) = some e → (∀ f ∈ fs, tyOk T n f.type = true) →
   (∀ f ∈ fs, ∃ y, DataW.trod enc P W base spare held fuel f.type ((cs.drop f.offset).take (P.cellsOf f.type)) = some y) → cs.length = e →
   k ≤ e ∧ ∃ ys : List (List AV), RepL (env0 W) ys.flatten (cs.drop k) ∧ TyF (TyL T n) (fs.map fun f => (f.offset, f.type)) ys
 | [], k, e, ht, _, _, hl => by
  simp only [List.map_nil, tileF, Option.some.injEq] at ht
  subst ht
  refine ⟨Nat.le_refl _, [], ?_, rfl⟩
  rw [List.drop_of_length_le (by omega)]
  simp [RepL]
 | f :: fs, k, e, ht, ho, hd, hl => by
  simp only [List.map_cons, tileF] at ht
  split at ht
  case h_2 => cases ht
  rename_i hb
  obtain rfl := Nat.eq_of_beq_eq_true hb
  have hk := ho f (by simp)
  obtain ⟨y, hy⟩ := hd f (by simp)
  obtain ⟨xs, hr, hx⟩ := ih _ _ _ _ hk hy
  obtain ⟨h1, ys, h2, h3⟩ := fields_open n ih hT fs _ e ht (fun g hg => ho g (by simp [hg])) (fun g hg => hd g (by simp [hg])) hl
  have hsz : P.cellsOf f.type = szT T f.type := by
   unfold szT
   cases hTt : T f.type with
   | none => cases n <;> simp [tyOk, hTt] at hk
   | some i => exact cellsOf_T hT hTt
  rw [hsz] at hr
  refine ⟨by omega, xs :: ys, ?_, ⟨xs, ys, rfl, hx, h3⟩⟩
  have := repL_append hr h2
  rw [← List.drop_drop, List.take_append_drop] at this
  simpa using this
theorem open_any (hT : TOK P T) : ∀ (n f : Nat) (t : TypeId) (cs : List Value) (x : DataW H × List MemPlace), tyOk T n t = true → DataW.trod enc P W base spare held f t cs = some x →
  ∃ xs, RepL (env0 W) xs cs ∧ TyL T n t xs
 | 0, f, t, cs, x, ho, _ => by simp [tyOk] at ho
 | n + 1, f, t, cs, x, ho, h => by
  simp only [tyOk] at ho
  split at ho
  ·cases ho
  rename_i i hi
  obtain ⟨d, hu, hd, _⟩ := (hT t i hi).und
  have hc := cellsOf_T hT hi
  simp only [TyL, hi]
  cases hid : i.d with
  | int k =>
   rw [hid] at hd
   have hd' : d = .int k := hd
   subst hd'
   obtain ⟨z, rfl, hz⟩ := trod_int hu h
   exact ⟨[.int k z], by simp [RepL, RepV], z, rfl, wf_lohi hz⟩
  | bool =>
   rw [hid] at hd
   have hd' : d = .bool := hd
   subst hd'
   obtain ⟨b, rfl⟩ := trod_bool hu h
   exact ⟨[.bool b], by simp [RepL, RepV], b, rfl⟩
  | str =>
   rw [hid] at hd
   have hd' : d = .string := hd
   subst hd'
   obtain ⟨s, rfl, _, hs⟩ := DataW.trod_string hu h
   refine ⟨[.str (bytesOf s)], by simp [RepL, RepV], bytesOf s, rfl, ?_, ?_⟩
   ·intro y hy
    simp only [bytesOf, List.mem_map] at hy
    obtain ⟨u, _, rfl⟩ := hy
    have := u.toNat_lt
    omega
   ·have : s.size = s.data.size := rfl
    simp only [bytesOf, List.length_map, Array.length_toList]
    simp only [maxLen] at hs
    omega
  | slice e =>
   rw [hid] at hd ho
   have hd' : d = .slice e := hd
   subst hd'
   simp only [Bool.and_eq_true] at ho
   rcases DataW.trod_slice hu h with ⟨rfl, _⟩ | ⟨a, len, cap, elems, rest, m, _, rfl, _, hb, hl, hm, hlen, hel, _, _⟩
   ·exact ⟨[.ro 0 []], by simp only [RepL]; exact ⟨_, _, rfl, by simp only [RepV]; exact ⟨none, 0, rfl, Nat.le_refl _, .inl trivial⟩, rfl⟩, [], rfl, by simp, by simp⟩
   have each : ∀ j, j < len → ∃ q : List AV × List Value, (W.cells? base (a.add (j * P.cellsOf e)) (P.cellsOf e) = some q.2 ∧ RepL (env0 W) q.1 q.2) ∧ TyL T n e q.1 := by
    intro j hj
    have := hel j hj
    rw [List.getElem?_eq_getElem (by omega), Option.bind_eq_some_iff] at this
    obtain ⟨vs, hv, ht⟩ := this
    obtain ⟨xs, h1, h2⟩ := open_any hT n m e vs _ ho.2 ht
    exact ⟨(xs, vs), ⟨hv, h1⟩, h2⟩
   obtain ⟨qs, hq1, hq2⟩ := choose_list len each
   refine ⟨[.ro (qs.map (·.1)).length (qs.map (·.1)).flatten], ?_, qs.map (·.1), rfl, by simp only [List.length_map, hq1]; simp only [maxLen] at hm; omega, ?_⟩
   ·simp only [RepL]
    refine ⟨_, _, rfl, ?_, rfl⟩
    simp only [RepV]
    refine ⟨some a, cap, by simp [hq1], by simp [hq1, hl], ?_⟩
    by_cases hz : (qs.map (·.1)).flatten = []
    ·exact .inl hz
    right
    have hsp : a.spot = none := by
     apply Classical.byContradiction
     intro hne
     apply hz
     have hall : ∀ q ∈ qs, q.1 = [] := by
      intro q hqm
      obtain ⟨j, hj, rfl⟩ := List.mem_iff_getElem.1 hqm
      obtain ⟨⟨k1, k2⟩, _⟩ := hq2 j _ (List.getElem?_eq_getElem hj)
      obtain ⟨g1, g2⟩ := cells_get k1
      cases hxs : qs[j].1 with
      | nil => rfl
      | cons y ys =>
       rw [hxs] at k2
       have hlen2 := repL_length _ _ k2
       simp only [List.length_cons] at hlen2
       have hpos : 0 < P.cellsOf e := by omega
       have h0 : 0 < qs.length := by omega
       obtain ⟨⟨k1', k2'⟩, _⟩ := hq2 0 _ (List.getElem?_eq_getElem h0)
       obtain ⟨g1', g2'⟩ := cells_get k1'
       have := g2' 0 hpos
       rw [List.getElem?_eq_getElem (by omega)] at this
       have hs := spot_none this
       simp [Addr.add] at hs
       exact absurd hs hne
     have : ∀ l ∈ qs.map (·.1), l = [] := by
      intro l hl
      obtain ⟨q, hq, rfl⟩ := List.mem_map.1 hl
      exact hall q hq
     exact List.flatten_eq_nil_iff.2 this
    obtain ⟨blk, off, spot⟩ := a
    simp only at hsp
    subst hsp
    refine ⟨blk, off, rfl, fun hf => hf, ?_⟩
    have hL : RepL (env0 W) (qs.map (·.1)).flatten (qs.map (·.2)).flatten := by
     clear hz hq1
     have key : ∀ (qs : List (List AV × List Value)), (∀ q ∈ qs, RepL (env0 W) q.1 q.2) → RepL (env0 W) (qs.map (·.1)).flatten (qs.map (·.2)).flatten := by
      intro qs
      induction qs with
      | nil => intro _; simp [RepL]
      | cons q qs ih => intro hq; simp only [List.map_cons, List.flatten_cons]; exact repL_append (hq q (by simp)) (ih fun r hr => hq r (by simp [hr]))
     refine key qs fun q hqm => ?_
     obtain ⟨j, hj, rfl⟩ := List.mem_iff_getElem.1 hqm
     exact (hq2 j _ (List.getElem?_eq_getElem hj)).1.2
    refine repM_of_repL _ _ hL ?_
    have key2 : ∀ (qs : List (List AV × List Value)) (s : Nat), (∀ j q, qs[j]? = some q → q.2.length = P.cellsOf e ∧ ∀ i u, q.2[i]? = some u → (env0 W).w.cell? ⟨blk, off + ((s + j) * P.cellsOf e + i), none⟩ = some u) →
      ∀ j u, (qs.map (·.2)).flatten[j]? = some u → (env0 W).w.cell? ⟨blk, off + (s * P.cellsOf e + j), none⟩ = some u := by
     intro qs
     induction qs with
     | nil => intro s _ j u hu; simp at hu
     | cons q qs ih =>
      intro s hq j u hu
      simp only [List.map_cons, List.flatten_cons] at hu
      have h0 := hq 0 q rfl
      rcases Nat.lt_or_ge j q.2.length with hj | hj
      ·rw [List.getElem?_append_left hj] at hu
       have := h0.2 j u hu
       rwa [Nat.add_zero] at this
      ·rw [List.getElem?_append_right hj] at hu
       have := ih (s + 1) (fun j' q' hq' => by
        have := hq (j' + 1) q' (by simpa using hq')
        rwa [show s + (j' + 1) = s + 1 + j' by omega] at this) _ u hu
       rw [h0.1] at this hj
       rwa [show (s + 1) * P.cellsOf e + (j - P.cellsOf e) = s * P.cellsOf e + j by rw [Nat.add_mul]; omega] at this
    intro j u hu
    have := key2 qs 0 (fun j q hq => by
     obtain ⟨⟨k1, k2⟩, _⟩ := hq2 j q hq
     obtain ⟨g1, g2⟩ := cells_get k1
     refine ⟨g1, fun i u hu => ?_⟩
     have hi : i < P.cellsOf e := by rw [← g1]; exact (List.getElem?_eq_some_iff.1 hu).1
     have := g2 i hi
     rw [hu, add_add, addr_add] at this
     rw [Nat.zero_add]
     exact this) j u hu
    rwa [Nat.zero_mul, Nat.zero_add] at this
   ·intro y hy
    obtain ⟨q, hqm, rfl⟩ := List.mem_map.1 hy
    obtain ⟨j, hj, rfl⟩ := List.mem_iff_getElem.1 hqm
    exact (hq2 j _ (List.getElem?_eq_getElem hj)).2
  | struct fs =>
   rw [hid] at hd ho
   have hd' : ∃ a, d = .struct a ∧ a.toList.map (fun f => (f.offset, f.type)) = fs := hd
   obtain ⟨a, rfl, rfl⟩ := hd'
   simp only [Bool.and_eq_true] at ho
   obtain ⟨ys, m, _, _, hcl, hyl, hf⟩ := DataW.trod_struct hu h
   obtain ⟨ho1, ho2⟩ := ho
   split at ho1
   case h_2 => cases ho1
   rename_i e he
   have hes := Nat.eq_of_beq_eq_true ho1
   obtain ⟨_, zs, h1, h2⟩ := fields_open n (fun f t cs x a b => open_any hT n f t cs x a b) hT (fuel := m) (cs := cs) a.toList 0 e he (fun g hg => by
     simp only [List.all_map, List.all_eq_true] at ho2
     exact ho2 g hg) (fun g hg => by
     obtain ⟨j, hj, rfl⟩ := List.mem_iff_getElem.1 hg
     have hj' : j < a.size := by simpa using hj
     have := hf j a[j] (by simp [hj'])
     rw [List.getElem?_eq_getElem (by omega)] at this
     exact ⟨_, by simpa using this⟩) (by omega)
   rw [List.drop_zero] at h1
   exact ⟨zs.flatten, h1, zs, rfl, h2⟩
  | arr m e =>
   rw [hid] at hd ho
   have hd' : d = .array m e := hd
   subst hd'
   simp only [Bool.and_eq_true] at ho
   obtain ⟨ys, q, _, _, hcl, hyl, hf⟩ := DataW.trod_array hu h
   have hes := Nat.eq_of_beq_eq_true ho.1
   have hsz : P.cellsOf e = szT T e := by
    unfold szT
    cases hTt : T e with
    | none => cases n <;> simp [tyOk, hTt] at ho
    | some i => exact cellsOf_T hT hTt
   have each : ∀ j, j < m → ∃ x : List AV, RepL (env0 W) x ((cs.drop (j * szT T e)).take (szT T e)) ∧ TyL T n e x := by
    intro j hj
    have := hf j hj
    rw [List.getElem?_eq_getElem (by omega)] at this
    obtain ⟨xs, h1, h2⟩ := open_any hT n q e _ _ ho.2 this
    rw [hsz] at h1
    exact ⟨xs, h1, h2⟩
   obtain ⟨qs, hq1, hq2⟩ := choose_list m each
   refine ⟨qs.flatten, chunks_repL (szT T e) m qs cs hq1 (by omega) (fun j x hx => (hq2 j x hx).1), qs, rfl, hq1, fun y hy => ?_⟩
   obtain ⟨j, hj, rfl⟩ := List.mem_iff_getElem.1 hy
   exact (hq2 j _ (List.getElem?_eq_getElem hj)).2
  | ptr e => rw [hid] at ho; cases ho
  | other => rw [hid] at ho; cases ho
end
end
section

attribute [local irreducible] ifB fitP Does Weaker
theorem frzL_app {i : Nat} {zs : List AV} : ∀ a b : List AV, frzL i zs (a ++ b) = frzL i zs a ++ frzL i zs b
 | [], b => rfl
 | x :: a, b => by simp [frzL, frzL_app a b]
theorem frzL_bys {i : Nat} {zs : List AV} : ∀ l : List Int, frzL i zs (bys l) = bys l
 | [] => rfl
 | x :: l => congrArg (AV.int .u8 x :: ·) (frzL_bys l)
theorem frzL_toks {i : Nat} {zs : List AV} : ∀ l : List Tok, frzL i zs (toksC l) = toksC l
 | [] => rfl
 | t :: l => by simp [toksC, frzL, frzV, frzL_toks l]
theorem encR_len {u : List Int → Bool} {l : List Tok} {a : List Int} (h : encR u l = (a, 0)) : a.length ≤ 32768 := (encR_yes h).2.2
theorem pureL_app : ∀ a b : List AV, pureL (a ++ b) = (pureL a && pureL b)
 | [], b => by simp [pureL]
 | x :: a, b => by simp [pureL, pureL_app a b, Bool.and_assoc]
theorem bytes_of_ty {T : Types} {n : Nat} {e : TypeId} (hk : ∃ i, T e = some i ∧ i.d = .int .u8) : ∀ (es : List (List AV)), (∀ y ∈ es, TyL T n e y) → ∃ l : List Int, es.flatten = bys l ∧ l.length = es.length ∧ Byt l
 | [], _ => ⟨[], rfl, rfl, by simp [Byt]⟩
 | y :: es, h => by
  obtain ⟨l, h1, h2, h3⟩ := bytes_of_ty hk es (fun z hz => h z (by simp [hz]))
  have hy := h y (by simp)
  obtain ⟨i, hi, hd⟩ := hk
  cases n with
  | zero => exact hy.elim
  | succ n =>
   simp only [TyL, hi, hd] at hy
   obtain ⟨z, rfl, z1, z2⟩ := hy
   refine ⟨z :: l, by simp [h1, bys], by simp [h2], fun x hx => ?_⟩
   simp only [IntKind.lo, IntKind.hi] at z1 z2
   rcases List.mem_cons.1 hx with rfl | hx
   ·exact ⟨z1, by omega⟩
   ·exact h3 x hx
theorem bytes_of_slice {n : Nat} {xs : List AV} (h : TyL TT (n + 2) 38 xs) : ∃ l : List Int, xs = [.ro l.length (bys l)] ∧ (Byt l ∧ l.length ≤ 9223372036854775807) := by
 obtain ⟨es, rfl, hl, he⟩ := h
 obtain ⟨l, h1, h2, h3⟩ := bytes_of_ty ⟨_, show TT 5 = some _ from rfl, rfl⟩ es he
 exact ⟨l, by simp [h1, h2], h3, by omega⟩
theorem rep_one {E : Env} {x : AV} {v : Value} (h : RepL E [x] v.cells.toList) (hv : v.cells = #[v]) : RepV E x v := by
 rw [hv] at h
 simp only [RepL] at h
 obtain ⟨u, us, e, h1, _⟩ := h
 simp only [List.cons.injEq] at e
 rw [e.1]
 exact h1
theorem rep_agg {E : Env} {xs : List AV} {vs : Array Value} (h : RepL E xs (Value.agg vs).cells.toList) : RepV E (.agg xs) (.agg vs) := by
 simp only [RepV]
 exact ⟨vs, rfl, h⟩
end
section

def rLoop (g : Nat → Option (Nat × List Int)) (mp : Bool) : Nat → Nat → Nat → List Int → List Int → Option (Nat × List Int)
 | 0, _, at', b, _ => some (at', b)
 | n + 1, i, at', b, last =>
  match g at' with
  | none => none
  | some (a, x) =>
   if 32768 < b.length + x.length then none
   else if mp = true ∧ i % 2 = 0 then
    if 0 < i ∧ (bytesLt x last || decide (x = last)) = true then none else rLoop g mp n (i + 1) a (b ++ x) x
   else rLoop g mp n (i + 1) a (b ++ x) last
def rBad (t : Tok) : Prop := ((t.k = 3 ∨ t.k = 4) ∧ t.n ≠ 0) ∨ (¬ (t.k = 3 ∨ t.k = 4) ∧ 0 < t.b.length) ∨ t.n < 0
instance (t : Tok) : Decidable (rBad t) := by unfold rBad; infer_instance
def rItem (u : List Int → Bool) (l : List Tok) : Nat → Nat → Option (Nat × List Int)
 | f, at' =>
  if h : l.length ≤ at' then none
  else
   let t := l[at']'(by omega)
   if rBad t then none
   else if t.k = 1 then some (at' + 1, putL 0 t.n)
   else if t.k = 2 then some (at' + 1, putL 1 t.n)
   else if t.k = 3 then some (at' + 1, putL 2 t.b.length ++ t.b)
   else if t.k = 4 then if u t.b = true then some (at' + 1, putL 3 t.b.length ++ t.b) else none
   else if t.k = 5 ∨ t.k = 6 then
    match f with
    | 0 => none
    | f + 1 =>
     if 64 < t.n then none
     else if t.k = 6 then rLoop (rItem u l f) true (2 * t.n.toNat) 0 (at' + 1) (putL 5 t.n) []
     else rLoop (rItem u l f) false t.n.toNat 0 (at' + 1) (putL 4 t.n) []
   else none
theorem lt_tri : ∀ (a b : List Int), (bytesLt a b || decide (a = b)) = !bytesLt b a
 | [], [] => by simp [bytesLt]
 | [], _ :: _ => by simp [bytesLt]
 | _ :: _, [] => by simp [bytesLt]
 | x :: a, y :: b => by
  have ih := lt_tri a b
  simp only [bytesLt]
  by_cases h1 : x < y
  ·have h2 : ¬ y < x := by omega
   have h3 : ¬ y = x := by omega
   simp [h1, h2, h3]
  ·by_cases h2 : y < x
   ·have h3 : ¬ x = y := by omega
    simp [h1, h2, h3]
   ·obtain rfl : x = y := by omega
    simpa using ih
theorem cmp_ge {a b : List Int} : decide (0 ≤ cmpI a b) = !bytesLt a b := by
 unfold cmpI
 cases bytesLt a b with
 | true => simp
 | false => by_cases h : a = b <;> simp [h]
theorem rLoop_grow {g : Nat → Option (Nat × List Int)} {mp : Bool} : ∀ (n i at' : Nat) (b last : List Int) (a : Nat) (bs : List Int), rLoop g mp n i at' b last = some (a, bs) → b <+: bs
 | 0, i, at', b, last, a, bs, h => by
  simp only [rLoop, Option.some.injEq, Prod.mk.injEq] at h
  rw [h.2]
  exact List.prefix_refl _
 | n + 1, i, at', b, last, a, bs, h => by
  unfold rLoop at h
  split at h
  ·cases h
  rename_i a' x hg
  split at h
  ·cases h
  split at h
  ·split at h
   ·cases h
   ·exact (List.prefix_append _ _).trans (rLoop_grow n _ _ _ _ _ _ h)
  ·exact (List.prefix_append _ _).trans (rLoop_grow n _ _ _ _ _ _ h)
def Fits (W' : W → W) (g : Nat → Option (Nat × List Int)) : Prop :=
 ∀ (at' : Nat) (out : List Int) (a : Nat) (bs : List Int), g at' = some (a, bs) → out.length + bs.length ≤ 32768 → W' ⟨at', out, false⟩ = ⟨a, out ++ bs, false⟩
theorem arr_fits {w : W → W} {g : Nat → Option (Nat × List Int)} (H : Fits w g) : ∀ (n i at' : Nat) (out b last : List Int) (a : Nat) (bs : List Int), rLoop g false n i at' b last = some (a, bs) → out.length + bs.length ≤ 32768 →
  wArr w n ⟨at', out ++ b, false⟩ = ⟨a, out ++ bs, false⟩
 | 0, i, at', out, b, last, a, bs, h, hl => by
  simp only [rLoop, Option.some.injEq, Prod.mk.injEq] at h
  rw [h.1, h.2]
  rfl
 | n + 1, i, at', out, b, last, a, bs, h, hl => by
  unfold rLoop at h
  split at h
  ·cases h
  rename_i a' x hg
  split at h
  ·cases h
  rw [if_neg (by simp)] at h
  have hp := (rLoop_grow _ _ _ _ _ _ _ h).length_le
  simp only [List.length_append] at hp
  have e := H at' (out ++ b) a' x hg (by simp; omega)
  rw [wArr, if_neg (by simp), e, List.append_assoc]
  exact arr_fits H n _ _ out (b ++ x) last a bs h hl
theorem map_fits {w : W → W} {g : Nat → Option (Nat × List Int)} (H : Fits w g) : ∀ (n i at' : Nat) (out b last : List Int) (from' to' : Nat) (a : Nat) (bs : List Int), rLoop g true (2 * n) (2 * i) at' b last = some (a, bs) → out.length + bs.length ≤ 32768 →
  (0 < i → to' ≤ (out ++ b).length ∧ last = ((out ++ b).drop from').take (to' - from')) → wMap w n i from' to' ⟨at', out ++ b, false⟩ = ⟨a, out ++ bs, false⟩
 | 0, i, at', out, b, last, from', to', a, bs, h, hl, _ => by
  simp only [Nat.mul_zero, rLoop, Option.some.injEq, Prod.mk.injEq] at h
  rw [h.1, h.2]
  rfl
 | n + 1, i, at', out, b, last, from', to', a, bs, h, hl, hk => by
  rw [show 2 * (n + 1) = 2 * n + 1 + 1 by omega] at h
  unfold rLoop at h
  split at h
  ·cases h
  rename_i a' x hg
  split at h
  ·cases h
  rw [if_pos ⟨rfl, by omega⟩] at h
  split at h
  ·cases h
  rename_i hlt
  unfold rLoop at h
  split at h
  ·cases h
  rename_i a2 y hg2
  split at h
  ·cases h
  rw [if_neg (by omega)] at h
  have hp := (rLoop_grow _ _ _ _ _ _ _ h).length_le
  simp only [List.length_append] at hp
  have e := H at' (out ++ b) a' x hg (by simp; omega)
  have e2 := H a' (out ++ b ++ x) a2 y hg2 (by simp; omega)
  have hcond : ¬ (((w ⟨at', out ++ b, false⟩).bad || (decide (0 < i) && decide (0 ≤ cmpI (((w ⟨at', out ++ b, false⟩).out.drop from').take (to' - from')) ((w ⟨at', out ++ b, false⟩).out.drop (out ++ b).length)))) = true) := by
   rw [e]
   simp only [Bool.false_or]
   by_cases hi : 0 < i
   ·obtain ⟨k1, k2⟩ := hk hi
    have d1 : ((out ++ b ++ x).drop from').take (to' - from') = last := by
     rw [k2]
     by_cases hf : from' ≤ (out ++ b).length
     ·rw [List.drop_append_of_le_length hf, List.take_append_of_le_length (by simp; simp at k1; omega)]
     ·rw [show to' - from' = 0 by omega]; simp
    have d2 : (out ++ b ++ x).drop (out ++ b).length = x := by simp
    rw [d1, d2, cmp_ge]
    have : ¬ (bytesLt x last || decide (x = last)) = true := fun hh => hlt ⟨by omega, hh⟩
    rw [lt_tri] at this
    simpa [hi] using this
   ·simp [hi]
  rw [wMap, if_neg (by simp), if_neg hcond, e, e2]
  have hout : out ++ b ++ x ++ y = out ++ (b ++ x ++ y) := by simp [List.append_assoc]
  simp only
  rw [hout]
  refine map_fits H n (i + 1) a2 out (b ++ x ++ y) x _ _ a bs (by rw [show 2 * (i + 1) = 2 * i + 1 + 1 by omega]; exact h) hl (fun _ => ⟨?_, ?_⟩)
  ·simp
  ·rw [show out ++ (b ++ x ++ y) = out ++ b ++ (x ++ y) by simp [List.append_assoc], List.drop_left, show (out ++ b ++ x).length - (out ++ b).length = x.length by simp; omega]
   simp
theorem wHead_yes {M n : Int} (hM : 0 ≤ M ∧ M < 8) (hn : 0 ≤ n) (at' : Nat) (out : List Int) : wHead M n ⟨at', out, false⟩ = ⟨at', out ++ putL M n, false⟩ := by
 simp only [wHead, putS]
 rw [if_neg (by omega)]
 simp
theorem item_fits1 (u : List Int → Bool) (l : List Tok) (f : Nat) (ih : ∀ f', f = f' + 1 → Fits (wItem u l f') (rItem u l f')) : Fits (wItem u l f) (rItem u l f) := by
  intro at' out a bs h hl
  unfold rItem at h
  split at h
  ·cases h
  rename_i hat
  simp only at h
  split at h
  ·cases h
  rename_i hbad
  have hat' : at' < l.length := by omega
  have hb : ∀ t : Tok, ¬ rBad t → (t.k = 3 ∨ t.k = 4 → t.n = 0) ∧ (¬ (t.k = 3 ∨ t.k = 4) → t.b = []) ∧ 0 ≤ t.n := by
   intro t ht
   simp only [rBad] at ht
   exact ⟨by omega, fun hk => List.length_eq_zero_iff.1 (by omega), by omega⟩
  obtain ⟨hb1, hb2, hb3⟩ := hb _ hbad
  unfold wItem
  rw [dif_neg (show ¬ (l.length ≤ (⟨at', out, false⟩ : W).at' ∨ 32768 < (⟨at', out, false⟩ : W).out.length) by simp only; omega)]
  simp only
  split at h
  ·rename_i k1
   rw [if_pos k1]
   simp only [Option.some.injEq, Prod.mk.injEq] at h
   obtain ⟨rfl, rfl⟩ := h
   rw [wNumber, hb2 (by omega)]
   simp only [List.length_nil, Int.natCast_zero, Int.lt_irrefl, decide_false, Bool.or_false]
   exact wHead_yes (by omega) hb3 _ _
  rename_i k1; rw [if_neg k1]
  split at h
  ·rename_i k2
   rw [if_pos k2]
   simp only [Option.some.injEq, Prod.mk.injEq] at h
   obtain ⟨rfl, rfl⟩ := h
   rw [wNumber, hb2 (by omega)]
   simp only [List.length_nil, Int.natCast_zero, Int.lt_irrefl, decide_false, Bool.or_false]
   exact wHead_yes (by omega) hb3 _ _
  rename_i k2; rw [if_neg k2]
  split at h
  ·rename_i k3
   rw [if_pos (.inl k3)]
   simp only [Option.some.injEq, Prod.mk.injEq] at h
   obtain ⟨rfl, rfl⟩ := h
   simp only [List.length_append] at hl
   have n4 : ¬ l[at'].k = 4 := by omega
   rw [wBytes, if_neg (by simp [n4, hb1 (.inl k3)]; omega), if_neg n4]
   rw [wHead_yes (by omega) (by omega)]
   simp
  rename_i k3
  split at h
  ·rename_i k4
   rw [if_pos (.inr k4)]
   split at h
   case isFalse => cases h
   rename_i hu
   simp only [Option.some.injEq, Prod.mk.injEq] at h
   obtain ⟨rfl, rfl⟩ := h
   simp only [List.length_append] at hl
   rw [wBytes, if_neg (by simp [k4, hu, hb1 (.inr k4)]; omega), if_pos k4]
   rw [wHead_yes (by omega) (by omega)]
   simp
  rename_i k4
  rw [if_neg (by omega)]
  split at h
  case isFalse => cases h
  rename_i k5
  rw [if_pos k5]
  cases f with
  | zero => cases h
  | succ f =>
   simp only at h ⊢
   split at h
   ·cases h
   rename_i hn
   rw [if_neg (by simp [wManyBad, hb2 (by omega)]; omega)]
   have ih := ih f rfl
   split at h
   ·rename_i k6
    rw [if_neg (by omega), wHead_yes (by omega) hb3]
    exact map_fits ih _ 0 _ out _ [] 0 0 a bs h hl (fun hh => absurd hh (by omega))
   ·rename_i k6
    rw [if_pos (by omega), wHead_yes (by omega) hb3]
    exact arr_fits ih _ 0 _ out _ [] a bs h hl
theorem item_fits (u : List Int → Bool) (l : List Tok) : ∀ f : Nat, Fits (wItem u l f) (rItem u l f)
 | 0 => item_fits1 u l 0 (fun f' h => by omega)
 | f + 1 => item_fits1 u l (f + 1) (fun f' h => by obtain rfl : f = f' := by omega
                                                   exact item_fits u l f)
def Back (W' : W → W) (g : Nat → Option (Nat × List Int)) : Prop :=
 ∀ (w : W), (W' w).bad = false → (W' w).out.length ≤ 32768 → ∃ bs, (W' w).out = w.out ++ bs ∧ g w.at' = some ((W' w).at', bs)
theorem arr_back {w : W → W} {g : Nat → Option (Nat × List Int)} (hm : Mono w) (H : Back w g) : ∀ (n i : Nat) (v : W) (out b last : List Int), v.out = out ++ b → (wArr w n v).bad = false → (wArr w n v).out.length ≤ 32768 →
  ∃ bs, (wArr w n v).out = out ++ bs ∧ rLoop g false n i v.at' b last = some ((wArr w n v).at', bs)
 | 0, i, v, out, b, last, hv, h1, h2 => ⟨b, hv, rfl⟩
 | n + 1, i, v, out, b, last, hv, h1, h2 => by
  have hb := (wArr_mono w hm (n + 1) v h1).1
  rw [wArr, if_neg (by simp [hb])] at h1 h2 ⊢
  obtain ⟨k1, k2⟩ := wArr_mono w hm n _ h1
  have k3 := k2.length_le
  obtain ⟨x, hx, hg⟩ := H v k1 (by omega)
  obtain ⟨bs, e1, e2⟩ := arr_back hm H n (i + 1) (w v) out (b ++ x) last (by rw [hx, hv, List.append_assoc]) h1 h2
  refine ⟨bs, e1, ?_⟩
  rw [hx, hv] at k3
  simp only [List.length_append] at k3
  unfold rLoop
  rw [hg]
  simp only
  rw [if_neg (by omega), if_neg (by simp)]
  exact e2
theorem map_back {w : W → W} {g : Nat → Option (Nat × List Int)} (hm : Mono w) (H : Back w g) : ∀ (n i : Nat) (v : W) (out b last : List Int) (from' to' : Nat), v.out = out ++ b →
  (0 < i → to' ≤ (out ++ b).length ∧ last = ((out ++ b).drop from').take (to' - from')) → (wMap w n i from' to' v).bad = false → (wMap w n i from' to' v).out.length ≤ 32768 →
  ∃ bs, (wMap w n i from' to' v).out = out ++ bs ∧ rLoop g true (2 * n) (2 * i) v.at' b last = some ((wMap w n i from' to' v).at', bs)
 | 0, i, v, out, b, last, from', to', hv, hk, h1, h2 => ⟨b, hv, rfl⟩
 | n + 1, i, v, out, b, last, from', to', hv, hk, h1, h2 => by
  have hb := (wMap_mono w hm (n + 1) i from' to' v h1).1
  rw [wMap, if_neg (by simp [hb])] at h1 h2 ⊢
  split at h1
  ·simp at h1
  rename_i hc
  rw [if_neg hc] at h2 ⊢
  obtain ⟨k1, k2⟩ := wMap_mono w hm n _ _ _ _ h1
  obtain ⟨k3, k4⟩ := hm _ k1
  have k5 := k2.length_le
  have k6 := k4.length_le
  obtain ⟨x, hx, hg⟩ := H v k3 (by omega)
  obtain ⟨y, hy, hg2⟩ := H (w v) k1 (by omega)
  have hvl : v.out.length = (out ++ b).length := by rw [hv]
  obtain ⟨bs, e1, e2⟩ := map_back hm H n (i + 1) (w (w v)) out (b ++ x ++ y) x v.out.length (w v).out.length (by rw [hy, hx, hv]; simp [List.append_assoc]) (fun _ => ⟨by rw [hx, hv]; simp, by
   rw [hx, hv, show out ++ (b ++ x ++ y) = out ++ b ++ (x ++ y) by simp [List.append_assoc], List.drop_left, show (out ++ b ++ x).length - (out ++ b).length = x.length by simp; omega]
   simp⟩) h1 h2
  refine ⟨bs, e1, ?_⟩
  have hlt : ¬ (0 < 2 * i ∧ (bytesLt x last || decide (x = last)) = true) := by
   rintro ⟨q1, q2⟩
   obtain ⟨p1, p2⟩ := hk (by omega)
   apply hc
   rw [k3, Bool.false_or, hx, hv]
   have d1 : ((out ++ b ++ x).drop from').take (to' - from') = last := by
    rw [p2]
    by_cases hf : from' ≤ (out ++ b).length
    ·rw [List.drop_append_of_le_length hf, List.take_append_of_le_length (by simp; simp at p1; omega)]
    ·rw [show to' - from' = 0 by omega]; simp
   have d2 : (out ++ b ++ x).drop (out ++ b).length = x := by simp
   rw [d1, d2, cmp_ge]
   rw [lt_tri] at q2
   simp only [Bool.not_eq_true'] at q2
   simp [q2]
   omega
  have k7 : (w (w v)).out.length ≤ 32768 := by omega
  rw [hy, hx, hv] at k7
  simp only [List.length_append] at k7
  rw [show 2 * (n + 1) = 2 * n + 1 + 1 by omega]
  unfold rLoop
  rw [hg]
  simp only
  rw [if_neg (by omega), if_pos ⟨trivial, by omega⟩, if_neg hlt]
  unfold rLoop
  rw [hg2]
  simp only
  rw [if_neg (by simp; omega), if_neg (by omega)]
  rw [show 2 * i + 1 + 1 = 2 * (i + 1) by omega]
  exact e2
theorem item_back1 (u : List Int → Bool) (l : List Tok) (f : Nat) (ih : ∀ f', f = f' + 1 → Back (wItem u l f') (rItem u l f')) : Back (wItem u l f) (rItem u l f) := by
  intro w h hl
  have hw := (wItem_mono u l f w h).1
  obtain ⟨at', out, bad⟩ := w
  simp only at hw
  subst hw
  unfold wItem at h hl ⊢
  split at h
  ·simp at h
  rename_i hh
  rw [dif_neg hh] at hl ⊢
  simp only at hh h hl ⊢
  have hat : ¬ l.length ≤ at' := by omega
  unfold rItem
  rw [dif_neg hat]
  simp only
  have num : ∀ (M : Int) (t : Tok), 0 ≤ M ∧ M < 8 → ¬ (t.k = 3 ∨ t.k = 4) → (wNumber M t ⟨at' + 1, out, false⟩).bad = false → ¬ rBad t ∧ wNumber M t ⟨at' + 1, out, false⟩ = ⟨at' + 1, out ++ putL M t.n, false⟩ := by
   intro M t hM hk hn
   unfold wNumber at hn ⊢
   obtain ⟨q1, q2, q3⟩ := wHead_ok hn hM
   simp only [Bool.false_or, decide_eq_false_iff_not] at q3
   refine ⟨by simp only [rBad]; omega, by rw [q2]⟩
  split at h
  ·rename_i k1
   rw [if_pos k1] at hl ⊢
   obtain ⟨q1, q2⟩ := num 0 _ (by omega) (by omega) h
   rw [q2, if_neg q1, if_pos k1]
   exact ⟨_, rfl, rfl⟩
  rename_i k1; rw [if_neg k1] at hl ⊢
  split at h
  ·rename_i k2
   rw [if_pos k2] at hl ⊢
   obtain ⟨q1, q2⟩ := num 1 _ (by omega) (by omega) h
   rw [q2, if_neg q1, if_neg k1, if_pos k2]
   exact ⟨_, rfl, rfl⟩
  rename_i k2; rw [if_neg k2] at hl ⊢
  split at h
  ·rename_i k3
   rw [if_pos k3] at hl ⊢
   obtain ⟨q1, q2, q3, q4⟩ := wBytes_ok h
   have nb : ¬ rBad l[at'] := by simp only [rBad]; omega
   rw [q4, if_neg nb, if_neg k1, if_neg k2]
   by_cases k4 : l[at'].k = 4
   ·rw [if_neg (show ¬ l[at'].k = 3 by omega), if_pos k4, if_pos k4, if_pos (q3 k4)]
    exact ⟨_, by simp, rfl⟩
   ·rw [if_pos (show l[at'].k = 3 by omega), if_neg k4]
    exact ⟨_, by simp, rfl⟩
  rename_i k3; rw [if_neg k3] at hl ⊢
  split at h
  case isFalse => simp at h
  rename_i k5
  rw [if_pos k5] at hl ⊢
  cases f with
  | zero => simp at h
  | succ f =>
   simp only at h hl ⊢
   split at h
   ·simp at h
   rename_i hb
   rw [if_neg hb] at hl ⊢
   have ih := ih f rfl
   have hmo := wItem_mono u l f
   have hb' : l[at'].b.length = 0 ∧ 0 ≤ l[at'].n ∧ ¬ 64 < l[at'].n := by
    simp only [wManyBad, Bool.or_eq_true, decide_eq_true_eq, not_or] at hb
    omega
   have nb : ¬ rBad l[at'] := by simp only [rBad]; omega
   rw [if_neg nb, if_neg k1, if_neg k2, if_neg (show ¬ l[at'].k = 3 by omega), if_neg (show ¬ l[at'].k = 4 by omega), if_pos k5, if_neg hb'.2.2]
   split at h
   ·rename_i k6
    rw [if_pos k6] at hl ⊢
    rw [if_neg (show ¬ l[at'].k = 6 by omega)]
    rw [wHead_yes (by omega) hb'.2.1] at h hl ⊢
    exact arr_back hmo ih _ 0 _ out _ [] rfl h hl
   ·rename_i k6
    rw [if_neg k6] at hl ⊢
    rw [if_pos (show l[at'].k = 6 by omega)]
    rw [wHead_yes (by omega) hb'.2.1] at h hl ⊢
    exact map_back hmo ih _ 0 _ out _ [] 0 0 rfl (fun hh => absurd hh (by omega)) h hl
theorem item_back (u : List Int → Bool) (l : List Tok) : ∀ f : Nat, Back (wItem u l f) (rItem u l f)
 | 0 => item_back1 u l 0 (fun f' h => by omega)
 | f + 1 => item_back1 u l (f + 1) (fun f' h => by obtain rfl : f = f' := by omega
                                                   exact item_back u l f)
theorem encR_iff (u : List Int → Bool) (l : List Tok) (a : List Int) : encR u l = (a, 0) ↔ l.length ≤ 600 ∧ rItem u l 6 0 = some (l.length, a) ∧ a.length ≤ 32768 := by
 constructor
 ·intro h
  obtain ⟨h1, h2, h3⟩ := encR_yes h
  obtain ⟨bs, e1, e2⟩ := item_back u l 6 ⟨0, [], false⟩ (by rw [h2]) (by rw [h2]; exact h3)
  rw [h2] at e1 e2
  simp only [List.nil_append] at e1
  subst e1
  exact ⟨h1, e2, h3⟩
 ·rintro ⟨h1, h2, h3⟩
  have := item_fits u l 6 0 [] l.length a h2 (by simpa using h3)
  unfold encR
  rw [if_neg (by omega), this]
  simp
  omega
end
end Go.Proofs.YtbpdbajcmagomaaDoor.Abs
