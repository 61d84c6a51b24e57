/- Texts CY to ED, merged. -/
import Derived.Test.YtbpdbajcmagomaaDoorU8
set_option linter.unusedVariables false
set_option linter.unusedSimpArgs false
namespace Go.Proofs.YtbpdbajcmagomaaDoor.Abs
open Go
section

def Gos (g : Nat → Option (Nat × List Int)) (L : Nat) : Prop := ∀ k a x, g k = some (a, x) → k < a ∧ a ≤ L ∧ 0 < x.length
theorem rLoop_go {g : Nat → Option (Nat × List Int)} {mp : Bool} {L : Nat} (H : Gos g L) : ∀ (n i at' : Nat) (b last : List Int) (a : Nat) (bs : List Int), rLoop g mp n i at' b last = some (a, bs) → at' + n ≤ a ∧ (at' ≤ L → a ≤ L) ∧ b.length + n ≤ bs.length
 | 0, i, at', b, last, a, bs, h => by
  simp only [rLoop, Option.some.injEq, Prod.mk.injEq] at h
  rw [h.1, h.2]
  exact ⟨Nat.le_refl _, fun h => h, Nat.le_refl _⟩
 | n + 1, i, at', b, last, a, bs, h => by
  unfold rLoop at h
  split at h
  ·cases h
  rename_i a1 x hg
  obtain ⟨q1, q2, q3⟩ := H _ _ _ hg
  have fin : ∀ lst, rLoop g mp n (i + 1) a1 (b ++ x) lst = some (a, bs) → at' + (n + 1) ≤ a ∧ (at' ≤ L → a ≤ L) ∧ b.length + (n + 1) ≤ bs.length := by
   intro lst hh
   obtain ⟨p1, p2, p3⟩ := rLoop_go H n _ _ _ _ _ _ hh
   simp only [List.length_append] at p3
   exact ⟨by omega, fun _ => p2 q2, by omega⟩
  split at h
  ·cases h
  split at h
  ·split at h
   ·cases h
   ·exact fin _ h
  ·exact fin _ h
theorem putL_pos (M n : Int) : 0 < (putL M n).length := by simp [putL]
theorem rItem_go (u : List Int → Bool) (l : List Tok) : ∀ f : Nat, Gos (rItem u l f) l.length
 | 0 => fun k a x h => by
  unfold rItem at h
  split at h
  ·cases h
  simp only at h
  have p0 := putL_pos
  split at h
  ·cases h
  split at h
  ·simp only [Option.some.injEq, Prod.mk.injEq] at h; obtain ⟨rfl, rfl⟩ := h; exact ⟨by omega, by omega, p0 _ _⟩
  split at h
  ·simp only [Option.some.injEq, Prod.mk.injEq] at h; obtain ⟨rfl, rfl⟩ := h; exact ⟨by omega, by omega, p0 _ _⟩
  split at h
  ·simp only [Option.some.injEq, Prod.mk.injEq] at h; obtain ⟨rfl, rfl⟩ := h; exact ⟨by omega, by omega, by simp only [List.length_append]; have := p0 2 (l[k].b.length : Int); omega⟩
  split at h
  ·split at h
   ·simp only [Option.some.injEq, Prod.mk.injEq] at h; obtain ⟨rfl, rfl⟩ := h; exact ⟨by omega, by omega, by simp only [List.length_append]; have := p0 3 (l[k].b.length : Int); omega⟩
   ·cases h
  split at h
  ·cases h
  ·cases h
 | f + 1 => fun k a x h => by
  unfold rItem at h
  split at h
  ·cases h
  simp only at h
  have p0 := putL_pos
  split at h
  ·cases h
  split at h
  ·simp only [Option.some.injEq, Prod.mk.injEq] at h; obtain ⟨rfl, rfl⟩ := h; exact ⟨by omega, by omega, p0 _ _⟩
  split at h
  ·simp only [Option.some.injEq, Prod.mk.injEq] at h; obtain ⟨rfl, rfl⟩ := h; exact ⟨by omega, by omega, p0 _ _⟩
  split at h
  ·simp only [Option.some.injEq, Prod.mk.injEq] at h; obtain ⟨rfl, rfl⟩ := h; exact ⟨by omega, by omega, by simp only [List.length_append]; have := p0 2 (l[k].b.length : Int); omega⟩
  split at h
  ·split at h
   ·simp only [Option.some.injEq, Prod.mk.injEq] at h; obtain ⟨rfl, rfl⟩ := h; exact ⟨by omega, by omega, by simp only [List.length_append]; have := p0 3 (l[k].b.length : Int); omega⟩
   ·cases h
  split at h
  ·split at h
   ·cases h
   have ih := rItem_go u l f
   split at h
   ·obtain ⟨q1, q2, q3⟩ := rLoop_go ih _ _ _ _ _ _ _ h
    exact ⟨by omega, q2 (by omega), by have := p0 5 l[k].n; omega⟩
   ·obtain ⟨q1, q2, q3⟩ := rLoop_go ih _ _ _ _ _ _ _ h
    exact ⟨by omega, q2 (by omega), by have := p0 4 l[k].n; omega⟩
  ·cases h
def rTok (u : List Int → Bool) (g : Nat → Option (Nat × List Int)) (z : Bool) (t : Tok) (k : Nat) : Option (Nat × List Int) :=
 if rBad t then none
 else if t.k = 1 then some (k, putL 0 t.n)
 else if t.k = 2 then some (k, putL 1 t.n)
 else if t.k = 3 then some (k, putL 2 t.b.length ++ t.b)
 else if t.k = 4 then if u t.b = true then some (k, putL 3 t.b.length ++ t.b) else none
 else if t.k = 5 ∨ t.k = 6 then
  if z = true then none
  else if 64 < t.n then none
  else if t.k = 6 then rLoop g true (2 * t.n.toNat) 0 k (putL 5 t.n) []
  else rLoop g false t.n.toNat 0 k (putL 4 t.n) []
 else none
def rSub (u : List Int → Bool) (l : List Tok) : Nat → Nat → Option (Nat × List Int)
 | 0 => fun _ => none
 | f + 1 => rItem u l f
theorem rItem_tok (u : List Int → Bool) (l : List Tok) (f k : Nat) (hk : k < l.length) : rItem u l f k = rTok u (rSub u l f) (decide (f = 0)) l[k] (k + 1) := by
 cases f with
 | zero =>
  unfold rItem rTok rSub
  rw [dif_neg (by omega)]
  simp
 | succ f =>
  unfold rItem rTok rSub
  rw [dif_neg (by omega)]
  simp
theorem rItem_none (u : List Int → Bool) (l : List Tok) (f k : Nat) (hk : l.length ≤ k) : rItem u l f k = none := by
 unfold rItem
 rw [dif_pos hk]
end
section

attribute [local irreducible] ifB fitP Does Weaker
def wkC (r : Option (Nat × List Int)) : List AV := match r with
 | some (a, bs) => [.int .i64 (a : Int), .own bs.length 1 (bys bs), .bool false]
 | none => [.int .i64 0, .own 0 1 [], .bool true]
def RItemOk (l : List Tok) (f : Nat) : Prop := ∀ at' : Nat, at' ≤ 1000000 → ACall Tryd.prog 93 [.ro l.length (toksC l), .int .i64 at', .int .i64 (6 - (f : Int))] (.agg (wkC (rItem validR l f at'))) []
theorem ritem_none (l : List Tok) (f : Nat) (hl : l.length ≤ 1000000) (at' : Nat) (h : l.length ≤ at') (d : Int) : ACall Tryd.prog 93 [.ro l.length (toksC l), .int .i64 at', .int .i64 d] (.agg (wkC none)) [] := by
 refine ACall.of_does TTok Tryd.func93 rfl Tryd.call93 rfl (wpc_sound (M := MC) (PL := PL0) (CU := noCut) TTok mixed _ _ _ ?_)
 conv => whnf
 repeat ((first | (refine ifB_pos (decide_eq_true (by first | omega | rfl | (dsimp only; omega))) ?_) | refine ⟨rfl, ?_⟩ | refine ⟨_, rfl, ?_⟩ | refine ⟨⟨rfl, rfl⟩, ?_⟩ | (refine ⟨⟨rfl, rfl, ?_⟩, ?_⟩; (focus (first | exact Nat.le_of_ble_eq_true rfl | (simp; done))))); conv => whnf)
 rfl
def PLri1 : Plan := (takesTo [0, 1, 2, 6] (.all [(3, (takesTo [4] (.all [(5, (.all [(7, (.all [(8, (takesTo [9] (.all [(10, .done)])))]))])), (7, (.all [(5, (.all [(8, (takesTo [9] (.all [(10, .done)])))]))]))]))), (7, (.all [(3, (takesTo [4] (.all [(5, (.all [(8, (takesTo [9] (.all [(10, .done)])))]))])))]))]))
def PLri : Nat → Bool × Plan := plans [(13, (false, PLri1)), (17, (false, PLri1))]
set_option maxHeartbeats 4000000 in
theorem ritem_at (l : List Tok) (hl : ToksOk l) (hlb : ∀ t ∈ l, t.b.length ≤ 1099511627776) (hll : l.length ≤ 1000000) (at' : Nat) (ha : at' < l.length) (f : Nat) (hf : f ≤ 6)
  (hm : (l[at'].k = 5 ∨ l[at'].k = 6) → ¬ rBad l[at'] → ACall Tryd.prog 93 [.ro l.length (toksC l), .int .i64 at', .int .i64 (6 - (f : Int))] (.agg (wkC (rItem validR l f at'))) []) :
  ACall Tryd.prog 93 [.ro l.length (toksC l), .int .i64 at', .int .i64 (6 - (f : Int))] (.agg (wkC (rItem validR l f at'))) [] := by
 have hL := pureL_toks l
 by_cases hmm : (l[at'].k = 5 ∨ l[at'].k = 6) ∧ ¬ rBad l[at']
 ·exact hm hmm.1 hmm.2
 clear hm
 rw [rItem_tok _ _ _ _ ha]
 obtain ⟨t, ht⟩ : ∃ t, t = l[at'] := ⟨_, rfl⟩
 have hto : TokOk t := by rw [ht]; exact hl _ (List.getElem_mem ha)
 have htb : t.b.length ≤ 1099511627776 := by rw [ht]; exact hlb _ (List.getElem_mem ha)
 have hld : ∀ m s : Nat, m = 3 * at' → s = 3 → takeN s ((toksC l).drop m) = some (tokC t) := by
  intro m s hm hs
  rw [takeN_tok ha hm hs, ht]
 rw [← ht] at hmm ⊢
 obtain ⟨k, n, b⟩ := t
 clear ht
 simp only [rBad] at htb hmm
 replace hld : ∀ m s : Nat, m = 3 * at' → s = 3 → takeN s ((toksC l).drop m) = some [.int .i64 k, .int .i64 n, .ro b.length (bys b)] := hld
 refine ACall.of_does TTok Tryd.func93 rfl Tryd.call93 rfl (wpc_sound (M := MC) (PL := PLri) (CU := cutAt [200005]) TTok mixed _ _ _ ?_)
 conv => whnf
 repeat ((first | (refine ifB_neg (decide_eq_false (by first | omega | rfl | (dsimp only; omega))) ?_) | refine ⟨rfl, ?_⟩ | (refine ⟨⟨rfl, rfl, ?_⟩, ?_⟩; (focus (first | exact Nat.le_of_ble_eq_true rfl | (simp; done)))) | (refine ⟨⟨?_, ?_, ?_⟩, ?_⟩; (focus omega); (focus (first | omega | (simp; done) | (simp; omega))); (focus (first | (simp; done) | (simp; omega) | (rw [toksC_length]; simp; omega))))); conv => whnf)
 refine ⟨_, hld _ _ (by simp; omega) rfl, ?_⟩
 conv => whnf
 repeat ((first | refine ⟨rfl, ?_⟩ | (refine ⟨⟨rfl, rfl, ?_⟩, ?_⟩; (focus (first | exact Nat.le_of_ble_eq_true rfl | (simp; done))))); conv => whnf)
 refine Does.seqCut (α := Unit) (fun _ => mkSt [(0, .ro l.length (toksC l)), (1, .int .i64 (at' : Int)), (2, .int .i64 (6 - (f : Int))), (6, .ptr 0 0), (7, .ptr 1 0), (8, .ptr 2 0), (57, .bool (decide (rBad ⟨k, n, b⟩)))]
  [(0, [.int .i64 0, .nil, .bool false]), (1, [.int .i64 0, .nil, .bool true]), (2, [.int .i64 k, .int .i64 n, .ro b.length (bys b)])] 3 191) (fun _ => True) ?_ (fun _ _ => ?_)
 ·refine wpc_sound (M := MC) (PL := PL0) (CU := noCut) TTok mixed _ _ _ ?_
  conv => whnf
  repeat' (first | (refine ifB_t ?_; (conv => whnf)) | (refine ifB_f ?_; (conv => whnf)) | (refine ifB_neg (decide_eq_false (by first | omega | rfl | (dsimp only; omega))) ?_; (conv => whnf)) | (refine ifB_pos (decide_eq_true (by first | omega | rfl | (dsimp only; omega))) ?_; (conv => whnf)) | (exact ⟨(), trivial, weaker_of [(0, 0), (1, 1), (2, 2)] rfl rfl ⟨⟨rfl, rfl, hL⟩, ⟨rfl, rfl⟩, ⟨rfl, rfl⟩, ⟨rfl, rfl⟩, ⟨rfl, rfl⟩, ⟨rfl, rfl⟩, leP_bool (by first | exact (decide_eq_true (p := rBad ⟨k, n, b⟩) (by simp only [rBad]; omega)).symm | exact (decide_eq_false (p := rBad ⟨k, n, b⟩) (by simp only [rBad]; omega)).symm | exact decide_eq_decide.2 (by simp only [rBad]; omega)), trivial⟩ ⟨⟨⟨rfl, rfl⟩, trivial, rfl, trivial⟩, ⟨⟨rfl, rfl⟩, trivial, rfl, trivial⟩, ⟨⟨rfl, rfl⟩, ⟨rfl, rfl⟩, ⟨rfl, rfl, pureL_bys _⟩, trivial⟩, trivial⟩⟩) | (refine ⟨_, rfl, ?_⟩; conv => whnf) | (refine ifB_dec (fun _ => ?_) (fun _ => ?_) <;> conv => whnf) | (refine And.intro ?_ ?_ <;> conv => whnf))
 ·refine wpc_sound (M := MC) (PL := PLri) (CU := noCut) TTok mixed _ _ _ ?_
  conv => whnf
  unfold rTok
  refine ifB_bool (fun hC => ?_) (fun hC => ?_)
  ·rw [if_pos (of_decide_eq_true hC)]
   conv => whnf
   repeat ((first | refine ⟨rfl, ?_⟩ | refine ⟨_, rfl, ?_⟩ | refine ⟨⟨rfl, rfl⟩, ?_⟩ | (refine ⟨⟨rfl, rfl, ?_⟩, ?_⟩; (focus (first | exact Nat.le_of_ble_eq_true rfl | (simp; done))))); conv => whnf)
   rfl
  have hC := of_decide_eq_false hC
  rw [if_neg hC]
  simp only [rBad] at hC
  conv => whnf
  repeat ((refine ⟨_, rfl, ?_⟩); conv => whnf)
  have hp2 := putL_short 2 (n := (b.length : Int)) (by omega)
  have hp3 := putL_short 3 (n := (b.length : Int)) (by omega)
  refine ifB_dec (fun k1 => ?_) (fun k1 => ?_)
  ·rw [if_pos k1]
   conv => whnf
   repeat ((first | (refine fit_i64 ⟨by first | omega | rfl | (dsimp only; omega), by first | omega | rfl | (dsimp only; omega)⟩ ?_) | refine ⟨rfl, ?_⟩ | refine ⟨_, rfl, ?_⟩); conv => whnf)
   refine ⟨_, _, refHead_ok 0 n (by omega) (by omega) (by omega), by first | rfl | simp [noRoIf, noRoL, noRoV, noRoL_bys], ?_⟩
   conv => whnf
   repeat ((first | refine ⟨rfl, ?_⟩ | refine ⟨_, rfl, ?_⟩ | refine ⟨⟨rfl, rfl⟩, ?_⟩ | (refine ⟨⟨rfl, rfl, rfl, ?_, pureL_bys _⟩, ?_⟩; (focus (simp; done))) | (refine ⟨⟨rfl, rfl, ?_⟩, ?_⟩; (focus (first | exact Nat.le_of_ble_eq_true rfl | (simp; done))))); conv => whnf)
   rfl
  rw [if_neg k1]
  conv => whnf
  refine ifB_dec (fun k2 => ?_) (fun k2 => ?_)
  ·rw [if_pos k2]
   conv => whnf
   repeat ((first | (refine fit_i64 ⟨by first | omega | rfl | (dsimp only; omega), by first | omega | rfl | (dsimp only; omega)⟩ ?_) | refine ⟨rfl, ?_⟩ | refine ⟨_, rfl, ?_⟩); conv => whnf)
   refine ⟨_, _, refHead_ok 1 n (by omega) (by omega) (by omega), by first | rfl | simp [noRoIf, noRoL, noRoV, noRoL_bys], ?_⟩
   conv => whnf
   repeat ((first | refine ⟨rfl, ?_⟩ | refine ⟨_, rfl, ?_⟩ | refine ⟨⟨rfl, rfl⟩, ?_⟩ | (refine ⟨⟨rfl, rfl, rfl, ?_, pureL_bys _⟩, ?_⟩; (focus (simp; done))) | (refine ⟨⟨rfl, rfl, ?_⟩, ?_⟩; (focus (first | exact Nat.le_of_ble_eq_true rfl | (simp; done))))); conv => whnf)
   rfl
  rw [if_neg k2]
  conv => whnf
  refine ifB_dec (fun k3 => ?_) (fun k3 => ?_)
  ·rw [if_pos k3]
   conv => whnf
   refine ⟨by kernel_rfl, ?_⟩
   conv => whnf
   repeat' (first | (refine fit_i64 ⟨by first | omega | rfl | (dsimp only; omega), by first | omega | rfl | (dsimp only; omega)⟩ ?_; (conv => whnf)) | (refine ⟨ones_bys _, ?_⟩; (conv => whnf)) | (refine ⟨rfl, ?_⟩; (conv => whnf)) | (refine ⟨⟨rfl, rfl⟩, ?_⟩; (conv => whnf)) | (refine ⟨⟨rfl, rfl, ?_⟩, ?_⟩; (focus (first | exact Nat.le_of_ble_eq_true rfl | (simp; done))); (conv => whnf)) | (refine ⟨⟨rfl, rfl, ?_, ?_⟩, ?_⟩; (focus (first | (simp [lenB, offB]; done) | (simp [lenB, offB]; omega))); (focus (first | (simp [limB, lenB, offB]; done) | (simp [limB, lenB, offB]; omega))); (conv => whnf)) | (refine And.intro ?_ ?_; (focus (first | (simp [limB, lenB, offB]; done) | (simp [limB, lenB, offB]; omega))); (conv => whnf)) | (refine ⟨_, _, refHead_ok 2 b.length (by omega) (by omega) (by omega), by first | rfl | simp [noRoIf, noRoL, noRoV, noRoL_bys], ?_⟩; conv => whnf) | (refine ⟨⟨by simp, rfl, by rw [bys_append], by simp, pureL_bys _⟩, ?_⟩; conv => whnf) | (rfl) | (refine ⟨_, rfl, ?_⟩; conv => whnf) | (refine And.intro ?_ ?_ <;> conv => whnf))
  rw [if_neg k3]
  conv => whnf
  refine ifB_dec (fun k4 => ?_) (fun k4 => ?_)
  ·rw [if_pos k4]
   have hu := refUtf8_ok b hto.2.2 htb
   cases hv : validR b
   ·rw [hv] at hu
    rw [if_neg (by simp)]
    conv => whnf
    repeat ((first | refine ⟨pureL_bys _, ?_⟩ | refine ⟨rfl, ?_⟩ | refine ⟨_, rfl, ?_⟩); conv => whnf)
    refine ⟨_, _, hu, by first | rfl | simp [noRoIf, noRoL, noRoV, noRoL_bys], ?_⟩
    conv => whnf
    repeat ((first | refine ifB_t ?_ | refine ⟨rfl, ?_⟩ | refine ⟨_, rfl, ?_⟩ | refine ⟨⟨rfl, rfl⟩, ?_⟩ | (refine ⟨⟨rfl, rfl, ?_⟩, ?_⟩; (focus (first | exact Nat.le_of_ble_eq_true rfl | (simp; done))))); conv => whnf)
    rfl
   rw [hv] at hu
   rw [if_pos rfl]
   conv => whnf
   repeat ((first | refine ⟨pureL_bys _, ?_⟩ | refine ⟨rfl, ?_⟩ | refine ⟨_, rfl, ?_⟩); conv => whnf)
   refine ⟨_, _, hu, by first | rfl | simp [noRoIf, noRoL, noRoV, noRoL_bys], ?_⟩
   conv => whnf
   repeat ((refine ifB_f ?_); conv => whnf)
   refine ⟨by kernel_rfl, ?_⟩
   conv => whnf
   repeat' (first | (refine fit_i64 ⟨by first | omega | rfl | (dsimp only; omega), by first | omega | rfl | (dsimp only; omega)⟩ ?_; (conv => whnf)) | (refine ⟨ones_bys _, ?_⟩; (conv => whnf)) | (refine ⟨rfl, ?_⟩; (conv => whnf)) | (refine ⟨⟨rfl, rfl⟩, ?_⟩; (conv => whnf)) | (refine ⟨⟨rfl, rfl, ?_⟩, ?_⟩; (focus (first | exact Nat.le_of_ble_eq_true rfl | (simp; done))); (conv => whnf)) | (refine ⟨⟨rfl, rfl, ?_, ?_⟩, ?_⟩; (focus (first | (simp [lenB, offB]; done) | (simp [lenB, offB]; omega))); (focus (first | (simp [limB, lenB, offB]; done) | (simp [limB, lenB, offB]; omega))); (conv => whnf)) | (refine And.intro ?_ ?_; (focus (first | (simp [limB, lenB, offB]; done) | (simp [limB, lenB, offB]; omega))); (conv => whnf)) | (refine ⟨_, _, refHead_ok 3 b.length (by omega) (by omega) (by omega), by first | rfl | simp [noRoIf, noRoL, noRoV, noRoL_bys], ?_⟩; conv => whnf) | (refine ⟨⟨by simp, rfl, by rw [bys_append], by simp, pureL_bys _⟩, ?_⟩; conv => whnf) | (rfl) | (refine ⟨_, rfl, ?_⟩; conv => whnf) | (refine And.intro ?_ ?_ <;> conv => whnf))
  rw [if_neg k4]
  clear hp2 hp3
  have k5 : k ≠ 5 := by omega
  have k6 : k ≠ 6 := by omega
  rw [if_neg (show ¬ (k = 5 ∨ k = 6) by omega)]
  conv => whnf
  repeat ((first | (refine ifB_neg (decide_eq_false (by first | omega | rfl | (dsimp only; omega))) ?_) | refine ⟨rfl, ?_⟩ | refine ⟨_, rfl, ?_⟩ | refine ⟨⟨rfl, rfl⟩, ?_⟩ | (refine ⟨⟨rfl, rfl, ?_⟩, ?_⟩; (focus (first | exact Nat.le_of_ble_eq_true rfl | (simp; done))))); conv => whnf)
  rfl
end
section

attribute [local irreducible] ifB fitP Does Weaker
def PLrm : Nat → Bool × Plan := plans [(38, (false, (takesTo [0, 2, 4] (.all [(1, (.all [(3, (takesTo [7] (.all [(5, (.all [(6, (.all [(8, (takesTo [9] (.all [(10, .done)])))]))]))]))), (5, (.all [(3, (takesTo [7] (.all [(6, (.all [(8, (takesTo [9] (.all [(10, .done)])))]))])))]))])), (3, (.all [(1, (takesTo [7] (.all [(5, (.all [(6, (.all [(8, (takesTo [9] (.all [(10, .done)])))]))]))]))), (5, (.all [(1, (takesTo [7] (.all [(6, (.all [(8, (takesTo [9] (.all [(10, .done)])))]))]))), (6, (.all [(1, (takesTo [7] (.all [(8, (takesTo [9] (.all [(10, .done)])))])))]))]))])), (5, (.all [(1, (.all [(3, (takesTo [7] (.all [(6, (.all [(8, (takesTo [9] (.all [(10, .done)])))]))])))])), (3, (.all [(1, (takesTo [7] (.all [(6, (.all [(8, (takesTo [9] (.all [(10, .done)])))]))]))), (6, (.all [(1, (takesTo [7] (.all [(8, (takesTo [9] (.all [(10, .done)])))])))]))]))]))]))))]
theorem Does.weakerTo' {P : Program} {k : Nat} {c : Code} {Q : AX → St → Prop} {st : St} {env : List (Nat × AV)} {heap : List (Nat × List AV)} {nx n : Nat} (g : List (Nat × Nat)) (hn : st.n = n) (hg : renOk k g heap nx = true)
  (he : envLe (oldOf k g) st.env env) (hh : heapLe (oldOf k g) st.heap heap) (h : Does P k c Q (mkSt env heap nx n)) : Does P k c Q st := Does.weaker (weaker_of g hn hg he hh) h
theorem whole_bys (l : List Int) : (List.drop 0 (bys l)).take (l.length * 1) = bys l := by rw [List.drop_zero, Nat.mul_one]; exact List.take_of_length_le (by simp)
theorem rItem_byt {l : List Tok} (hl : ToksOk l) {f a a' : Nat} {x : List Int} (h : rItem validR l f a = some (a', x)) (hx : x.length ≤ 32768) : Byt x := by
 have := item_fits validR l f a [] a' x h (by simpa using hx)
 have h2 := wItem_byt validR l hl f ⟨a, [], false⟩ (by simp [Byt])
 rw [this] at h2
 simpa using h2
theorem rLoop_len {g : Nat → Option (Nat × List Int)} {mp : Bool} : ∀ (n i at' : Nat) (b last : List Int) (a : Nat) (bs : List Int), rLoop g mp n i at' b last = some (a, bs) → bs.length ≤ max 32768 b.length
 | 0, i, at', b, last, a, bs, h => by
  simp only [rLoop, Option.some.injEq, Prod.mk.injEq] at h
  rw [h.2]; omega
 | n + 1, i, at', b, last, a, bs, h => by
  unfold rLoop at h
  split at h
  ·cases h
  rename_i a1 x hg
  split at h
  ·cases h
  split at h
  ·split at h
   ·cases h
   ·have := rLoop_len n _ _ _ _ _ _ h
    simp only [List.length_append] at this; omega
  ·have := rLoop_len n _ _ _ _ _ _ h
   simp only [List.length_append] at this; omega
theorem rItem_len {u : List Int → Bool} {l : List Tok} (hlb : ∀ t ∈ l, t.b.length ≤ 1099511627776) {f k a : Nat} {x : List Int} (h : rItem u l f k = some (a, x)) : x.length ≤ 1099511627785 := by
 by_cases hk : k < l.length
 ·rw [rItem_tok u l f k hk] at h
  have hb := hlb _ (List.getElem_mem hk)
  have fin : ∀ (g : Nat → Option (Nat × List Int)) (mp : Bool) (n i at' : Nat) (M N : Int) (last : List Int), 0 ≤ N → rLoop g mp n i at' (putL M N) last = some (a, x) → x.length ≤ 1099511627785 := by
   intro g mp n i at' M N last hN h
   have h1 := rLoop_len _ _ _ _ _ _ _ h
   have h2 := putL_short M hN
   omega
  unfold rTok at h
  split at h
  ·cases h
  rename_i h0
  simp only [rBad] at h0
  split at h
  ·simp only [Option.some.injEq, Prod.mk.injEq] at h; obtain ⟨rfl, rfl⟩ := h; have := putL_short 0 (n := l[k].n) (by omega); omega
  split at h
  ·simp only [Option.some.injEq, Prod.mk.injEq] at h; obtain ⟨rfl, rfl⟩ := h; have := putL_short 1 (n := l[k].n) (by omega); omega
  split at h
  ·simp only [Option.some.injEq, Prod.mk.injEq] at h; obtain ⟨rfl, rfl⟩ := h; have := putL_short 2 (n := (l[k].b.length : Int)) (by omega); simp only [List.length_append]; omega
  split at h
  ·split at h
   ·simp only [Option.some.injEq, Prod.mk.injEq] at h; obtain ⟨rfl, rfl⟩ := h; have := putL_short 3 (n := (l[k].b.length : Int)) (by omega); simp only [List.length_append]; omega
   ·cases h
  split at h
  ·split at h
   ·cases h
   split at h
   ·cases h
   split at h
   ·exact fin _ _ _ _ _ _ _ _ (by omega) h
   ·exact fin _ _ _ _ _ _ _ _ (by omega) h
  ·cases h
 ·rw [rItem_none _ _ _ _ (by omega)] at h
  cases h
set_option maxHeartbeats 4000000 in
theorem ritem_many (l : List Tok) (hl : ToksOk l) (hlb : ∀ t ∈ l, t.b.length ≤ 1099511627776) (hll : l.length ≤ 1000000) (at' : Nat) (ha : at' < l.length) (f : Nat) (hf : f ≤ 6) (hi : ∀ f', f = f' + 1 → RItemOk l f')
  (hk : l[at'].k = 5 ∨ l[at'].k = 6) (hb : ¬ rBad l[at']) :
  ACall Tryd.prog 93 [.ro l.length (toksC l), .int .i64 at', .int .i64 (6 - (f : Int))] (.agg (wkC (rItem validR l f at'))) [] := by
 have hL := pureL_toks l
 rw [rItem_tok _ _ _ _ ha]
 obtain ⟨t, ht⟩ : ∃ t, t = l[at'] := ⟨_, rfl⟩
 have hto : TokOk t := by rw [ht]; exact hl _ (List.getElem_mem ha)
 have hld : ∀ m s : Nat, m = 3 * at' → s = 3 → takeN s ((toksC l).drop m) = some (tokC t) := by
  intro m s hm hs
  rw [takeN_tok ha hm hs, ht]
 rw [← ht] at hk hb ⊢
 obtain ⟨k, n, b⟩ := t
 clear ht
 obtain ⟨q1, q2, _⟩ := hto
 simp only at hk q2
 have hrt : rTok validR (rSub validR l f) (decide (f = 0)) ⟨k, n, b⟩ (at' + 1) =
   if f = 0 ∨ 64 < n then none else rLoop (rSub validR l f) (decide (k = 6)) (if k = 6 then 2 * n.toNat else n.toNat) 0 (at' + 1) (putL (k - 1) n) [] := by
  unfold rTok
  rw [if_neg hb]
  simp only
  rw [if_neg (show ¬ k = 1 by omega), if_neg (show ¬ k = 2 by omega), if_neg (show ¬ k = 3 by omega), if_neg (show ¬ k = 4 by omega), if_pos hk]
  by_cases h0 : f = 0
  ·simp [h0]
  ·rcases hk with rfl | rfl <;> simp [h0]
 rw [hrt]
 clear hrt
 simp only [rBad] at hb
 have hb0 : b = [] := List.length_eq_zero_iff.1 (by omega)
 subst hb0
 obtain ⟨N, rfl⟩ : ∃ N : Nat, n = N := ⟨n.toNat, by omega⟩
 replace hld : ∀ m s : Nat, m = 3 * at' → s = 3 → takeN s ((toksC l).drop m) = some [.int .i64 k, .int .i64 N, .ro 0 []] := hld
 rw [Int.toNat_natCast]
 refine ACall.of_does TTok Tryd.func93 rfl Tryd.call93 rfl (wpc_sound (M := MC) (PL := PLrm) (CU := noCut) TTok mixed _ _ _ ?_)
 conv => whnf
 repeat ((first | (refine ifB_neg (decide_eq_false (by first | omega | rfl | (dsimp only; omega))) ?_) | refine ⟨rfl, ?_⟩ | (refine ⟨⟨rfl, rfl, ?_⟩, ?_⟩; (focus (first | exact Nat.le_of_ble_eq_true rfl | (simp; done)))) | (refine ⟨⟨?_, ?_, ?_⟩, ?_⟩; (focus omega); (focus (first | omega | (simp; done) | (simp; omega))); (focus (first | (simp; done) | (simp; omega) | (rw [toksC_length]; simp; omega))))); conv => whnf)
 refine ⟨_, hld _ _ (by simp; omega) rfl, ?_⟩
 conv => whnf
 repeat ((first | refine ifB_t ?_ | refine ifB_f ?_ | (refine ifB_neg (decide_eq_false (by first | omega | rfl | (dsimp only; omega))) ?_) | (refine ifB_pos (decide_eq_true (by first | omega | rfl | (dsimp only; omega))) ?_) | refine ⟨rfl, ?_⟩ | refine ⟨_, rfl, ?_⟩ | (refine ⟨⟨rfl, rfl, ?_⟩, ?_⟩; (focus (first | exact Nat.le_of_ble_eq_true rfl | (simp; done))))); conv => whnf)
 by_cases h0 : f = 0 ∨ 64 < (N : Int)
 ·rw [if_pos h0]
  rcases hk with rfl | rfl
  all_goals
   conv => whnf
   repeat' (first | (refine ifB_t ?_; (conv => whnf)) | (refine ifB_f ?_; (conv => whnf)) | (refine ifB_pos (decide_eq_true (by first | omega | rfl | (dsimp only; omega))) ?_; (conv => whnf)) | (refine ⟨rfl, ?_⟩; (conv => whnf)) | (refine ⟨⟨rfl, rfl⟩, ?_⟩; (conv => whnf)) | (refine ⟨⟨rfl, rfl, ?_⟩, ?_⟩; (focus (first | exact Nat.le_of_ble_eq_true rfl | (simp; done))); (conv => whnf)) | (rfl) | (omega) | (refine ⟨_, rfl, ?_⟩; conv => whnf) | (refine ifB_dec (fun _ => ?_) (fun _ => ?_) <;> conv => whnf) | (refine And.intro ?_ ?_ <;> conv => whnf))
 rw [if_neg h0]
 obtain ⟨f, rfl⟩ : ∃ f', f = f' + 1 := ⟨f - 1, by omega⟩
 have hi := hi f rfl
 obtain ⟨mp, hmp⟩ : ∃ mp, mp = decide (k = 6) := ⟨_, rfl⟩
 obtain ⟨items, hit⟩ : ∃ items : Nat, items = if k = 6 then 2 * N else N := ⟨_, rfl⟩
 rw [← hmp, ← hit]
 have hgo := rItem_go validR l f
 have hi' : ∀ a : Nat, a ≤ l.length → ACall Tryd.prog 93 [.ro l.length (toksC l), .int .i64 a, .int .i64 (6 - ((f + 1 : Nat) : Int) + 1)] (.agg (wkC (rItem validR l f a))) [] := by
  intro a h
  have := hi a (by omega)
  rwa [show (6 : Int) - (f : Int) = 6 - ((f + 1 : Nat) : Int) + 1 by omega] at this
 have hp4 := putL_short 4 (n := (N : Int)) (by omega)
 have hp5 := putL_short 5 (n := (N : Int)) (by omega)
 obtain ⟨R, hR⟩ : ∃ R, R = rLoop (rSub validR l (f + 1)) mp items 0 (at' + 1) (putL (k - 1) N) [] := ⟨_, rfl⟩
 rw [← hR]
 rcases hk with rfl | rfl
 ·have hmp : mp = false := hmp
  subst hmp
  have hit : items = N := hit
  conv => whnf
  repeat ((first | refine ifB_t ?_ | refine ifB_f ?_ | (refine ifB_neg (decide_eq_false (by first | omega | rfl | (dsimp only; omega))) ?_) | (refine fit_i64 ⟨by first | omega | rfl | (dsimp only; omega), by first | omega | rfl | (dsimp only; omega)⟩ ?_) | refine ⟨rfl, ?_⟩ | refine ⟨_, rfl, ?_⟩); conv => whnf)
  refine ⟨_, _, refHead_ok 4 N (by omega) (by omega) (by omega), by first | rfl | simp [noRoIf, noRoL, noRoV, noRoL_bys], ?_⟩
  conv => whnf
  repeat ((first | refine ifB_f ?_ | refine ⟨rfl, ?_⟩ | refine ⟨_, rfl, ?_⟩ | (refine ⟨⟨rfl, rfl, ?_⟩, ?_⟩; (focus (first | exact Nat.le_of_ble_eq_true rfl | (simp; done))))); conv => whnf)
  refine Does.loop (fun p : Nat × Nat × List Int × List Int => mkSt [(0, .ro l.length (toksC l)), (2, .int .i64 (6 - ((f + 1 : Nat) : Int))), (6, .ptr 0 0), (7, .ptr 1 0), (8, .ptr 2 0), (9, .int .i64 items), (10, .ptr 3 0), (11, .ro p.2.2.2.length (bys p.2.2.2)), (12, .int .i64 (p.1 : Int))]
   [(0, [.int .i64 0, .nil, .bool false]), (1, [.int .i64 0, .nil, .bool true]), (2, [.int .i64 5, .int .i64 N, .ro 0 []]), (3, [.int .i64 (p.2.1 : Int), .sl 4 0 p.2.2.1.length 1 false, .bool false]), (4, bys p.2.2.1)] 5 191)
   (fun p => p.1 ≤ items ∧ p.2.1 ≤ l.length ∧ p.2.2.1.length ≤ 32768 ∧ Byt p.2.2.2 ∧ rLoop (rItem validR l f) false (items - p.1) p.1 p.2.1 p.2.2.1 p.2.2.2 = R) (fun p => items - p.1) ?_ (0, at' + 1, putL 4 N, []) ⟨Nat.zero_le _, by simp only; omega, by simp only; omega, by simp [Byt], hR.symm⟩ ?_
  ·rintro ⟨i, a, bs, last⟩ ⟨p1, p2, p3, pb, p4⟩
   simp only at p1 p2 p3 pb p4
   refine wpc_sound (M := MC) (PL := PLrm) (CU := cutAt [100032]) TTok mixed _ _ _ ?_
   conv => whnf
   refine ifB_dec (fun j1 => ?_) (fun j1 => ?_)
   ·have c1 : i < items := by simp only at j1; omega
    obtain ⟨m, hm⟩ : ∃ m, items - i = m + 1 := ⟨items - i - 1, by omega⟩
    rw [hm] at p4
    unfold rLoop at p4
    have hx := hi' a p2
    cases hr : rItem validR l f a with
    | none =>
     rw [hr] at p4 hx
     simp only at p4
     rw [← p4]
     conv => whnf
     repeat ((first | (refine fit_i64 ⟨by first | omega | rfl | (dsimp only; omega), by first | omega | rfl | (dsimp only; omega)⟩ ?_) | refine ⟨rfl, ?_⟩ | refine ⟨_, rfl, ?_⟩ | (refine And.intro (by first | omega | rfl | (dsimp only; omega)) ?_)); conv => whnf)
     refine ⟨_, _, hx, by first | rfl | simp [noRoIf, noRoL, noRoV, noRoL_bys], ?_⟩
     conv => whnf
     repeat ((first | refine ⟨rfl, ?_⟩ | (refine ⟨⟨rfl, rfl, ?_⟩, ?_⟩; (focus (first | exact Nat.le_of_ble_eq_true rfl | (simp; done))))); conv => whnf)
     refine wpc_sound (M := MC) (PL := PLrm) (CU := noCut) TTok mixed _ _ _ ?_
     conv => whnf
     repeat ((first | refine ifB_t ?_ | refine ⟨rfl, ?_⟩ | refine ⟨_, rfl, ?_⟩ | refine ⟨⟨rfl, rfl⟩, ?_⟩ | (refine ⟨⟨rfl, rfl, ?_⟩, ?_⟩; (focus (first | exact Nat.le_of_ble_eq_true rfl | (simp; done))))); conv => whnf)
     rfl
    | some r =>
     obtain ⟨a', x⟩ := r
     obtain ⟨g1, g2, g3⟩ := hgo _ _ _ hr
     have xl := rItem_len hlb hr
     rw [hr] at p4 hx
     simp only at p4
     simp only [wkC] at hx
     conv => whnf
     repeat ((first | (refine fit_i64 ⟨by first | omega | rfl | (dsimp only; omega), by first | omega | rfl | (dsimp only; omega)⟩ ?_) | refine ⟨rfl, ?_⟩ | refine ⟨_, rfl, ?_⟩ | (refine And.intro (by first | omega | rfl | (dsimp only; omega)) ?_)); conv => whnf)
     refine ⟨_, _, hx, by first | rfl | simp [noRoIf, noRoL, noRoV, noRoL_bys], ?_⟩
     conv => whnf
     repeat ((first | refine ⟨rfl, ?_⟩ | (refine ⟨⟨rfl, rfl, ?_⟩, ?_⟩; (focus (first | exact Nat.le_of_ble_eq_true rfl | (simp; done))))); conv => whnf)
     refine Does.freeze 5 rfl (Does.weakerTo' (env := [(0, .ro l.length (toksC l)), (2, .int .i64 (6 - ((f + 1 : Nat) : Int))), (6, .ptr 0 0), (7, .ptr 1 0), (8, .ptr 2 0), (9, .int .i64 items), (10, .ptr 3 0), (11, .ro last.length (bys last)), (12, .int .i64 (i : Int)), (13, .ptr 5 0)])
      (heap := [(0, [.int .i64 0, .nil, .bool false]), (1, [.int .i64 0, .nil, .bool true]), (2, [.int .i64 5, .int .i64 N, .ro 0 []]), (3, [.int .i64 (a : Int), .sl 4 0 bs.length 1 false, .bool false]), (4, bys bs), (5, [.int .i64 a', .ro x.length (bys x), .bool false])]) (nx := 6) (n := 191) [(0, 0), (1, 1), (2, 2), (3, 3), (4, 4), (5, 6)] rfl rfl ?_ ?_ ?_)
     ·exact ⟨⟨rfl, rfl, hL⟩, ⟨rfl, rfl⟩, ⟨rfl, rfl⟩, ⟨rfl, rfl⟩, ⟨rfl, rfl⟩, ⟨rfl, rfl⟩, ⟨rfl, rfl⟩, ⟨rfl, rfl, pureL_bys _⟩, ⟨rfl, rfl⟩, ⟨rfl, rfl⟩, trivial⟩
     ·exact ⟨⟨⟨rfl, rfl⟩, trivial, rfl, trivial⟩, ⟨⟨rfl, rfl⟩, trivial, rfl, trivial⟩, ⟨⟨rfl, rfl⟩, ⟨rfl, rfl⟩, ⟨rfl, rfl, rfl⟩, trivial⟩, ⟨⟨rfl, rfl⟩, ⟨rfl, rfl, rfl, rfl, id⟩, rfl, trivial⟩, lesP_bys (frzL_bys _), ⟨⟨rfl, rfl⟩, ⟨rfl, whole_bys _, pureL_bys _⟩, rfl, trivial⟩, trivial⟩
     refine wpc_sound (M := MC) (PL := PLrm) (CU := noCut) TTok mixed _ _ _ ?_
     conv => whnf
     repeat ((first | refine ifB_f ?_ | (refine fit_i64 ⟨by first | omega | rfl | (dsimp only; omega), by first | omega | rfl | (dsimp only; omega)⟩ ?_) | refine ⟨_, rfl, ?_⟩); conv => whnf)
     refine ifB_dec (fun j2 => ?_) (fun j2 => ?_)
     ·rw [if_pos (by omega)] at p4
      rw [← p4]
      conv => whnf
      repeat ((first | refine ⟨rfl, ?_⟩ | refine ⟨_, rfl, ?_⟩ | refine ⟨⟨rfl, rfl⟩, ?_⟩ | (refine ⟨⟨rfl, rfl, ?_⟩, ?_⟩; (focus (first | exact Nat.le_of_ble_eq_true rfl | (simp; done))))); conv => whnf)
      rfl
     rw [if_neg (by omega)] at p4
     have xb := rItem_byt hl hr (by omega)
     rw [if_neg (by simp)] at p4
     have p5 := p4
     conv => whnf
     repeat ((first | refine ifB_f ?_ | refine ⟨_, rfl, ?_⟩); conv => whnf)
     refine ⟨by kernel_rfl, ?_⟩
     conv => whnf
     repeat' (first | (refine fit_i64 ⟨by first | omega | rfl | (dsimp only; omega), by first | omega | rfl | (dsimp only; omega)⟩ ?_; (conv => whnf)) | (refine ⟨ones_bys _, ?_⟩; (conv => whnf)) | (refine ⟨⟨rfl, rfl, ?_⟩, ?_⟩; (focus (first | exact Nat.le_of_ble_eq_true rfl | (simp; done))); (conv => whnf)) | (refine ⟨⟨rfl, rfl, ?_, ?_⟩, ?_⟩; (focus (first | (simp [lenB, offB]; done) | (simp [lenB, offB]; omega))); (focus (first | (simp [limB, lenB, offB]; done) | (simp [limB, lenB, offB]; omega))); (conv => whnf)) | (refine And.intro ?_ ?_; (focus (first | (simp [limB, lenB, offB]; done) | (simp [limB, lenB, offB]; omega))); (conv => whnf)) | (exact ⟨(i + 1, a', bs ++ x, last), ⟨by omega, g2, by simp; omega, pb, by rw [show items - (i + 1) = m by omega]; exact p5⟩, by simp only; omega, weaker_of [(0, 0), (1, 1), (2, 2), (3, 3), (4, 6)] rfl rfl ⟨⟨rfl, rfl, hL⟩, ⟨rfl, rfl⟩, ⟨rfl, rfl⟩, ⟨rfl, rfl⟩, ⟨rfl, rfl⟩, ⟨rfl, rfl⟩, ⟨rfl, rfl⟩, ⟨rfl, rfl, pureL_bys _⟩, ⟨rfl, rfl⟩, trivial⟩ ⟨⟨⟨rfl, rfl⟩, trivial, rfl, trivial⟩, ⟨⟨rfl, rfl⟩, trivial, rfl, trivial⟩, ⟨⟨rfl, rfl⟩, ⟨rfl, rfl⟩, ⟨rfl, rfl, rfl⟩, trivial⟩, ⟨⟨rfl, rfl⟩, ⟨rfl, by simp, by simp, rfl, id⟩, rfl, trivial⟩, lesP_bys (by rw [bys_append]), trivial⟩⟩) | (refine ⟨_, rfl, ?_⟩; conv => whnf) | (refine And.intro ?_ ?_ <;> conv => whnf))
   ·have : items - i = 0 := by simp only at j1; omega
    rw [this] at p4
    simp only [rLoop] at p4
    rw [← p4]
    conv => whnf
    repeat ((first | refine ⟨rfl, ?_⟩ | refine ⟨_, rfl, ?_⟩ | refine ⟨⟨rfl, rfl⟩, ?_⟩ | (refine ⟨⟨rfl, rfl, rfl, ?_, pureL_bys _⟩, ?_⟩; (focus (simp; done))) | (refine ⟨⟨rfl, rfl, ?_⟩, ?_⟩; (focus (first | exact Nat.le_of_ble_eq_true rfl | (simp; done))))); conv => whnf)
    rfl
  ·refine weaker_of [(0, 0), (1, 1), (2, 2), (3, 4), (4, 3)] rfl rfl ⟨⟨rfl, rfl, hL⟩, ⟨rfl, rfl⟩, ⟨rfl, rfl⟩, ⟨rfl, rfl⟩, ⟨rfl, rfl⟩, ⟨rfl, by omega⟩, ⟨rfl, rfl⟩, ⟨rfl, rfl⟩, ⟨rfl, rfl⟩, trivial⟩ ⟨⟨⟨rfl, rfl⟩, trivial, rfl, trivial⟩, ⟨⟨rfl, rfl⟩, trivial, rfl, trivial⟩, ⟨⟨rfl, rfl⟩, ⟨rfl, rfl⟩, ⟨rfl, rfl, rfl⟩, trivial⟩, ⟨⟨rfl, rfl⟩, ⟨rfl, rfl, rfl, rfl, id⟩, rfl, trivial⟩, lesP_bys rfl, trivial⟩
 ·have hmp : mp = true := hmp
  subst hmp
  have hit : items = 2 * N := hit
  conv => whnf
  repeat ((first | refine ifB_t ?_ | refine ifB_f ?_ | (refine ifB_neg (decide_eq_false (by first | omega | rfl | (dsimp only; omega))) ?_) | (refine fit_i64 ⟨by first | omega | rfl | (dsimp only; omega), by first | omega | rfl | (dsimp only; omega)⟩ ?_) | refine ⟨rfl, ?_⟩ | refine ⟨_, rfl, ?_⟩); conv => whnf)
  refine ⟨_, _, refHead_ok 4 N (by omega) (by omega) (by omega), by first | rfl | simp [noRoIf, noRoL, noRoV, noRoL_bys], ?_⟩
  conv => whnf
  repeat ((first | refine ifB_t ?_ | (refine fit_i64 ⟨by first | omega | rfl | (dsimp only; omega), by first | omega | rfl | (dsimp only; omega)⟩ ?_) | refine ⟨rfl, ?_⟩ | refine ⟨_, rfl, ?_⟩ | (refine ⟨⟨rfl, rfl, ?_⟩, ?_⟩; (focus (first | exact Nat.le_of_ble_eq_true rfl | (simp; done))))); conv => whnf)
  refine ⟨_, _, refHead_ok 5 N (by omega) (by omega) (by omega), by first | rfl | simp [noRoIf, noRoL, noRoV, noRoL_bys], ?_⟩
  conv => whnf
  repeat ((refine ⟨⟨rfl, rfl, ?_⟩, ?_⟩; (focus (first | exact Nat.le_of_ble_eq_true rfl | (simp; done)))); conv => whnf)
  refine Does.loop (fun p : Nat × Nat × List Int × List Int => mkSt [(0, .ro l.length (toksC l)), (2, .int .i64 (6 - ((f + 1 : Nat) : Int))), (6, .ptr 0 0), (7, .ptr 1 0), (8, .ptr 2 0), (9, .int .i64 items), (10, .ptr 3 0), (11, .ro p.2.2.2.length (bys p.2.2.2)), (12, .int .i64 (p.1 : Int))]
   [(0, [.int .i64 0, .nil, .bool false]), (1, [.int .i64 0, .nil, .bool true]), (2, [.int .i64 6, .int .i64 N, .ro 0 []]), (3, [.int .i64 (p.2.1 : Int), .sl 4 0 p.2.2.1.length 1 false, .bool false]), (4, bys p.2.2.1)] 5 191)
   (fun p => p.1 ≤ items ∧ p.2.1 ≤ l.length ∧ p.2.2.1.length ≤ 32768 ∧ Byt p.2.2.2 ∧ rLoop (rItem validR l f) true (items - p.1) p.1 p.2.1 p.2.2.1 p.2.2.2 = R) (fun p => items - p.1) ?_ (0, at' + 1, putL 5 N, []) ⟨Nat.zero_le _, by simp only; omega, by simp only; omega, by simp [Byt], hR.symm⟩ ?_
  ·rintro ⟨i, a, bs, last⟩ ⟨p1, p2, p3, pb, p4⟩
   simp only at p1 p2 p3 pb p4
   refine wpc_sound (M := MC) (PL := PLrm) (CU := cutAt [100032]) TTok mixed _ _ _ ?_
   conv => whnf
   refine ifB_dec (fun j1 => ?_) (fun j1 => ?_)
   ·have c1 : i < items := by simp only at j1; omega
    obtain ⟨m, hm⟩ : ∃ m, items - i = m + 1 := ⟨items - i - 1, by omega⟩
    rw [hm] at p4
    unfold rLoop at p4
    have hx := hi' a p2
    cases hr : rItem validR l f a with
    | none =>
     rw [hr] at p4 hx
     simp only at p4
     rw [← p4]
     conv => whnf
     repeat ((first | (refine fit_i64 ⟨by first | omega | rfl | (dsimp only; omega), by first | omega | rfl | (dsimp only; omega)⟩ ?_) | refine ⟨rfl, ?_⟩ | refine ⟨_, rfl, ?_⟩ | (refine And.intro (by first | omega | rfl | (dsimp only; omega)) ?_)); conv => whnf)
     refine ⟨_, _, hx, by first | rfl | simp [noRoIf, noRoL, noRoV, noRoL_bys], ?_⟩
     conv => whnf
     repeat ((first | refine ⟨rfl, ?_⟩ | (refine ⟨⟨rfl, rfl, ?_⟩, ?_⟩; (focus (first | exact Nat.le_of_ble_eq_true rfl | (simp; done))))); conv => whnf)
     refine wpc_sound (M := MC) (PL := PLrm) (CU := noCut) TTok mixed _ _ _ ?_
     conv => whnf
     repeat ((first | refine ifB_t ?_ | refine ⟨rfl, ?_⟩ | refine ⟨_, rfl, ?_⟩ | refine ⟨⟨rfl, rfl⟩, ?_⟩ | (refine ⟨⟨rfl, rfl, ?_⟩, ?_⟩; (focus (first | exact Nat.le_of_ble_eq_true rfl | (simp; done))))); conv => whnf)
     rfl
    | some r =>
     obtain ⟨a', x⟩ := r
     obtain ⟨g1, g2, g3⟩ := hgo _ _ _ hr
     have xl := rItem_len hlb hr
     rw [hr] at p4 hx
     simp only at p4
     simp only [wkC] at hx
     conv => whnf
     repeat ((first | (refine fit_i64 ⟨by first | omega | rfl | (dsimp only; omega), by first | omega | rfl | (dsimp only; omega)⟩ ?_) | refine ⟨rfl, ?_⟩ | refine ⟨_, rfl, ?_⟩ | (refine And.intro (by first | omega | rfl | (dsimp only; omega)) ?_)); conv => whnf)
     refine ⟨_, _, hx, by first | rfl | simp [noRoIf, noRoL, noRoV, noRoL_bys], ?_⟩
     conv => whnf
     repeat ((first | refine ⟨rfl, ?_⟩ | (refine ⟨⟨rfl, rfl, ?_⟩, ?_⟩; (focus (first | exact Nat.le_of_ble_eq_true rfl | (simp; done))))); conv => whnf)
     refine Does.freeze 5 rfl (Does.weakerTo' (env := [(0, .ro l.length (toksC l)), (2, .int .i64 (6 - ((f + 1 : Nat) : Int))), (6, .ptr 0 0), (7, .ptr 1 0), (8, .ptr 2 0), (9, .int .i64 items), (10, .ptr 3 0), (11, .ro last.length (bys last)), (12, .int .i64 (i : Int)), (13, .ptr 5 0)])
      (heap := [(0, [.int .i64 0, .nil, .bool false]), (1, [.int .i64 0, .nil, .bool true]), (2, [.int .i64 6, .int .i64 N, .ro 0 []]), (3, [.int .i64 (a : Int), .sl 4 0 bs.length 1 false, .bool false]), (4, bys bs), (5, [.int .i64 a', .ro x.length (bys x), .bool false])]) (nx := 6) (n := 191) [(0, 0), (1, 1), (2, 2), (3, 3), (4, 4), (5, 6)] rfl rfl ?_ ?_ ?_)
     ·exact ⟨⟨rfl, rfl, hL⟩, ⟨rfl, rfl⟩, ⟨rfl, rfl⟩, ⟨rfl, rfl⟩, ⟨rfl, rfl⟩, ⟨rfl, rfl⟩, ⟨rfl, rfl⟩, ⟨rfl, rfl, pureL_bys _⟩, ⟨rfl, rfl⟩, ⟨rfl, rfl⟩, trivial⟩
     ·exact ⟨⟨⟨rfl, rfl⟩, trivial, rfl, trivial⟩, ⟨⟨rfl, rfl⟩, trivial, rfl, trivial⟩, ⟨⟨rfl, rfl⟩, ⟨rfl, rfl⟩, ⟨rfl, rfl, rfl⟩, trivial⟩, ⟨⟨rfl, rfl⟩, ⟨rfl, rfl, rfl, rfl, id⟩, rfl, trivial⟩, lesP_bys (frzL_bys _), ⟨⟨rfl, rfl⟩, ⟨rfl, whole_bys _, pureL_bys _⟩, rfl, trivial⟩, trivial⟩
     refine wpc_sound (M := MC) (PL := PLrm) (CU := noCut) TTok mixed _ _ _ ?_
     conv => whnf
     repeat ((first | refine ifB_f ?_ | (refine fit_i64 ⟨by first | omega | rfl | (dsimp only; omega), by first | omega | rfl | (dsimp only; omega)⟩ ?_) | refine ⟨_, rfl, ?_⟩); conv => whnf)
     refine ifB_dec (fun j2 => ?_) (fun j2 => ?_)
     ·rw [if_pos (by omega)] at p4
      rw [← p4]
      conv => whnf
      repeat ((first | refine ⟨rfl, ?_⟩ | refine ⟨_, rfl, ?_⟩ | refine ⟨⟨rfl, rfl⟩, ?_⟩ | (refine ⟨⟨rfl, rfl, ?_⟩, ?_⟩; (focus (first | exact Nat.le_of_ble_eq_true rfl | (simp; done))))); conv => whnf)
      rfl
     rw [if_neg (by omega)] at p4
     have xb := rItem_byt hl hr (by omega)
     have tm : (i : Int).tmod 2 = (i : Int) % 2 := Int.tmod_eq_emod_of_nonneg (by omega)
     conv => whnf
     repeat ((first | refine ifB_t ?_ | refine ⟨_, rfl, ?_⟩ | (refine And.intro (by first | omega | rfl | (dsimp only; omega)) ?_)); conv => whnf)
     rw [tm]
     refine ifB_dec (fun j3 => ?_) (fun j3 => ?_)
     ·rw [if_pos ⟨trivial, by omega⟩] at p4
      conv => whnf
      refine ifB_dec (fun j4 => ?_) (fun j4 => ?_)
      ·conv => whnf
       repeat ((first | refine ifB_t ?_ | refine ⟨_, rfl, ?_⟩ | (refine And.intro ?_ ?_; (focus (first | (simp [limB, lenB, offB]; done) | (simp [limB, lenB, offB]; omega))))); conv => whnf)
       refine ⟨x, ⟨rfl, xb⟩, ?_⟩
       conv => whnf
       repeat ((first | refine ifB_t ?_ | (refine And.intro ?_ ?_; (focus (first | (simp [limB, lenB, offB]; done) | (simp [limB, lenB, offB]; omega))))); conv => whnf)
       refine ⟨last, ⟨rfl, pb⟩, ?_⟩
       conv => whnf
       repeat ((refine ifB_t ?_); conv => whnf)
       refine ifB_bool (fun hc => ?_) (fun hc => ?_)
       ·rw [if_pos ⟨by omega, hc⟩] at p4
        rw [← p4]
        conv => whnf
        repeat ((first | refine ⟨rfl, ?_⟩ | refine ⟨_, rfl, ?_⟩ | refine ⟨⟨rfl, rfl⟩, ?_⟩ | (refine ⟨⟨rfl, rfl, ?_⟩, ?_⟩; (focus (first | exact Nat.le_of_ble_eq_true rfl | (simp; done))))); conv => whnf)
        rfl
       ·rw [if_neg (fun h => by rw [hc] at h; simp at h)] at p4
        have p5 := p4
        conv => whnf
        repeat ((refine ⟨_, rfl, ?_⟩); conv => whnf)
        refine ⟨by kernel_rfl, ?_⟩
        conv => whnf
        repeat' (first | (refine fit_i64 ⟨by first | omega | rfl | (dsimp only; omega), by first | omega | rfl | (dsimp only; omega)⟩ ?_; (conv => whnf)) | (refine ⟨ones_bys _, ?_⟩; (conv => whnf)) | (refine ⟨⟨rfl, rfl, ?_⟩, ?_⟩; (focus (first | exact Nat.le_of_ble_eq_true rfl | (simp; done))); (conv => whnf)) | (refine ⟨⟨rfl, rfl, ?_, ?_⟩, ?_⟩; (focus (first | (simp [lenB, offB]; done) | (simp [lenB, offB]; omega))); (focus (first | (simp [limB, lenB, offB]; done) | (simp [limB, lenB, offB]; omega))); (conv => whnf)) | (refine And.intro ?_ ?_; (focus (first | (simp [limB, lenB, offB]; done) | (simp [limB, lenB, offB]; omega))); (conv => whnf)) | (exact ⟨(i + 1, a', bs ++ x, x), ⟨by omega, g2, by simp; omega, xb, by rw [show items - (i + 1) = m by omega]; exact p5⟩, by simp only; omega, weaker_of [(0, 0), (1, 1), (2, 2), (3, 3), (4, 6)] rfl rfl ⟨⟨rfl, rfl, hL⟩, ⟨rfl, rfl⟩, ⟨rfl, rfl⟩, ⟨rfl, rfl⟩, ⟨rfl, rfl⟩, ⟨rfl, rfl⟩, ⟨rfl, rfl⟩, ⟨rfl, rfl, pureL_bys _⟩, ⟨rfl, rfl⟩, trivial⟩ ⟨⟨⟨rfl, rfl⟩, trivial, rfl, trivial⟩, ⟨⟨rfl, rfl⟩, trivial, rfl, trivial⟩, ⟨⟨rfl, rfl⟩, ⟨rfl, rfl⟩, ⟨rfl, rfl, rfl⟩, trivial⟩, ⟨⟨rfl, rfl⟩, ⟨rfl, by simp, by simp, rfl, id⟩, rfl, trivial⟩, lesP_bys (by rw [bys_append]), trivial⟩⟩) | (refine ⟨_, rfl, ?_⟩; conv => whnf) | (refine And.intro ?_ ?_ <;> conv => whnf))
      ·rw [if_neg (by omega)] at p4
       have p5 := p4
       conv => whnf
       repeat ((first | refine ifB_f ?_ | refine ⟨_, rfl, ?_⟩); conv => whnf)
       refine ⟨by kernel_rfl, ?_⟩
       conv => whnf
       repeat' (first | (refine fit_i64 ⟨by first | omega | rfl | (dsimp only; omega), by first | omega | rfl | (dsimp only; omega)⟩ ?_; (conv => whnf)) | (refine ⟨ones_bys _, ?_⟩; (conv => whnf)) | (refine ⟨⟨rfl, rfl, ?_⟩, ?_⟩; (focus (first | exact Nat.le_of_ble_eq_true rfl | (simp; done))); (conv => whnf)) | (refine ⟨⟨rfl, rfl, ?_, ?_⟩, ?_⟩; (focus (first | (simp [lenB, offB]; done) | (simp [lenB, offB]; omega))); (focus (first | (simp [limB, lenB, offB]; done) | (simp [limB, lenB, offB]; omega))); (conv => whnf)) | (refine And.intro ?_ ?_; (focus (first | (simp [limB, lenB, offB]; done) | (simp [limB, lenB, offB]; omega))); (conv => whnf)) | (exact ⟨(i + 1, a', bs ++ x, x), ⟨by omega, g2, by simp; omega, xb, by rw [show items - (i + 1) = m by omega]; exact p5⟩, by simp only; omega, weaker_of [(0, 0), (1, 1), (2, 2), (3, 3), (4, 6)] rfl rfl ⟨⟨rfl, rfl, hL⟩, ⟨rfl, rfl⟩, ⟨rfl, rfl⟩, ⟨rfl, rfl⟩, ⟨rfl, rfl⟩, ⟨rfl, rfl⟩, ⟨rfl, rfl⟩, ⟨rfl, rfl, pureL_bys _⟩, ⟨rfl, rfl⟩, trivial⟩ ⟨⟨⟨rfl, rfl⟩, trivial, rfl, trivial⟩, ⟨⟨rfl, rfl⟩, trivial, rfl, trivial⟩, ⟨⟨rfl, rfl⟩, ⟨rfl, rfl⟩, ⟨rfl, rfl, rfl⟩, trivial⟩, ⟨⟨rfl, rfl⟩, ⟨rfl, by simp, by simp, rfl, id⟩, rfl, trivial⟩, lesP_bys (by rw [bys_append]), trivial⟩⟩) | (refine ⟨_, rfl, ?_⟩; conv => whnf) | (refine And.intro ?_ ?_ <;> conv => whnf))
     ·rw [if_neg (by omega)] at p4
      have p5 := p4
      conv => whnf
      refine ⟨by kernel_rfl, ?_⟩
      conv => whnf
      repeat' (first | (refine fit_i64 ⟨by first | omega | rfl | (dsimp only; omega), by first | omega | rfl | (dsimp only; omega)⟩ ?_; (conv => whnf)) | (refine ⟨ones_bys _, ?_⟩; (conv => whnf)) | (refine ⟨⟨rfl, rfl, ?_⟩, ?_⟩; (focus (first | exact Nat.le_of_ble_eq_true rfl | (simp; done))); (conv => whnf)) | (refine ⟨⟨rfl, rfl, ?_, ?_⟩, ?_⟩; (focus (first | (simp [lenB, offB]; done) | (simp [lenB, offB]; omega))); (focus (first | (simp [limB, lenB, offB]; done) | (simp [limB, lenB, offB]; omega))); (conv => whnf)) | (refine And.intro ?_ ?_; (focus (first | (simp [limB, lenB, offB]; done) | (simp [limB, lenB, offB]; omega))); (conv => whnf)) | (exact ⟨(i + 1, a', bs ++ x, last), ⟨by omega, g2, by simp; omega, pb, by rw [show items - (i + 1) = m by omega]; exact p5⟩, by simp only; omega, weaker_of [(0, 0), (1, 1), (2, 2), (3, 3), (4, 6)] rfl rfl ⟨⟨rfl, rfl, hL⟩, ⟨rfl, rfl⟩, ⟨rfl, rfl⟩, ⟨rfl, rfl⟩, ⟨rfl, rfl⟩, ⟨rfl, rfl⟩, ⟨rfl, rfl⟩, ⟨rfl, rfl, pureL_bys _⟩, ⟨rfl, rfl⟩, trivial⟩ ⟨⟨⟨rfl, rfl⟩, trivial, rfl, trivial⟩, ⟨⟨rfl, rfl⟩, trivial, rfl, trivial⟩, ⟨⟨rfl, rfl⟩, ⟨rfl, rfl⟩, ⟨rfl, rfl, rfl⟩, trivial⟩, ⟨⟨rfl, rfl⟩, ⟨rfl, by simp, by simp, rfl, id⟩, rfl, trivial⟩, lesP_bys (by rw [bys_append]), trivial⟩⟩) | (refine ⟨_, rfl, ?_⟩; conv => whnf) | (refine And.intro ?_ ?_ <;> conv => whnf))
   ·have : items - i = 0 := by simp only at j1; omega
    rw [this] at p4
    simp only [rLoop] at p4
    rw [← p4]
    conv => whnf
    repeat ((first | refine ⟨rfl, ?_⟩ | refine ⟨_, rfl, ?_⟩ | refine ⟨⟨rfl, rfl⟩, ?_⟩ | (refine ⟨⟨rfl, rfl, rfl, ?_, pureL_bys _⟩, ?_⟩; (focus (simp; done))) | (refine ⟨⟨rfl, rfl, ?_⟩, ?_⟩; (focus (first | exact Nat.le_of_ble_eq_true rfl | (simp; done))))); conv => whnf)
    rfl
  ·refine weaker_of [(0, 0), (1, 1), (2, 2), (3, 4), (4, 5)] rfl rfl ⟨⟨rfl, rfl, hL⟩, ⟨rfl, rfl⟩, ⟨rfl, rfl⟩, ⟨rfl, rfl⟩, ⟨rfl, rfl⟩, ⟨rfl, by omega⟩, ⟨rfl, rfl⟩, ⟨rfl, rfl⟩, ⟨rfl, rfl⟩, trivial⟩ ⟨⟨⟨rfl, rfl⟩, trivial, rfl, trivial⟩, ⟨⟨rfl, rfl⟩, trivial, rfl, trivial⟩, ⟨⟨rfl, rfl⟩, ⟨rfl, rfl⟩, ⟨rfl, rfl, rfl⟩, trivial⟩, ⟨⟨rfl, rfl⟩, ⟨rfl, rfl, rfl, rfl, id⟩, rfl, trivial⟩, lesP_bys rfl, trivial⟩
end
section

attribute [local irreducible] ifB fitP Does Weaker
theorem ritem_ok (l : List Tok) (hl : ToksOk l) (hlb : ∀ t ∈ l, t.b.length ≤ 1099511627776) (hll : l.length ≤ 1000000) : ∀ f : Nat, f ≤ 6 → RItemOk l f
 | f, hf => by
  intro at' ha
  by_cases h : at' < l.length
  ·refine ritem_at l hl hlb hll at' h f hf (fun hk hb => ritem_many l hl hlb hll at' h f hf (fun f' hf' => ?_) hk hb)
   subst hf'
   exact ritem_ok l hl hlb hll f' (by omega)
  ·rw [rItem_none _ _ _ _ (by omega)]
   exact ritem_none l f hll at' (by omega) _
theorem refEncode_ok (l : List Tok) (hl : ToksOk l) (hlb : ∀ t ∈ l, t.b.length ≤ 1099511627776) : ACall Tryd.prog 73 [.ro l.length (toksC l)]
  (.tuple [.own (encR validR l).1.length 1 (bys (encR validR l).1), .bool (decide ((encR validR l).2 = 0))]) [] := by
 have hL := pureL_toks l
 have no : (∀ a, encR validR l ≠ (a, 0)) → encR validR l = ([], 1) := fun h => (encR_or validR l).resolve_right (fun ⟨a, e⟩ => h a e)
 refine ACall.of_does TTok Tryd.func73 rfl Tryd.call73 rfl (wpc_sound (M := MC) (PL := PL0) (CU := noCut) TTok mixed _ _ _ ?_)
 conv => whnf
 refine ifB_dec (fun k1 => ?_) (fun k1 => ?_)
 ·rw [no (fun a h => by have := (encR_iff _ _ _).1 h; omega)]
  conv => whnf
  repeat ((first | refine ⟨rfl, ?_⟩ | refine ⟨⟨rfl, rfl⟩, ?_⟩); conv => whnf)
  rfl
 have hi := ritem_ok l hl hlb (by omega) 6 (by omega) 0 (by omega)
 replace hi : ACall Tryd.prog 93 [.ro l.length (toksC l), .int .i64 0, .int .i64 0] (.agg (wkC (rItem validR l 6 0))) [] := hi
 cases hr : rItem validR l 6 0 with
 | none =>
  rw [no (fun a h => by have := (encR_iff _ _ _).1 h; rw [hr] at this; simp at this)]
  rw [hr] at hi
  conv => whnf
  repeat ((first | refine ⟨rfl, ?_⟩ | (refine And.intro (by first | omega | rfl | (dsimp only; omega)) ?_)); conv => whnf)
  refine ⟨_, _, hi, by first | rfl | simp [noRoIf, noRoL, noRoV, noRoL_bys], ?_⟩
  conv => whnf
  repeat ((first | refine ifB_t ?_ | refine ⟨rfl, ?_⟩ | refine ⟨_, rfl, ?_⟩ | refine ⟨⟨rfl, rfl⟩, ?_⟩ | (refine ⟨⟨rfl, rfl, ?_⟩, ?_⟩; (focus (first | exact Nat.le_of_ble_eq_true rfl | (simp; done))))); conv => whnf)
  rfl
 | some r =>
  obtain ⟨a, bs⟩ := r
  rw [hr] at hi
  simp only [wkC] at hi
  have hlen := rItem_len hlb hr
  conv => whnf
  repeat ((first | refine ⟨rfl, ?_⟩ | (refine And.intro (by first | omega | rfl | (dsimp only; omega)) ?_)); conv => whnf)
  refine ⟨_, _, hi, by first | rfl | simp [noRoIf, noRoL, noRoV, noRoL_bys], ?_⟩
  conv => whnf
  repeat ((first | refine ifB_f ?_ | refine ⟨rfl, ?_⟩ | refine ⟨_, rfl, ?_⟩ | (refine ⟨⟨rfl, rfl, ?_⟩, ?_⟩; (focus (first | exact Nat.le_of_ble_eq_true rfl | (simp; done))))); conv => whnf)
  refine ifB_dec (fun k2 => ?_) (fun k2 => ?_)
  ·rw [no (fun a h => by have := (encR_iff _ _ _).1 h; rw [hr] at this; simp at this; omega)]
   conv => whnf
   repeat ((first | refine ifB_t ?_ | refine ⟨rfl, ?_⟩ | refine ⟨⟨rfl, rfl⟩, ?_⟩); conv => whnf)
   rfl
  conv => whnf
  repeat ((first | refine ifB_f ?_ | refine ⟨_, rfl, ?_⟩); conv => whnf)
  refine ifB_dec (fun k3 => ?_) (fun k3 => ?_)
  ·rw [no (fun a h => by have := (encR_iff _ _ _).1 h; rw [hr] at this; simp at this; obtain ⟨_, ⟨_, rfl⟩, _⟩ := this; omega)]
   conv => whnf
   repeat ((first | refine ⟨rfl, ?_⟩ | refine ⟨⟨rfl, rfl⟩, ?_⟩); conv => whnf)
   rfl
  rw [(encR_iff validR l bs).2 ⟨by omega, by rw [hr, show a = l.length by omega], by omega⟩]
  conv => whnf
  repeat ((first | refine ⟨rfl, ?_⟩ | refine ⟨_, rfl, ?_⟩ | (refine ⟨⟨rfl, rfl, rfl, ?_, pureL_bys _⟩, ?_⟩; (focus (simp; done)))); conv => whnf)
  rfl
end
section

def tBad (b : List Int) (at' : Nat) (l : List Tok) : Prop := (getR b at').2.2.2 ≠ 0 ∨ 600 ≤ l.length
instance (b : List Int) (at' : Nat) (l : List Tok) : Decidable (tBad b at' l) := by unfold tBad; infer_instance
end
section

attribute [local irreducible] ifB fitP Does Weaker
end
section

attribute [local irreducible] ifB fitP Does Weaker
end
section

attribute [local irreducible] ifB fitP Does Weaker
def orElse : List (Nat × List Mode) → (FuncId → List Mode) → FuncId → List Mode
 | [], o, g => o g
 | (f, m) :: r, o, g => cond (Nat.beq g f) m (orElse r o g)
def rowM : Mode := .rf [.rd, .rd]
def MR : FuncId → List Mode := orElse [(81, [rowM, .rd]), (51, [rowM]), (84, [rowM]), (102, [rowM]), (50, [rowM]), (82, [rowM]),
 (104, [rowM]), (54, [rowM]), (101, [rowM, .rd, .rd]), (49, [.rd]), (43, [.rd]), (42, [.rd]), (44, [.rd]), (110, [.rd])] MC
theorem whole_toks (l : List Tok) : (List.drop 0 (toksC l)).take (l.length * 3) = toksC l := by rw [List.drop_zero]; exact List.take_of_length_le (by rw [toksC_length]; omega)
theorem num_ok (n : Int) : ACall Tryd.prog 43 [.int .i64 n] (.agg (tokC ⟨1, n, []⟩)) [] := by
 refine ACall.of_does TTok Tryd.func43 rfl Tryd.call43 rfl (wpc_sound (M := MR) (PL := PL0) (CU := noCut) TTok mixed _ _ _ ?_)
 conv => whnf
 repeat ((first | refine ⟨rfl, ?_⟩ | refine ⟨_, rfl, ?_⟩ | refine ⟨⟨rfl, rfl⟩, ?_⟩ | (refine ⟨⟨rfl, rfl, ?_⟩, ?_⟩; (focus (first | exact Nat.le_of_ble_eq_true rfl | (simp; done))))); conv => whnf)
 rfl
theorem list_ok (n : Int) : ACall Tryd.prog 42 [.int .i64 n] (.agg (tokC ⟨5, n, []⟩)) [] := by
 refine ACall.of_does TTok Tryd.func42 rfl Tryd.call42 rfl (wpc_sound (M := MR) (PL := PL0) (CU := noCut) TTok mixed _ _ _ ?_)
 conv => whnf
 repeat ((first | refine ⟨rfl, ?_⟩ | refine ⟨_, rfl, ?_⟩ | refine ⟨⟨rfl, rfl⟩, ?_⟩ | (refine ⟨⟨rfl, rfl, ?_⟩, ?_⟩; (focus (first | exact Nat.le_of_ble_eq_true rfl | (simp; done))))); conv => whnf)
 rfl
theorem cstr_ok (b : List Int) : ACall Tryd.prog 44 [.ro b.length (bys b)] (.agg (tokC ⟨3, 0, b⟩)) [] := by
 refine ACall.of_does TTok Tryd.func44 rfl Tryd.call44 rfl (wpc_sound (M := MR) (PL := PL0) (CU := noCut) TTok mixed _ _ _ ?_)
 conv => whnf
 repeat ((first | refine ⟨rfl, ?_⟩ | refine ⟨_, rfl, ?_⟩ | refine ⟨⟨rfl, rfl⟩, ?_⟩ | (refine ⟨⟨rfl, rfl, ?_⟩, ?_⟩; (focus (first | assumption | exact pureL_bys _ | exact pureL_toks _))) | (refine ⟨⟨rfl, rfl, ?_⟩, ?_⟩; (focus (first | exact Nat.le_of_ble_eq_true rfl | (simp; done))))); conv => whnf)
 rfl
theorem next_no (l : List Tok) (bad : Bool) (k : Int) (h : bad = true ∨ l = [] ∨ ∃ t r, l = t :: r ∧ t.k ≠ k) :
  ACall Tryd.prog 81 [.ref [.ro l.length (toksC l), .bool bad], .int .i64 k] (.agg (tokC ⟨0, 0, []⟩)) [.ref [.ro l.length (toksC l), .bool true]] := by
 refine ACall.of_does TTok Tryd.func81 rfl Tryd.call81 rfl (wpc_sound (M := MR) (PL := PL0) (CU := noCut) TTok mixed _ _ _ ?_)
 cases bad with
 | true =>
  conv => whnf
  repeat ((first | refine ifB_t ?_ | refine ⟨rfl, ?_⟩ | refine ⟨_, rfl, ?_⟩ | refine ⟨⟨rfl, rfl⟩, ?_⟩ | (refine ⟨⟨rfl, rfl, ?_⟩, ?_⟩; (focus (first | assumption | exact pureL_bys _ | exact pureL_toks _))) | (refine ⟨⟨rfl, rfl, ?_⟩, ?_⟩; (focus (first | exact Nat.le_of_ble_eq_true rfl | (simp; done))))); conv => whnf)
  rfl
 | false =>
  cases l with
  | nil =>
   conv => whnf
   repeat ((first | refine ifB_t ?_ | refine ifB_f ?_ | refine ⟨rfl, ?_⟩ | refine ⟨_, rfl, ?_⟩ | refine ⟨⟨rfl, rfl⟩, ?_⟩ | (refine ⟨⟨rfl, rfl, ?_⟩, ?_⟩; (focus (first | assumption | exact pureL_bys _ | exact pureL_toks _))) | (refine ⟨⟨rfl, rfl, ?_⟩, ?_⟩; (focus (first | exact Nat.le_of_ble_eq_true rfl | (simp; done))))); conv => whnf)
   rfl
  | cons t r =>
   have hk : t.k ≠ k := by
    rcases h with h | h | ⟨t', r', h, hk⟩
    ·cases h
    ·cases h
    ·cases h; exact hk
   conv => whnf
   repeat ((first | refine ifB_f ?_ | (refine ifB_pos (decide_eq_true (by first | omega | rfl | (dsimp only; omega))) ?_) | refine ⟨rfl, ?_⟩ | refine ⟨_, rfl, ?_⟩ | refine ⟨⟨rfl, rfl⟩, ?_⟩ | (refine ⟨⟨rfl, rfl, ?_⟩, ?_⟩; (focus (first | assumption | exact pureL_bys _ | exact pureL_toks _))) | (refine ⟨⟨rfl, rfl, ?_⟩, ?_⟩; (focus (first | exact Nat.le_of_ble_eq_true rfl | (simp; done)))) | (refine And.intro ?_ ?_; (focus (first | (simp [toksC_length]; done) | (simp [toksC_length]; omega))))); conv => whnf)
   rfl
theorem next_yes (t : Tok) (r : List Tok) :
  ACall Tryd.prog 81 [.ref [.ro (t :: r).length (toksC (t :: r)), .bool false], .int .i64 t.k] (.agg (tokC t)) [.ref [.ro r.length (toksC r), .bool false]] := by
 refine ACall.of_does TTok Tryd.func81 rfl Tryd.call81 rfl (wpc_sound (M := MR) (PL := PL0) (CU := noCut) TTok mixed _ _ _ ?_)
 conv => whnf
 repeat ((first | refine ifB_f ?_ | (refine ifB_neg (decide_eq_false (by first | omega | rfl | (dsimp only; omega))) ?_) | refine ⟨rfl, ?_⟩ | refine ⟨_, rfl, ?_⟩ | (refine ⟨⟨rfl, rfl, ?_⟩, ?_⟩; (focus (first | exact Nat.le_of_ble_eq_true rfl | (simp; done)))) | (refine And.intro ?_ ?_; (focus (first | (simp [toksC_length]; done) | (simp [toksC_length]; omega))))); conv => whnf)
 refine ⟨⟨by rw [toksC_length]; exact Nat.mul_comm _ _, by simp [okB]; omega⟩, ?_⟩
 conv => whnf
 repeat ((first | refine ⟨rfl, ?_⟩ | refine ⟨_, rfl, ?_⟩ | refine ⟨⟨rfl, rfl⟩, ?_⟩ | (refine ⟨⟨rfl, rfl, ?_⟩, ?_⟩; (focus (first | assumption | exact pureL_bys _ | exact pureL_toks _))) | (refine ⟨⟨rfl, rfl, ?_⟩, ?_⟩; (focus (first | exact Nat.le_of_ble_eq_true rfl | (simp; done))))); conv => whnf)
 rfl
structure Rw where
 l : List Tok
 bad : Bool
def rowC (r : Rw) : List AV := [.ro r.l.length (toksC r.l), .bool r.bad]
def rNext (k : Int) (r : Rw) : Tok × Rw := if r.bad = true then (⟨0, 0, []⟩, ⟨r.l, true⟩) else match r.l with
 | [] => (⟨0, 0, []⟩, ⟨[], true⟩)
 | t :: q => if t.k = k then (t, ⟨q, false⟩) else (⟨0, 0, []⟩, ⟨t :: q, true⟩)
theorem next_ok (r : Rw) (k : Int) : ACall Tryd.prog 81 [.ref (rowC r), .int .i64 k] (.agg (tokC (rNext k r).1)) [.ref (rowC (rNext k r).2)] := by
 obtain ⟨l, bad⟩ := r
 unfold rNext rowC
 cases bad with
 | true => exact next_no l true k (.inl rfl)
 | false =>
  cases l with
  | nil => exact next_no [] false k (.inr (.inl rfl))
  | cons t q =>
   simp only [Bool.false_eq_true, if_false]
   by_cases h : t.k = k
   ·simp only [if_pos h]
    subst h
    exact next_yes t q
   ·simp only [if_neg h]
    exact next_no (t :: q) false k (.inr (.inr ⟨t, q, rfl, h⟩))
theorem rnum_ok (r : Rw) : ACall Tryd.prog 51 [.ref (rowC r)] (.int .i64 (rNext 1 r).1.n) [.ref (rowC (rNext 1 r).2)] := by
 have h := next_ok r 1
 refine ACall.of_does TTok Tryd.func51 rfl Tryd.call51 rfl (wpc_sound (M := MR) (PL := PL0) (CU := noCut) TTok mixed _ _ _ ?_)
 conv => whnf
 repeat ((first | refine ⟨rfl, ?_⟩ | (refine And.intro ?_ ?_; (focus (first | (simp only [pureL, pureV, pureL_bys, Bool.and_true, Bool.and_self]; done) | (simp only [pureL, pureV, pureL_bys, pureL_toks, Bool.and_true, Bool.and_self]; done))))); conv => whnf)
 refine ⟨_, _, h, by first | rfl | simp [noRoIf, noRoL, noRoV, noRoL_bys], ?_⟩
 conv => whnf
 repeat ((first | refine ⟨rfl, ?_⟩ | refine ⟨_, rfl, ?_⟩ | refine ⟨⟨rfl, rfl⟩, ?_⟩ | (refine ⟨⟨rfl, rfl, ?_⟩, ?_⟩; (focus (first | assumption | exact pureL_bys _ | exact pureL_toks _)))); conv => whnf)
 rfl
theorem rlist_ok (r : Rw) : ACall Tryd.prog 50 [.ref (rowC r)] (.int .i64 (rNext 5 r).1.n) [.ref (rowC (rNext 5 r).2)] := by
 have h := next_ok r 5
 refine ACall.of_does TTok Tryd.func50 rfl Tryd.call50 rfl (wpc_sound (M := MR) (PL := PL0) (CU := noCut) TTok mixed _ _ _ ?_)
 conv => whnf
 repeat ((first | refine ⟨rfl, ?_⟩ | (refine And.intro ?_ ?_; (focus (first | (simp only [pureL, pureV, pureL_bys, Bool.and_true, Bool.and_self]; done) | (simp only [pureL, pureV, pureL_bys, pureL_toks, Bool.and_true, Bool.and_self]; done))))); conv => whnf)
 refine ⟨_, _, h, by first | rfl | simp [noRoIf, noRoL, noRoV, noRoL_bys], ?_⟩
 conv => whnf
 repeat ((first | refine ⟨rfl, ?_⟩ | refine ⟨_, rfl, ?_⟩ | refine ⟨⟨rfl, rfl⟩, ?_⟩ | (refine ⟨⟨rfl, rfl, ?_⟩, ?_⟩; (focus (first | assumption | exact pureL_bys _ | exact pureL_toks _)))); conv => whnf)
 rfl
theorem rstr_ok (r : Rw) : ACall Tryd.prog 84 [.ref (rowC r)] (.ro (rNext 3 r).1.b.length (bys (rNext 3 r).1.b)) [.ref (rowC (rNext 3 r).2)] := by
 have h := next_ok r 3
 refine ACall.of_does TTok Tryd.func84 rfl Tryd.call84 rfl (wpc_sound (M := MR) (PL := PL0) (CU := noCut) TTok mixed _ _ _ ?_)
 conv => whnf
 repeat ((first | refine ⟨rfl, ?_⟩ | (refine And.intro ?_ ?_; (focus (first | (simp only [pureL, pureV, pureL_bys, Bool.and_true, Bool.and_self]; done) | (simp only [pureL, pureV, pureL_bys, pureL_toks, Bool.and_true, Bool.and_self]; done))))); conv => whnf)
 refine ⟨_, _, h, by first | rfl | simp [noRoIf, noRoL, noRoV, noRoL_bys], ?_⟩
 conv => whnf
 repeat ((first | refine ⟨rfl, ?_⟩ | refine ⟨_, rfl, ?_⟩ | (refine ⟨⟨rfl, rfl, ?_⟩, ?_⟩; (focus (first | assumption | exact pureL_bys _ | exact pureL_toks _)))); conv => whnf)
 rfl
theorem rdone_ok (r : Rw) : ACall Tryd.prog 54 [.ref (rowC r)] (.bool (!r.bad && decide (r.l = []))) [.ref (rowC r)] := by
 refine ACall.of_does TTok Tryd.func54 rfl Tryd.call54 rfl (wpc_sound (M := MR) (PL := PL0) (CU := noCut) TTok mixed _ _ _ ?_)
 obtain ⟨l, bad⟩ := r
 cases bad <;> cases l
 all_goals
  conv => whnf
  repeat ((first | refine ifB_t ?_ | refine ifB_f ?_ | refine ⟨rfl, ?_⟩ | refine ⟨_, rfl, ?_⟩ | (refine ⟨⟨rfl, rfl, ?_⟩, ?_⟩; (focus (first | assumption | exact pureL_bys _ | exact pureL_toks _)))); conv => whnf)
  rfl
def rOpen (b : List Int) : Rw := ⟨(decR validR b).1, decide ((decR validR b).2 ≠ 0)⟩
theorem open_ok (b : List Int) (hb : Byt b) (hl : b.length ≤ 1099511627776) : ACall Tryd.prog 49 [.ro b.length (bys b)] (.ref (rowC (rOpen b))) [] := by
 have h := decode_ok b hb hl
 unfold rOpen rowC
 generalize decR validR b = q at h ⊢
 obtain ⟨l, e⟩ := q
 dsimp only at h ⊢
 refine ACall.of_does TTok Tryd.func49 rfl Tryd.call49 rfl (wpc_sound (M := MR) (PL := PL0) (CU := cutAt [100002]) TTok mixed _ _ _ ?_)
 conv => whnf
 repeat ((first | refine ⟨pureL_bys _, ?_⟩ | refine ⟨rfl, ?_⟩); conv => whnf)
 refine ⟨_, _, h, by first | rfl | simp [noRoIf, noRoL, noRoV, noRoL_bys], ?_⟩
 conv => whnf
 refine Does.freeze 0 rfl (Does.weakerTo' (env := [(3, .ro l.length (toksC l)), (4, .int .i64 e)]) (heap := []) (nx := 0) (n := 15) [] rfl rfl ⟨⟨rfl, whole_toks _, pureL_toks _⟩, ⟨rfl, rfl⟩, trivial⟩ trivial (wpc_sound (M := MR) (PL := PL0) (CU := noCut) TTok mixed _ _ _ ?_))
 conv => whnf
 repeat ((first | refine ⟨rfl, ?_⟩ | (refine ⟨⟨rfl, rfl, ?_⟩, ?_⟩; (focus (first | assumption | exact pureL_bys _ | exact pureL_toks _)))); conv => whnf)
 rfl
theorem demsP_bys {H : Heap} : ∀ (l : List Int) (K : List Nat → Prop), K [] → demsP H (bys l) (bys l) K
 | [], K, h => by simpa [demsP, bys] using h
 | x :: l, K, h => by
  simp only [bys, List.map_cons, demsP, demP]
  exact ⟨⟨trivial, trivial⟩, demsP_bys l _ h⟩
theorem takeN_all : ∀ {m : Nat} {cs : List AV}, cs.length = m → takeN m cs = some cs
 | 0, [], _ => rfl
 | m + 1, c :: cs, h => by
  have ih := takeN_all (m := m) (cs := cs) (by simpa using h)
  simp [takeN, ih]
def rArr (m : Nat) (r : Rw) : List Int × Rw := if (rNext 3 r).1.b.length = m then ((rNext 3 r).1.b, (rNext 3 r).2) else (List.replicate m 0, ⟨(rNext 3 r).2.l, true⟩)
theorem rid_ok (r : Rw) : ACall Tryd.prog 82 [.ref (rowC r)] (.agg (bys (rArr 32 r).1)) [.ref (rowC (rArr 32 r).2)] := by
 have h := rstr_ok r
 unfold rArr
 generalize rNext 3 r = q at h ⊢
 obtain ⟨t, l, bad⟩ := q
 dsimp only at h ⊢
 refine ACall.of_does TTok Tryd.func82 rfl Tryd.call82 rfl (wpc_sound (M := MR) (PL := PL0) (CU := noCut) TTok mixed _ _ _ ?_)
 conv => whnf
 repeat ((first | refine ⟨rfl, ?_⟩ | (refine And.intro ?_ ?_; (focus (first | (simp only [pureL, pureV, pureL_bys, Bool.and_true, Bool.and_self]; done) | (simp only [pureL, pureV, pureL_bys, pureL_toks, Bool.and_true, Bool.and_self]; done))))); conv => whnf)
 refine ⟨_, _, h, by first | rfl | simp [noRoIf, noRoL, noRoV, noRoL_bys], ?_⟩
 conv => whnf
 refine ifB_dec (fun k1 => ?_) (fun k1 => ?_)
 ·rw [if_neg (by omega)]
  conv => whnf
  repeat ((first | refine ⟨rfl, ?_⟩ | refine ⟨_, rfl, ?_⟩ | refine ⟨⟨rfl, rfl⟩, ?_⟩ | (refine ⟨⟨rfl, rfl, ?_⟩, ?_⟩; (focus (first | assumption | exact pureL_bys _ | exact pureL_toks _))) | (refine ⟨⟨rfl, rfl, ?_⟩, ?_⟩; (focus (first | exact Nat.le_of_ble_eq_true rfl | (simp; done))))); conv => whnf)
  rfl
 ·rw [if_pos (by omega)]
  conv => whnf
  repeat ((refine And.intro ?_ ?_; (focus (first | (simp [limB, lenB, offB]; done) | (simp [limB, lenB, offB]; omega)))); conv => whnf)
  refine ⟨_, takeN_all (cs := bys t.b) (by simp; omega), ?_⟩
  conv => whnf
  refine ⟨⟨ones_bys _, by simp [cellsA]; omega⟩, ?_⟩
  conv => whnf
  refine ⟨bys t.b, ?_, ?_⟩
  ·show takeN 32 (setN (List.replicate 32 (AV.int .u8 0)) 0 (bys t.b)) = some (bys t.b)
   rw [setN_eq _ _ _ (by simp; omega)]
   have : (List.replicate 32 (AV.int .u8 0)).take 0 ++ bys t.b ++ (List.replicate 32 (AV.int .u8 0)).drop (0 + (bys t.b).length) = bys t.b := by rw [List.drop_eq_nil_of_le (by simp; omega)]; simp
   rw [this]
   exact takeN_all (by simp; omega)
  conv => whnf
  repeat ((first | refine ⟨rfl, ?_⟩ | (refine ⟨⟨rfl, rfl, ?_⟩, ?_⟩; (focus (first | assumption | exact pureL_bys _ | exact pureL_toks _)))); conv => whnf)
  exact demsP_bys _ _ rfl
def rWant (m f : Int) (r : Rw) : Rw :=
 if (rNext 5 r).1.n ≠ m then ⟨(rNext 5 r).2.l, true⟩ else if (rNext 1 (rNext 5 r).2).1.n ≠ f then ⟨(rNext 1 (rNext 5 r).2).2.l, true⟩ else (rNext 1 (rNext 5 r).2).2
theorem rwant_ok (r : Rw) (m f : Int) : ACall Tryd.prog 101 [.ref (rowC r), .int .i64 m, .int .i64 f] (.tuple []) [.ref (rowC (rWant m f r))] := by
 have h := rlist_ok r
 have h2 := rnum_ok (rNext 5 r).2
 unfold rWant
 generalize rNext 5 r = q at h h2 ⊢
 obtain ⟨t, r1⟩ := q
 dsimp only at h h2 ⊢
 generalize rNext 1 r1 = q at h2 ⊢
 obtain ⟨t2, r2⟩ := q
 dsimp only at h2 ⊢
 refine ACall.of_does TTok Tryd.func101 rfl Tryd.call101 rfl (wpc_sound (M := MR) (PL := PL0) (CU := noCut) TTok mixed _ _ _ ?_)
 conv => whnf
 repeat ((first | refine ⟨rfl, ?_⟩ | (refine And.intro ?_ ?_; (focus (first | (simp only [pureL, pureV, pureL_bys, Bool.and_true, Bool.and_self]; done) | (simp only [pureL, pureV, pureL_bys, pureL_toks, Bool.and_true, Bool.and_self]; done))))); conv => whnf)
 refine ⟨_, _, h, by first | rfl | simp [noRoIf, noRoL, noRoV, noRoL_bys], ?_⟩
 conv => whnf
 refine ifB_dec (fun k1 => ?_) (fun k1 => ?_)
 ·rw [if_pos k1]
  conv => whnf
  repeat ((first | refine ifB_t ?_ | refine ⟨rfl, ?_⟩ | (refine ⟨⟨rfl, rfl, ?_⟩, ?_⟩; (focus (first | assumption | exact pureL_bys _ | exact pureL_toks _))) | (refine ⟨⟨rfl, rfl, ?_⟩, ?_⟩; (focus (first | exact Nat.le_of_ble_eq_true rfl | (simp; done))))); conv => whnf)
  rfl
 ·rw [if_neg k1]
  conv => whnf
  repeat ((first | refine ifB_f ?_ | refine ⟨rfl, ?_⟩ | (refine And.intro ?_ ?_; (focus (first | (simp only [pureL, pureV, pureL_bys, Bool.and_true, Bool.and_self]; done) | (simp only [pureL, pureV, pureL_bys, pureL_toks, Bool.and_true, Bool.and_self]; done))))); conv => whnf)
  refine ⟨_, _, h2, by first | rfl | simp [noRoIf, noRoL, noRoV, noRoL_bys], ?_⟩
  conv => whnf
  repeat ((refine ifB_f ?_); conv => whnf)
  refine ifB_dec (fun k2 => ?_) (fun k2 => ?_)
  ·rw [if_pos k2]
   conv => whnf
   repeat ((first | refine ⟨rfl, ?_⟩ | (refine ⟨⟨rfl, rfl, ?_⟩, ?_⟩; (focus (first | assumption | exact pureL_bys _ | exact pureL_toks _))) | (refine ⟨⟨rfl, rfl, ?_⟩, ?_⟩; (focus (first | exact Nat.le_of_ble_eq_true rfl | (simp; done))))); conv => whnf)
   rfl
  ·rw [if_neg k2]
   conv => whnf
   repeat ((first | refine ⟨rfl, ?_⟩ | (refine ⟨⟨rfl, rfl, ?_⟩, ?_⟩; (focus (first | assumption | exact pureL_bys _ | exact pureL_toks _)))); conv => whnf)
   rfl
theorem rtext_ok (r : Rw) (hb : Byt (rNext 4 r).1.b) : ACall Tryd.prog 102 [.ref (rowC r)] (.str (rNext 4 r).1.b) [.ref (rowC (rNext 4 r).2)] := by
 have h := next_ok r 4
 generalize rNext 4 r = q at h hb ⊢
 refine ACall.of_does TTok Tryd.func102 rfl Tryd.call102 rfl (wpc_sound (M := MR) (PL := PL0) (CU := noCut) TTok mixed _ _ _ ?_)
 conv => whnf
 repeat ((first | refine ⟨rfl, ?_⟩ | (refine And.intro ?_ ?_; (focus (first | (simp only [pureL, pureV, pureL_bys, Bool.and_true, Bool.and_self]; done) | (simp only [pureL, pureV, pureL_bys, pureL_toks, Bool.and_true, Bool.and_self]; done))))); conv => whnf)
 refine ⟨_, _, h, by first | rfl | simp [noRoIf, noRoL, noRoV, noRoL_bys], ?_⟩
 conv => whnf
 repeat ((first | refine ⟨_, rfl, ?_⟩ | (refine And.intro ?_ ?_; (focus (first | (simp [limB, lenB, offB]; done) | (simp [limB, lenB, offB]; omega))))); conv => whnf)
 refine ⟨q.1.b, ⟨rfl, fun x hx => ⟨(hb x hx).1, by have := (hb x hx).2; omega⟩⟩, ?_⟩
 conv => whnf
 repeat ((first | refine ⟨rfl, ?_⟩ | (refine ⟨⟨rfl, rfl, ?_⟩, ?_⟩; (focus (first | assumption | exact pureL_bys _ | exact pureL_toks _)))); conv => whnf)
 rfl
theorem rsig_ok (r : Rw) : ACall Tryd.prog 104 [.ref (rowC r)] (.agg (bys (rArr 64 r).1)) [.ref (rowC (rArr 64 r).2)] := by
 have h := rstr_ok r
 unfold rArr
 generalize rNext 3 r = q at h ⊢
 obtain ⟨t, l, bad⟩ := q
 dsimp only at h ⊢
 refine ACall.of_does TTok Tryd.func104 rfl Tryd.call104 rfl (wpc_sound (M := MR) (PL := PL0) (CU := noCut) TTok mixed _ _ _ ?_)
 conv => whnf
 repeat ((first | refine ⟨rfl, ?_⟩ | (refine And.intro ?_ ?_; (focus (first | (simp only [pureL, pureV, pureL_bys, Bool.and_true, Bool.and_self]; done) | (simp only [pureL, pureV, pureL_bys, pureL_toks, Bool.and_true, Bool.and_self]; done))))); conv => whnf)
 refine ⟨_, _, h, by first | rfl | simp [noRoIf, noRoL, noRoV, noRoL_bys], ?_⟩
 conv => whnf
 refine ifB_dec (fun k1 => ?_) (fun k1 => ?_)
 ·rw [if_neg (by omega)]
  conv => whnf
  repeat ((first | refine ⟨rfl, ?_⟩ | refine ⟨_, rfl, ?_⟩ | refine ⟨⟨rfl, rfl⟩, ?_⟩ | (refine ⟨⟨rfl, rfl, ?_⟩, ?_⟩; (focus (first | assumption | exact pureL_bys _ | exact pureL_toks _))) | (refine ⟨⟨rfl, rfl, ?_⟩, ?_⟩; (focus (first | exact Nat.le_of_ble_eq_true rfl | (simp; done))))); conv => whnf)
  rfl
 ·rw [if_pos (by omega)]
  conv => whnf
  repeat ((refine And.intro ?_ ?_; (focus (first | (simp [limB, lenB, offB]; done) | (simp [limB, lenB, offB]; omega)))); conv => whnf)
  refine ⟨_, takeN_all (cs := bys t.b) (by simp; omega), ?_⟩
  conv => whnf
  refine ⟨⟨ones_bys _, by simp [cellsA]; omega⟩, ?_⟩
  conv => whnf
  refine ⟨bys t.b, ?_, ?_⟩
  ·show takeN 64 (setN (List.replicate 64 (AV.int .u8 0)) 0 (bys t.b)) = some (bys t.b)
   rw [setN_eq _ _ _ (by simp; omega)]
   have : (List.replicate 64 (AV.int .u8 0)).take 0 ++ bys t.b ++ (List.replicate 64 (AV.int .u8 0)).drop (0 + (bys t.b).length) = bys t.b := by rw [List.drop_eq_nil_of_le (by simp; omega)]; simp
   rw [this]
   exact takeN_all (by simp; omega)
  conv => whnf
  repeat ((first | refine ⟨rfl, ?_⟩ | (refine ⟨⟨rfl, rfl, ?_⟩, ?_⟩; (focus (first | assumption | exact pureL_bys _ | exact pureL_toks _)))); conv => whnf)
  exact demsP_bys _ _ rfl
end
section

structure Ent where
 au : List Int
 seq : Int
 prev : List Int
 stamp : Int
 kind : Int
 key : List Int
 val : List Int
 sig : List Int
 deriving DecidableEq
def c32 (l : List Int) (r : List AV) : List AV := .int .u8 (l.getD 0 0) :: .int .u8 (l.getD 1 0) :: .int .u8 (l.getD 2 0) :: .int .u8 (l.getD 3 0) :: .int .u8 (l.getD 4 0) :: .int .u8 (l.getD 5 0) :: .int .u8 (l.getD 6 0) :: .int .u8 (l.getD 7 0) :: .int .u8 (l.getD 8 0) :: .int .u8 (l.getD 9 0) :: .int .u8 (l.getD 10 0) :: .int .u8 (l.getD 11 0) :: .int .u8 (l.getD 12 0) :: .int .u8 (l.getD 13 0) :: .int .u8 (l.getD 14 0) :: .int .u8 (l.getD 15 0) :: .int .u8 (l.getD 16 0) :: .int .u8 (l.getD 17 0) :: .int .u8 (l.getD 18 0) :: .int .u8 (l.getD 19 0) :: .int .u8 (l.getD 20 0) :: .int .u8 (l.getD 21 0) :: .int .u8 (l.getD 22 0) :: .int .u8 (l.getD 23 0) :: .int .u8 (l.getD 24 0) :: .int .u8 (l.getD 25 0) :: .int .u8 (l.getD 26 0) :: .int .u8 (l.getD 27 0) :: .int .u8 (l.getD 28 0) :: .int .u8 (l.getD 29 0) :: .int .u8 (l.getD 30 0) :: .int .u8 (l.getD 31 0) :: r
def c64 (l : List Int) (r : List AV) : List AV := .int .u8 (l.getD 0 0) :: .int .u8 (l.getD 1 0) :: .int .u8 (l.getD 2 0) :: .int .u8 (l.getD 3 0) :: .int .u8 (l.getD 4 0) :: .int .u8 (l.getD 5 0) :: .int .u8 (l.getD 6 0) :: .int .u8 (l.getD 7 0) :: .int .u8 (l.getD 8 0) :: .int .u8 (l.getD 9 0) :: .int .u8 (l.getD 10 0) :: .int .u8 (l.getD 11 0) :: .int .u8 (l.getD 12 0) :: .int .u8 (l.getD 13 0) :: .int .u8 (l.getD 14 0) :: .int .u8 (l.getD 15 0) :: .int .u8 (l.getD 16 0) :: .int .u8 (l.getD 17 0) :: .int .u8 (l.getD 18 0) :: .int .u8 (l.getD 19 0) :: .int .u8 (l.getD 20 0) :: .int .u8 (l.getD 21 0) :: .int .u8 (l.getD 22 0) :: .int .u8 (l.getD 23 0) :: .int .u8 (l.getD 24 0) :: .int .u8 (l.getD 25 0) :: .int .u8 (l.getD 26 0) :: .int .u8 (l.getD 27 0) :: .int .u8 (l.getD 28 0) :: .int .u8 (l.getD 29 0) :: .int .u8 (l.getD 30 0) :: .int .u8 (l.getD 31 0) :: .int .u8 (l.getD 32 0) :: .int .u8 (l.getD 33 0) :: .int .u8 (l.getD 34 0) :: .int .u8 (l.getD 35 0) :: .int .u8 (l.getD 36 0) :: .int .u8 (l.getD 37 0) :: .int .u8 (l.getD 38 0) :: .int .u8 (l.getD 39 0) :: .int .u8 (l.getD 40 0) :: .int .u8 (l.getD 41 0) :: .int .u8 (l.getD 42 0) :: .int .u8 (l.getD 43 0) :: .int .u8 (l.getD 44 0) :: .int .u8 (l.getD 45 0) :: .int .u8 (l.getD 46 0) :: .int .u8 (l.getD 47 0) :: .int .u8 (l.getD 48 0) :: .int .u8 (l.getD 49 0) :: .int .u8 (l.getD 50 0) :: .int .u8 (l.getD 51 0) :: .int .u8 (l.getD 52 0) :: .int .u8 (l.getD 53 0) :: .int .u8 (l.getD 54 0) :: .int .u8 (l.getD 55 0) :: .int .u8 (l.getD 56 0) :: .int .u8 (l.getD 57 0) :: .int .u8 (l.getD 58 0) :: .int .u8 (l.getD 59 0) :: .int .u8 (l.getD 60 0) :: .int .u8 (l.getD 61 0) :: .int .u8 (l.getD 62 0) :: .int .u8 (l.getD 63 0) :: r
def roW (l : List Int) : AV := .ro l.length (List.take (l.length * 1) (List.drop 0 (bys l)))
theorem roW_eq (l : List Int) : roW l = .ro l.length (bys l) := by unfold roW; rw [whole_bys]
def exN : Nat → Nat → List Int → List AV → List AV
 | 0, _, _, r => r
 | n + 1, i, l, r => .int .u8 (l.getD i 0) :: exN n (i + 1) l r
theorem exN_eq : ∀ (n i : Nat) (l : List Int) (r : List AV), i + n = l.length → exN n i l r = bys (l.drop i) ++ r
 | 0, i, l, r, h => by rw [exN, List.drop_eq_nil_of_le (by omega)]; rfl
 | n + 1, i, l, r, h => by
  have hi : i < l.length := by omega
  rw [exN, exN_eq n (i + 1) l r (by omega), List.drop_eq_getElem_cons hi, List.getD_eq_getElem?_getD, List.getElem?_eq_getElem hi]
  rfl
theorem c32_eq {l : List Int} (h : l.length = 32) (r : List AV) : c32 l r = bys l ++ r := (show c32 l r = exN 32 0 l r from rfl).trans (exN_eq 32 0 l r (by omega))
set_option maxRecDepth 4000 in
theorem c64_eq {l : List Int} (h : l.length = 64) (r : List AV) : c64 l r = bys l ++ r := (show c64 l r = exN 64 0 l r from rfl).trans (exN_eq 64 0 l r (by omega))
theorem c32_map {l : List Int} (h : l.length = 32) : c32 l [] = l.map (AV.int .u8) := by rw [c32_eq h, List.append_nil]; rfl
theorem c64_map {l : List Int} (h : l.length = 64) : c64 l [] = l.map (AV.int .u8) := by rw [c64_eq h, List.append_nil]; rfl
theorem okB_none (n : Nat) : okB none none n := by simp [okB]
theorem cut32 {l : List Int} (h : l.length = 32) (r : List AV) : cutB ((c32 l r).take (32 * 1)) none none 1 = bys l := by
 rw [c32_eq h, List.take_append_of_le_length (by simp [h]), List.take_of_length_le (by simp [h])]
 simp [cutB, offB, lenB, endB, h]
theorem cut64 {l : List Int} (h : l.length = 64) (r : List AV) : cutB ((c64 l r).take (64 * 1)) none none 1 = bys l := by
 rw [c64_eq h, List.take_append_of_le_length (by simp [h]), List.take_of_length_le (by simp [h])]
 simp [cutB, offB, lenB, endB, h]
theorem c32_one (l : List Int) (r : List AV) : (c32 l r).all AV.one = r.all AV.one := by simp [c32, AV.one]
theorem c64_one (l : List Int) (r : List AV) : (c64 l r).all AV.one = r.all AV.one := by simp [c64, AV.one]
theorem c32_pure (l : List Int) (r : List AV) : pureL (c32 l r) = pureL r := by simp [c32, pureL, pureV]
theorem c64_pure (l : List Int) (r : List AV) : pureL (c64 l r) = pureL r := by simp [c64, pureL, pureV]
theorem c32_frz (i : Nat) (zs : List AV) (l : List Int) (r : List AV) : frzL i zs (c32 l r) = c32 l (frzL i zs r) := by simp [c32, frzL, frzV]
theorem c64_frz (i : Nat) (zs : List AV) (l : List Int) (r : List AV) : frzL i zs (c64 l r) = c64 l (frzL i zs r) := by simp [c64, frzL, frzV]
theorem c32_app (l : List Int) (r q : List AV) : c32 l r ++ q = c32 l (r ++ q) := rfl
theorem c64_app (l : List Int) (r q : List AV) : c64 l r ++ q = c64 l (r ++ q) := rfl
theorem c32_les {o : Nat → Option Nat} {l : List Int} {r q : List AV} (h : lesP o r q) : lesP o (c32 l r) (c32 l q) := by
 simp only [c32, lesP, leP, and_self, true_and]; exact h
theorem c64_les {o : Nat → Option Nat} {l : List Int} {r q : List AV} (h : lesP o r q) : lesP o (c64 l r) (c64 l q) := by
 simp only [c64, lesP, leP, and_self, true_and]; exact h
theorem c32_len (l : List Int) (r : List AV) : (c32 l r).length = 32 + r.length := by simp [c32]; omega
theorem c64_len (l : List Int) (r : List AV) : (c64 l r).length = 64 + r.length := by simp [c64]; omega
def opC (e : Ent) : List AV := [.int .i64 e.kind, .str e.key, .ro e.val.length (bys e.val)]
def entC (e : Ent) : List AV := c32 e.au (.int .i64 e.seq :: c32 e.prev (.int .i64 e.stamp :: .int .i64 e.kind :: .str e.key :: .ro e.val.length (bys e.val) :: c64 e.sig []))
structure EntOk (e : Ent) : Prop where
 au : Byt e.au ∧ e.au.length = 32
 seq : -9223372036854775808 ≤ e.seq ∧ e.seq < 9223372036854775808
 prev : Byt e.prev ∧ e.prev.length = 32
 stamp : -9223372036854775808 ≤ e.stamp ∧ e.stamp < 9223372036854775808
 kind : -9223372036854775808 ≤ e.kind ∧ e.kind < 9223372036854775808
 key : Byt e.key ∧ e.key.length ≤ 9223372036854775807
 val : Byt e.val ∧ e.val.length ≤ 9223372036854775807
 sig : Byt e.sig ∧ e.sig.length = 64
def z32 : List Int := List.replicate 32 0
def z64 : List Int := List.replicate 64 0
def ent0 : Ent := ⟨z32, 0, z32, 0, 0, [], [], z64⟩
theorem entC_length (e : Ent) : (entC e).length = 133 := by simp [entC, c32_len, c64_len]
theorem entC_one (e : Ent) : (entC e).all AV.one = true := by simp [entC, c32_one, c64_one, AV.one]
theorem entC_pure (e : Ent) : pureL (entC e) = true := by simp [entC, c32_pure, c64_pure, pureL, pureV, pureL_bys]
theorem entC_frz (i : Nat) (zs : List AV) (e : Ent) : frzL i zs (entC e) = entC e := by simp [entC, c32_frz, c64_frz, frzL, frzV, frzL_bys]
theorem takeN_app : ∀ {m : Nat} {a b : List AV}, a.length = m → takeN m (a ++ b) = some a
 | 0, [], _, _ => by simp [takeN]
 | m + 1, c :: cs, b, h => by
  have ih := takeN_app (m := m) (a := cs) (b := b) (by simpa using h)
  simp [takeN, ih]
theorem lesP_ent {o : Nat → Option Nat} (e : Ent) {q : List AV} (h : q = entC e) : lesP o (entC e) q := by
 subst h
 unfold entC
 refine c32_les ⟨⟨rfl, rfl⟩, c32_les ⟨⟨rfl, rfl⟩, ⟨rfl, rfl⟩, rfl, ⟨rfl, rfl, pureL_bys _⟩, c64_les trivial⟩⟩
theorem lesP_app'' {o : Nat → Option Nat} : ∀ {a a' b b' : List AV}, lesP o a a' → lesP o b b' → lesP o (a ++ b) (a' ++ b')
 | [], [], _, _, _, h => h
 | [], _ :: _, _, _, h, _ => h.elim
 | _ :: _, [], _, _, h, _ => h.elim
 | x :: a, y :: a', b, b', h, k => ⟨h.1, lesP_app'' h.2 k⟩
theorem c32_dems {H : Heap} {l : List Int} {r q : List AV} {K : List Nat → Prop} (h : demsP H r q K) : demsP H (c32 l r) (c32 l q) K := by
 simp only [c32, demsP, demP, and_self, true_and, List.nil_append]; exact h
set_option maxRecDepth 4000 in
theorem c64_dems {H : Heap} {l : List Int} {r q : List AV} {K : List Nat → Prop} (h : demsP H r q K) : demsP H (c64 l r) (c64 l q) K := by
 simp only [c64, demsP, demP, and_self, true_and, List.nil_append]; exact h
theorem ent_dems {H : Heap} (e : Ent) {K : List Nat → Prop} (h : K []) : demsP H (entC e) (entC e) K := by
 unfold entC
 refine c32_dems ?_
 simp only [demsP, demP, and_self, true_and, List.nil_append]
 refine c32_dems ?_
 simp only [demsP, demP, and_self, true_and, List.nil_append]
 refine ⟨pureL_bys _, c64_dems ?_⟩
 simpa only [demsP] using h
theorem ent_int_dems {H : Heap} {e : Ent} {n : Int} {zs : List AV} {K : List Nat → Prop} (hz : zs = entC e) (h : K []) : demsP H [.tuple [.agg (entC e), .int .i64 n]] [.tuple [.agg zs, .int .i64 n]] K := by
 subst hz
 simp only [demsP, demP]
 refine ent_dems e ?_
 simpa only [and_self, true_and, List.nil_append] using h
def entV (e : Ent) (v : AV) : List AV := c32 e.au (.int .i64 e.seq :: c32 e.prev (.int .i64 e.stamp :: .int .i64 e.kind :: .str e.key :: v :: c64 e.sig []))
def zeroE : List AV := entV ent0 .nil
theorem ent0_dems {H : Heap} {K : List Nat → Prop} (h : K []) : demsP H (entC ent0) zeroE K := by
 unfold entC zeroE entV
 refine c32_dems ?_
 simp only [demsP, demP, and_self, true_and, List.nil_append]
 refine c32_dems ?_
 simp only [demsP, demP, and_self, true_and, List.nil_append]
 refine ⟨⟨rfl, rfl⟩, c64_dems ?_⟩
 simpa only [demsP] using h
theorem ent0_int_dems {H : Heap} {n : Int} {zs : List AV} {K : List Nat → Prop} (hz : zs = zeroE) (h : K []) : demsP H [.tuple [.agg (entC ent0), .int .i64 n]] [.tuple [.agg zs, .int .i64 n]] K := by
 subst hz
 simp only [demsP, demP]
 refine ent0_dems ?_
 simpa only [and_self, true_and, List.nil_append] using h
theorem rArr_len (m : Nat) (r : Rw) : (rArr m r).1.length = m := by
 unfold rArr
 split
 ·assumption
 ·simp
theorem rid_ok' (r : Rw) : ACall Tryd.prog 82 [.ref (rowC r)] (.agg (c32 (rArr 32 r).1 [])) [.ref (rowC (rArr 32 r).2)] := by
 rw [c32_eq (rArr_len 32 r), List.append_nil]; exact rid_ok r
theorem rsig_ok' (r : Rw) : ACall Tryd.prog 104 [.ref (rowC r)] (.agg (c64 (rArr 64 r).1 [])) [.ref (rowC (rArr 64 r).2)] := by
 rw [c64_eq (rArr_len 64 r), List.append_nil]; exact rsig_ok r
end
section
--KR
attribute [local irreducible] ifB fitP Does Weaker
def opR (e : Ent) : Bool := decide (1 ≤ e.key.length) && decide (e.key.length ≤ 16) && validR e.key && ((decide (e.kind = 1) && decide (e.val.length ≤ 40)) || (decide (e.kind = 2) && decide (e.val.length = 0)))
def entR (e : Ent) : Bool := decide (1 ≤ e.seq) && decide (e.seq ≤ 200) && (decide (e.seq ≠ 1) || decide (e.prev = z32)) && decide (0 ≤ e.stamp) && opR e
def ME : FuncId → List Mode := orElse [(90, [.rd]), (61, [.rd]), (98, [.rd, .rd]), (79, [.rd, .rd]), (48, [.rd]), (999999, [.rd]), (85, [.rd]), (999999, [.rd]), (999999, [.rd]),
 (88, [.rd, .rd]), (999999, [.rd, .rd]), (58, [.rd]), (47, [.rd]), (83, [.rd]), (999999, [.rd])] MR
theorem dt {p : Prop} [Decidable p] (h : p) : decide p = true := decide_eq_true h
theorem df {p : Prop} [Decidable p] (h : ¬ p) : decide p = false := decide_eq_false h
theorem op_ok (e : Ent) (hk : Byt e.key) (hl : e.key.length ≤ 1099511627776) (hv : e.val.length ≤ 1099511627776) : ACall Tryd.prog 90 [.agg (opC e)] (.bool (opR e)) [] := by
 have hu := utf8_ok e.key hk hl
 unfold opR
 refine ACall.of_does TTok Tryd.func90 rfl Tryd.call90 rfl (wpc_sound (M := MR) (PL := PL0) (CU := noCut) TTok mixed _ _ _ ?_)
 by_cases c1 : 1 ≤ e.key.length
 ·rw [dt c1]
  by_cases c2 : e.key.length ≤ 16
  ·rw [dt c2]
   cases c3 : validR e.key <;> rw [c3] at hu
   ·conv => whnf
    repeat ((first | refine ifB_f ?_ | (refine ifB_neg (decide_eq_false (by first | omega | rfl | (dsimp only; omega))) ?_) | refine ⟨pureL_bys _, ?_⟩ | (refine Or.inl ⟨⟨rfl, ?_⟩, ?_⟩; (focus (first | rfl | (simp; done) | (rw [toksC_length]; omega)))) | refine ⟨rfl, ?_⟩ | refine ⟨_, rfl, ?_⟩); conv => whnf)
    refine ⟨_, _, hu, by first | rfl | simp [noRoIf, noRoL, noRoV, noRoL_bys], ?_⟩
    conv => whnf
    repeat ((first | refine ifB_t ?_ | refine ifB_f ?_ | refine ⟨rfl, ?_⟩); conv => whnf)
    rfl
   ·by_cases c4 : e.kind = 1
    ·rw [dt c4, df (show ¬ e.kind = 2 by omega)]
     by_cases c5 : e.val.length ≤ 40
     ·rw [dt c5]
      conv => whnf
      repeat ((first | refine ifB_f ?_ | (refine ifB_neg (decide_eq_false (by first | omega | rfl | (dsimp only; omega))) ?_) | refine ⟨pureL_bys _, ?_⟩ | (refine Or.inl ⟨⟨rfl, ?_⟩, ?_⟩; (focus (first | rfl | (simp; done) | (rw [toksC_length]; omega)))) | refine ⟨rfl, ?_⟩ | refine ⟨_, rfl, ?_⟩); conv => whnf)
      refine ⟨_, _, hu, by first | rfl | simp [noRoIf, noRoL, noRoV, noRoL_bys], ?_⟩
      conv => whnf
      repeat ((first | refine ifB_t ?_ | refine ifB_f ?_ | (refine ifB_pos (decide_eq_true (by first | omega | rfl | (dsimp only; omega))) ?_) | refine ⟨rfl, ?_⟩ | refine ⟨_, rfl, ?_⟩); conv => whnf)
      rfl
     ·rw [df c5]
      conv => whnf
      repeat ((first | refine ifB_f ?_ | (refine ifB_neg (decide_eq_false (by first | omega | rfl | (dsimp only; omega))) ?_) | refine ⟨pureL_bys _, ?_⟩ | (refine Or.inl ⟨⟨rfl, ?_⟩, ?_⟩; (focus (first | rfl | (simp; done) | (rw [toksC_length]; omega)))) | refine ⟨rfl, ?_⟩ | refine ⟨_, rfl, ?_⟩); conv => whnf)
      refine ⟨_, _, hu, by first | rfl | simp [noRoIf, noRoL, noRoV, noRoL_bys], ?_⟩
      conv => whnf
      repeat ((first | refine ifB_t ?_ | refine ifB_f ?_ | (refine ifB_neg (decide_eq_false (by first | omega | rfl | (dsimp only; omega))) ?_) | (refine ifB_pos (decide_eq_true (by first | omega | rfl | (dsimp only; omega))) ?_) | refine ⟨rfl, ?_⟩ | refine ⟨_, rfl, ?_⟩); conv => whnf)
      rfl
    ·rw [df c4]
     by_cases c6 : e.kind = 2
     ·rw [dt c6]
      by_cases c7 : e.val.length = 0
      ·rw [dt c7]
       conv => whnf
       repeat ((first | refine ifB_f ?_ | (refine ifB_neg (decide_eq_false (by first | omega | rfl | (dsimp only; omega))) ?_) | refine ⟨pureL_bys _, ?_⟩ | (refine Or.inl ⟨⟨rfl, ?_⟩, ?_⟩; (focus (first | rfl | (simp; done) | (rw [toksC_length]; omega)))) | refine ⟨rfl, ?_⟩ | refine ⟨_, rfl, ?_⟩); conv => whnf)
       refine ⟨_, _, hu, by first | rfl | simp [noRoIf, noRoL, noRoV, noRoL_bys], ?_⟩
       conv => whnf
       repeat ((first | refine ifB_t ?_ | refine ifB_f ?_ | (refine ifB_neg (decide_eq_false (by first | omega | rfl | (dsimp only; omega))) ?_) | (refine ifB_pos (decide_eq_true (by first | omega | rfl | (dsimp only; omega))) ?_) | refine ⟨_, rfl, ?_⟩); conv => whnf)
       exact ⟨dt (by omega), rfl⟩
      ·rw [df c7]
       conv => whnf
       repeat ((first | refine ifB_f ?_ | (refine ifB_neg (decide_eq_false (by first | omega | rfl | (dsimp only; omega))) ?_) | refine ⟨pureL_bys _, ?_⟩ | (refine Or.inl ⟨⟨rfl, ?_⟩, ?_⟩; (focus (first | rfl | (simp; done) | (rw [toksC_length]; omega)))) | refine ⟨rfl, ?_⟩ | refine ⟨_, rfl, ?_⟩); conv => whnf)
       refine ⟨_, _, hu, by first | rfl | simp [noRoIf, noRoL, noRoV, noRoL_bys], ?_⟩
       conv => whnf
       repeat ((first | refine ifB_t ?_ | refine ifB_f ?_ | (refine ifB_neg (decide_eq_false (by first | omega | rfl | (dsimp only; omega))) ?_) | (refine ifB_pos (decide_eq_true (by first | omega | rfl | (dsimp only; omega))) ?_) | refine ⟨_, rfl, ?_⟩); conv => whnf)
       exact ⟨df (by omega), rfl⟩
     ·rw [df c6]
      conv => whnf
      repeat ((first | refine ifB_f ?_ | (refine ifB_neg (decide_eq_false (by first | omega | rfl | (dsimp only; omega))) ?_) | refine ⟨pureL_bys _, ?_⟩ | (refine Or.inl ⟨⟨rfl, ?_⟩, ?_⟩; (focus (first | rfl | (simp; done) | (rw [toksC_length]; omega)))) | refine ⟨rfl, ?_⟩ | refine ⟨_, rfl, ?_⟩); conv => whnf)
      refine ⟨_, _, hu, by first | rfl | simp [noRoIf, noRoL, noRoV, noRoL_bys], ?_⟩
      conv => whnf
      repeat ((first | refine ifB_f ?_ | (refine ifB_neg (decide_eq_false (by first | omega | rfl | (dsimp only; omega))) ?_) | refine ⟨rfl, ?_⟩ | refine ⟨_, rfl, ?_⟩); conv => whnf)
      rfl
  ·rw [df c2]
   conv => whnf
   repeat ((first | refine ifB_t ?_ | refine ifB_f ?_ | (refine ifB_neg (decide_eq_false (by first | omega | rfl | (dsimp only; omega))) ?_) | (refine ifB_pos (decide_eq_true (by first | omega | rfl | (dsimp only; omega))) ?_) | refine ⟨rfl, ?_⟩ | refine ⟨_, rfl, ?_⟩); conv => whnf)
   rfl
 ·rw [df c1]
  conv => whnf
  repeat ((first | refine ifB_t ?_ | (refine ifB_pos (decide_eq_true (by first | omega | rfl | (dsimp only; omega))) ?_) | refine ⟨rfl, ?_⟩ | refine ⟨_, rfl, ?_⟩); conv => whnf)
  rfl
structure EntS (e : Ent) : Prop extends EntOk e where
 key' : e.key.length ≤ 1000000000
 val' : e.val.length ≤ 1000000000
theorem check_entry_ok (e : Ent) (he : EntS e) : ACall Tryd.prog 61 [.agg (entC e)] (.int .i64 (if entR e then 0 else 1)) [] := by
 have ho := op_ok e he.key.1 (by have := he.key'; omega) (by have := he.val'; omega)
 unfold entR
 refine ACall.of_does TTok Tryd.func61 rfl Tryd.call61 rfl (wpc_sound (M := ME) (PL := PL0) (CU := noCut) TTok mixed _ _ _ ?_)
 by_cases c1 : 1 ≤ e.seq
 ·rw [dt c1]
  by_cases c2 : e.seq ≤ 200
  ·rw [dt c2]
   by_cases c3 : e.seq = 1
   ·rw [df (show ¬ e.seq ≠ 1 by omega)]
    by_cases c4 : e.prev = z32
    ·rw [dt c4]
     by_cases c5 : 0 ≤ e.stamp
     ·rw [dt c5]
      conv => whnf
      repeat ((first | refine ifB_t ?_ | refine ifB_f ?_ | (refine ifB_neg (decide_eq_false (by first | omega | rfl | (dsimp only; omega))) ?_) | (refine ifB_pos (decide_eq_true (by first | omega | rfl | (dsimp only; omega))) ?_) | refine ⟨rfl, ?_⟩ | refine ⟨_, rfl, ?_⟩); conv => whnf)
      refine ⟨e.prev, z32, ⟨rfl, c32_map he.prev.2, rfl, he.prev.2, rfl⟩, ?_⟩
      conv => whnf
      repeat ((first | refine ifB_t ?_ | refine ifB_f ?_); conv => whnf)
      rw [dt c4]
      conv => whnf
      repeat ((first | refine ifB_f ?_ | (refine ifB_neg (decide_eq_false (by first | omega | rfl | (dsimp only; omega))) ?_) | refine ⟨entC_pure _, ?_⟩ | refine ⟨rfl, ?_⟩ | refine ⟨_, rfl, ?_⟩); conv => whnf)
      cases c6 : opR e <;> rw [c6] at ho
      ·refine ⟨_, _, ho, by first | rfl | simp [noRoIf, noRoL, noRoV, noRoL_bys], ?_⟩
       conv => whnf
       repeat ((first | refine ifB_t ?_ | refine ifB_f ?_ | refine ⟨⟨rfl, rfl⟩, ?_⟩); conv => whnf)
       rfl
      ·refine ⟨_, _, ho, by first | rfl | simp [noRoIf, noRoL, noRoV, noRoL_bys], ?_⟩
       conv => whnf
       repeat ((first | refine ifB_f ?_ | refine ⟨⟨rfl, rfl⟩, ?_⟩); conv => whnf)
       rfl
     ·rw [df c5]
      conv => whnf
      repeat ((first | refine ifB_t ?_ | refine ifB_f ?_ | (refine ifB_neg (decide_eq_false (by first | omega | rfl | (dsimp only; omega))) ?_) | (refine ifB_pos (decide_eq_true (by first | omega | rfl | (dsimp only; omega))) ?_) | refine ⟨rfl, ?_⟩ | refine ⟨_, rfl, ?_⟩); conv => whnf)
      refine ⟨e.prev, z32, ⟨rfl, c32_map he.prev.2, rfl, he.prev.2, rfl⟩, ?_⟩
      conv => whnf
      repeat ((first | refine ifB_t ?_ | refine ifB_f ?_); conv => whnf)
      rw [dt c4]
      conv => whnf
      repeat ((first | refine ifB_t ?_ | refine ifB_f ?_ | (refine ifB_pos (decide_eq_true (by first | omega | rfl | (dsimp only; omega))) ?_) | refine ⟨_, rfl, ?_⟩ | refine ⟨⟨rfl, rfl⟩, ?_⟩); conv => whnf)
      rfl
    ·rw [df c4]
     conv => whnf
     repeat ((first | refine ifB_t ?_ | refine ifB_f ?_ | (refine ifB_neg (decide_eq_false (by first | omega | rfl | (dsimp only; omega))) ?_) | (refine ifB_pos (decide_eq_true (by first | omega | rfl | (dsimp only; omega))) ?_) | refine ⟨rfl, ?_⟩ | refine ⟨_, rfl, ?_⟩); conv => whnf)
     refine ⟨e.prev, z32, ⟨rfl, c32_map he.prev.2, rfl, he.prev.2, rfl⟩, ?_⟩
     conv => whnf
     repeat ((first | refine ifB_t ?_ | refine ifB_f ?_); conv => whnf)
     rw [df c4]
     conv => whnf
     repeat ((first | refine ifB_t ?_ | refine ⟨⟨rfl, rfl⟩, ?_⟩); conv => whnf)
     rfl
   ·rw [dt (show e.seq ≠ 1 from c3)]
    by_cases c5 : 0 ≤ e.stamp
    ·rw [dt c5]
     conv => whnf
     repeat ((first | refine ifB_f ?_ | (refine ifB_neg (decide_eq_false (by first | omega | rfl | (dsimp only; omega))) ?_) | refine ⟨entC_pure _, ?_⟩ | refine ⟨rfl, ?_⟩ | refine ⟨_, rfl, ?_⟩); conv => whnf)
     cases c6 : opR e <;> rw [c6] at ho
     ·refine ⟨_, _, ho, by first | rfl | simp [noRoIf, noRoL, noRoV, noRoL_bys], ?_⟩
      conv => whnf
      repeat ((first | refine ifB_t ?_ | refine ifB_f ?_ | refine ⟨⟨rfl, rfl⟩, ?_⟩); conv => whnf)
      rfl
     ·refine ⟨_, _, ho, by first | rfl | simp [noRoIf, noRoL, noRoV, noRoL_bys], ?_⟩
      conv => whnf
      repeat ((first | refine ifB_f ?_ | refine ⟨⟨rfl, rfl⟩, ?_⟩); conv => whnf)
      rfl
    ·rw [df c5]
     conv => whnf
     repeat ((first | refine ifB_t ?_ | refine ifB_f ?_ | (refine ifB_neg (decide_eq_false (by first | omega | rfl | (dsimp only; omega))) ?_) | (refine ifB_pos (decide_eq_true (by first | omega | rfl | (dsimp only; omega))) ?_) | refine ⟨rfl, ?_⟩ | refine ⟨_, rfl, ?_⟩ | refine ⟨⟨rfl, rfl⟩, ?_⟩); conv => whnf)
     rfl
  ·rw [df c2]
   conv => whnf
   repeat ((first | refine ifB_t ?_ | refine ifB_f ?_ | (refine ifB_neg (decide_eq_false (by first | omega | rfl | (dsimp only; omega))) ?_) | (refine ifB_pos (decide_eq_true (by first | omega | rfl | (dsimp only; omega))) ?_) | refine ⟨rfl, ?_⟩ | refine ⟨_, rfl, ?_⟩ | refine ⟨⟨rfl, rfl⟩, ?_⟩); conv => whnf)
   rfl
 ·rw [df c1]
  conv => whnf
  repeat ((first | refine ifB_t ?_ | (refine ifB_pos (decide_eq_true (by first | omega | rfl | (dsimp only; omega))) ?_) | refine ⟨rfl, ?_⟩ | refine ⟨_, rfl, ?_⟩ | refine ⟨⟨rfl, rfl⟩, ?_⟩); conv => whnf)
  rfl
end
section
--KR
attribute [local irreducible] ifB fitP Does Weaker
def entT (many : Int) (e : Ent) : List Tok := [⟨5, many, []⟩, ⟨1, 1, []⟩, ⟨3, 0, e.au⟩, ⟨1, e.seq, []⟩, ⟨3, 0, e.prev⟩, ⟨1, e.stamp, []⟩, ⟨5, 3, []⟩, ⟨1, e.kind, []⟩, ⟨4, 0, e.key⟩, ⟨3, 0, e.val⟩]
def entTs (e : Ent) : List Tok := entT 7 e ++ [⟨3, 0, e.sig⟩]
theorem ctext_ok (s : List Int) (hs : Byt s) (hl : s.length ≤ 17592186044416) : ACall Tryd.prog 110 [.str s] (.agg (tokC ⟨4, 0, s⟩)) [] := by
 refine ACall.of_does TTok Tryd.func110 rfl Tryd.call110 rfl (wpc_sound (M := MR) (PL := PL0) (CU := cutAt [99999]) TTok mixed _ _ _ ?_)
 conv => whnf
 repeat ((first | refine ⟨(⟨by kernel_rfl, by kernel_rfl, Nat.le_of_ble_eq_true (by kernel_rfl)⟩ : AV.ones _ = true ∧ _ ∧ _), ?_⟩ | refine ⟨rfl, ?_⟩); conv => whnf)
 refine Does.freeze 1 rfl (wpc_sound (M := ME) (PL := PL0) (CU := noCut) TTok mixed _ _ _ ?_)
 conv => whnf
 repeat ((first | refine ⟨_, rfl, ?_⟩ | refine ⟨⟨rfl, rfl⟩, ?_⟩); conv => whnf)
 exact ⟨⟨rfl, whole_bys s, pureL_bys _⟩, rfl⟩
def PLrow : Nat → Bool × Plan := plans [(1, (false, (takesTo [0, 3, 4, 6, 7, 9, 10, 12, 13, 16, 17, 18, 20, 21, 22, 24, 25, 26] (.all [(1, (.all [(2, (.all [(5, (.all [(8, (.all [(11, (.all [(14, (.all [(15, (.all [(19, (.all [(23, (.all [(27, (.all [(28, (takes [29]))]))]))]))]))]))]))]))]))]))]))]))))]
set_option maxRecDepth 20000 in
set_option maxHeartbeats 4000000 in
theorem row7_ok (e : Ent) (he : EntS e) : ACall Tryd.prog 98 [.agg (entC e), .int .i64 7] (.own 11 3 (toksC (entTs e))) [] := by
 refine ACall.of_does TTok Tryd.func98 rfl Tryd.call98 rfl (wpc_sound (M := ME) (PL := PLrow) (CU := cutAt [100001]) TTok mixed _ _ _ ?_)
 conv => whnf
 repeat ((refine ⟨rfl, ?_⟩); conv => whnf)
 refine Does.freeze 0 rfl (wpc_sound (M := ME) (PL := PLrow) (CU := noCut) TTok mixed _ _ _ ?_)
 conv => whnf
 refine ⟨by kernel_rfl, ?_⟩
 conv => whnf
 repeat ((first | (refine ⟨⟨by first | (simp only [List.drop_zero, List.length_drop, hds_len]; omega) | exact Nat.le_of_ble_eq_true (by kernel_rfl), okB_none _⟩, ?_⟩) | refine ⟨rfl, ?_⟩ | refine ⟨_, rfl, ?_⟩); conv => whnf)
 refine ⟨_, _, list_ok 7, by first | rfl | simp [noRoIf, noRoL, noRoV, noRoL_bys], ?_⟩
 conv => whnf
 repeat ((refine ⟨rfl, ?_⟩); conv => whnf)
 refine ⟨_, _, num_ok 1, by first | rfl | simp [noRoIf, noRoL, noRoV, noRoL_bys], ?_⟩
 conv => whnf
 repeat ((refine ⟨rfl, ?_⟩); conv => whnf)
 refine ⟨_, _, (cstr_ok e.au).arg1 he.au.2.symm (cut32 he.au.2 _), by first | rfl | simp [noRoIf, noRoL, noRoV, noRoL_bys], ?_⟩
 conv => whnf
 repeat ((refine ⟨rfl, ?_⟩); conv => whnf)
 refine ⟨_, _, num_ok e.seq, by first | rfl | simp [noRoIf, noRoL, noRoV, noRoL_bys], ?_⟩
 conv => whnf
 repeat ((refine ⟨rfl, ?_⟩); conv => whnf)
 refine ⟨_, _, (cstr_ok e.prev).arg1 he.prev.2.symm (cut32 he.prev.2 _), by first | rfl | simp [noRoIf, noRoL, noRoV, noRoL_bys], ?_⟩
 conv => whnf
 repeat ((refine ⟨rfl, ?_⟩); conv => whnf)
 refine ⟨_, _, num_ok e.stamp, by first | rfl | simp [noRoIf, noRoL, noRoV, noRoL_bys], ?_⟩
 conv => whnf
 repeat ((refine ⟨rfl, ?_⟩); conv => whnf)
 refine ⟨_, _, list_ok 3, by first | rfl | simp [noRoIf, noRoL, noRoV, noRoL_bys], ?_⟩
 conv => whnf
 repeat ((refine ⟨rfl, ?_⟩); conv => whnf)
 refine ⟨_, _, num_ok e.kind, by first | rfl | simp [noRoIf, noRoL, noRoV, noRoL_bys], ?_⟩
 conv => whnf
 repeat ((refine ⟨rfl, ?_⟩); conv => whnf)
 refine ⟨_, _, ctext_ok e.key he.key.1 (by have := he.key'; omega), by first | rfl | simp [noRoIf, noRoL, noRoV, noRoL_bys], ?_⟩
 conv => whnf
 repeat ((first | refine ⟨pureL_bys _, ?_⟩ | refine ⟨rfl, ?_⟩); conv => whnf)
 refine ⟨_, _, cstr_ok e.val, by first | rfl | simp [noRoIf, noRoL, noRoV, noRoL_bys], ?_⟩
 conv => whnf
 repeat ((first | refine ifB_t ?_ | (refine ⟨⟨by first | (simp only [List.drop_zero, List.length_drop, hds_len]; omega) | exact Nat.le_of_ble_eq_true (by kernel_rfl), okB_none _⟩, ?_⟩) | refine ⟨rfl, ?_⟩ | refine ⟨⟨rfl, rfl⟩, ?_⟩); conv => whnf)
 refine ⟨_, _, (cstr_ok e.sig).arg1 he.sig.2.symm (cut64 he.sig.2 _), by first | rfl | simp [noRoIf, noRoL, noRoV, noRoL_bys], ?_⟩
 conv => whnf
 repeat ((first | (refine Or.inl ⟨⟨rfl, ?_⟩, ?_⟩; (focus (first | rfl | (simp; done) | (rw [toksC_length]; omega)))) | refine ⟨rfl, ?_⟩ | refine ⟨⟨rfl, rfl⟩, ?_⟩ | (refine ⟨⟨rfl, ?_, ?_, ?_⟩, ?_⟩; (focus (first | (simp; done) | (simp; omega))); (focus (first | exact Or.inl rfl | exact Or.inr (by omega))); (focus (first | (simp [limB, lenB, offB]; done) | (simp [limB, lenB, offB]; omega))))); conv => whnf)
 exact ⟨⟨rfl, rfl, rfl, rfl, pureL_toks (entTs e)⟩, rfl⟩
def entB (e : Ent) : List Int × Int := if entR e then encR validR (entTs e) else ([], 1)
theorem entT_ok (many : Int) (hm : 0 ≤ many ∧ many ≤ 100) (e : Ent) (he : EntS e) : ToksOk (entT many e) ∧ ∀ t ∈ entT many e, t.b.length ≤ 1000000000 := by
 have h1 := he.seq; have h2 := he.stamp; have h3 := he.kind; have h4 := he.au; have h5 := he.prev; have h6 := he.key'; have h7 := he.val'
 constructor
 ·intro t ht
  simp only [entT, List.mem_cons, List.mem_singleton, List.not_mem_nil, or_false] at ht
  rcases ht with rfl | rfl | rfl | rfl | rfl | rfl | rfl | rfl | rfl | rfl
  all_goals refine ⟨by dsimp only; omega, by dsimp only; omega, ?_⟩
  all_goals first | exact fun x hx => absurd hx (List.not_mem_nil) | exact h4.1 | exact h5.1 | exact he.key.1 | exact he.val.1
 ·intro t ht
  simp only [entT, List.mem_cons, List.mem_singleton, List.not_mem_nil, or_false] at ht
  rcases ht with rfl | rfl | rfl | rfl | rfl | rfl | rfl | rfl | rfl | rfl
  all_goals dsimp only
  all_goals first | omega | (simp; done)
theorem entTs_ok (e : Ent) (he : EntS e) : ToksOk (entTs e) ∧ ∀ t ∈ entTs e, t.b.length ≤ 1000000000 := by
 have h := entT_ok 7 (by omega) e he
 constructor
 ·intro t ht
  rcases List.mem_append.1 ht with ht | ht
  ·exact h.1 t ht
  ·simp only [List.mem_singleton] at ht
   subst ht
   exact ⟨by dsimp only; omega, by dsimp only; omega, he.sig.1⟩
 ·intro t ht
  rcases List.mem_append.1 ht with ht | ht
  ·exact h.2 t ht
  ·simp only [List.mem_singleton] at ht
   subst ht
   have := he.sig.2
   dsimp only
   omega
end
end Go.Proofs.YtbpdbajcmagomaaDoor.Abs
