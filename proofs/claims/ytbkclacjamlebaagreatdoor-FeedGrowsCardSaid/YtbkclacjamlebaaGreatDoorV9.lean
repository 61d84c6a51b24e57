/- Texts EA to ED, merged. -/
import Derived.Test.YtbkclacjamlebaaGreatDoorV8
set_option linter.unusedVariables false
set_option linter.unusedSimpArgs false
namespace Go.Proofs.YtbkclacjamlebaaGreatDoor.Abs
open Go
section

structure Ent where
 au : List Int
 seq : Int
 prev : List Int
 stamp : Int
 kind : Int
 key : List Int
 val : List Int
 sig : List Int
 deriving DecidableEq
def c32 (l : List Int) (r : List AV) : List AV := .int .u8 (l.getD 0 0) :: .int .u8 (l.getD 1 0) :: .int .u8 (l.getD 2 0) :: .int .u8 (l.getD 3 0) :: .int .u8 (l.getD 4 0) :: .int .u8 (l.getD 5 0) :: .int .u8 (l.getD 6 0) :: .int .u8 (l.getD 7 0) :: .int .u8 (l.getD 8 0) :: .int .u8 (l.getD 9 0) :: .int .u8 (l.getD 10 0) :: .int .u8 (l.getD 11 0) :: .int .u8 (l.getD 12 0) :: .int .u8 (l.getD 13 0) :: .int .u8 (l.getD 14 0) :: .int .u8 (l.getD 15 0) :: .int .u8 (l.getD 16 0) :: .int .u8 (l.getD 17 0) :: .int .u8 (l.getD 18 0) :: .int .u8 (l.getD 19 0) :: .int .u8 (l.getD 20 0) :: .int .u8 (l.getD 21 0) :: .int .u8 (l.getD 22 0) :: .int .u8 (l.getD 23 0) :: .int .u8 (l.getD 24 0) :: .int .u8 (l.getD 25 0) :: .int .u8 (l.getD 26 0) :: .int .u8 (l.getD 27 0) :: .int .u8 (l.getD 28 0) :: .int .u8 (l.getD 29 0) :: .int .u8 (l.getD 30 0) :: .int .u8 (l.getD 31 0) :: r
def c64 (l : List Int) (r : List AV) : List AV := .int .u8 (l.getD 0 0) :: .int .u8 (l.getD 1 0) :: .int .u8 (l.getD 2 0) :: .int .u8 (l.getD 3 0) :: .int .u8 (l.getD 4 0) :: .int .u8 (l.getD 5 0) :: .int .u8 (l.getD 6 0) :: .int .u8 (l.getD 7 0) :: .int .u8 (l.getD 8 0) :: .int .u8 (l.getD 9 0) :: .int .u8 (l.getD 10 0) :: .int .u8 (l.getD 11 0) :: .int .u8 (l.getD 12 0) :: .int .u8 (l.getD 13 0) :: .int .u8 (l.getD 14 0) :: .int .u8 (l.getD 15 0) :: .int .u8 (l.getD 16 0) :: .int .u8 (l.getD 17 0) :: .int .u8 (l.getD 18 0) :: .int .u8 (l.getD 19 0) :: .int .u8 (l.getD 20 0) :: .int .u8 (l.getD 21 0) :: .int .u8 (l.getD 22 0) :: .int .u8 (l.getD 23 0) :: .int .u8 (l.getD 24 0) :: .int .u8 (l.getD 25 0) :: .int .u8 (l.getD 26 0) :: .int .u8 (l.getD 27 0) :: .int .u8 (l.getD 28 0) :: .int .u8 (l.getD 29 0) :: .int .u8 (l.getD 30 0) :: .int .u8 (l.getD 31 0) :: .int .u8 (l.getD 32 0) :: .int .u8 (l.getD 33 0) :: .int .u8 (l.getD 34 0) :: .int .u8 (l.getD 35 0) :: .int .u8 (l.getD 36 0) :: .int .u8 (l.getD 37 0) :: .int .u8 (l.getD 38 0) :: .int .u8 (l.getD 39 0) :: .int .u8 (l.getD 40 0) :: .int .u8 (l.getD 41 0) :: .int .u8 (l.getD 42 0) :: .int .u8 (l.getD 43 0) :: .int .u8 (l.getD 44 0) :: .int .u8 (l.getD 45 0) :: .int .u8 (l.getD 46 0) :: .int .u8 (l.getD 47 0) :: .int .u8 (l.getD 48 0) :: .int .u8 (l.getD 49 0) :: .int .u8 (l.getD 50 0) :: .int .u8 (l.getD 51 0) :: .int .u8 (l.getD 52 0) :: .int .u8 (l.getD 53 0) :: .int .u8 (l.getD 54 0) :: .int .u8 (l.getD 55 0) :: .int .u8 (l.getD 56 0) :: .int .u8 (l.getD 57 0) :: .int .u8 (l.getD 58 0) :: .int .u8 (l.getD 59 0) :: .int .u8 (l.getD 60 0) :: .int .u8 (l.getD 61 0) :: .int .u8 (l.getD 62 0) :: .int .u8 (l.getD 63 0) :: r
def roW (l : List Int) : AV := .ro l.length (List.take (l.length * 1) (List.drop 0 (bys l)))
theorem roW_eq (l : List Int) : roW l = .ro l.length (bys l) := by unfold roW; rw [whole_bys]
def exN : Nat → Nat → List Int → List AV → List AV
 | 0, _, _, r => r
 | n + 1, i, l, r => .int .u8 (l.getD i 0) :: exN n (i + 1) l r
theorem exN_eq : ∀ (n i : Nat) (l : List Int) (r : List AV), i + n = l.length → exN n i l r = bys (l.drop i) ++ r
 | 0, i, l, r, h => by rw [exN, List.drop_eq_nil_of_le (by omega)]; rfl
 | n + 1, i, l, r, h => by
  have hi : i < l.length := by omega
  rw [exN, exN_eq n (i + 1) l r (by omega), List.drop_eq_getElem_cons hi, List.getD_eq_getElem?_getD, List.getElem?_eq_getElem hi]
  rfl
theorem c32_eq {l : List Int} (h : l.length = 32) (r : List AV) : c32 l r = bys l ++ r := (show c32 l r = exN 32 0 l r from rfl).trans (exN_eq 32 0 l r (by omega))
set_option maxRecDepth 4000 in
theorem c64_eq {l : List Int} (h : l.length = 64) (r : List AV) : c64 l r = bys l ++ r := (show c64 l r = exN 64 0 l r from rfl).trans (exN_eq 64 0 l r (by omega))
theorem c32_map {l : List Int} (h : l.length = 32) : c32 l [] = l.map (AV.int .u8) := by rw [c32_eq h, List.append_nil]; rfl
theorem c64_map {l : List Int} (h : l.length = 64) : c64 l [] = l.map (AV.int .u8) := by rw [c64_eq h, List.append_nil]; rfl
theorem okB_none (n : Nat) : okB none none n := by simp [okB]
theorem cut32 {l : List Int} (h : l.length = 32) (r : List AV) : cutB ((c32 l r).take (32 * 1)) none none 1 = bys l := by
 rw [c32_eq h, List.take_append_of_le_length (by simp [h]), List.take_of_length_le (by simp [h])]
 simp [cutB, offB, lenB, endB, h]
theorem cut64 {l : List Int} (h : l.length = 64) (r : List AV) : cutB ((c64 l r).take (64 * 1)) none none 1 = bys l := by
 rw [c64_eq h, List.take_append_of_le_length (by simp [h]), List.take_of_length_le (by simp [h])]
 simp [cutB, offB, lenB, endB, h]
theorem c32_pure (l : List Int) (r : List AV) : pureL (c32 l r) = pureL r := by simp [c32, pureL, pureV]
theorem c64_pure (l : List Int) (r : List AV) : pureL (c64 l r) = pureL r := by simp [c64, pureL, pureV]
theorem c32_frz (i : Nat) (zs : List AV) (l : List Int) (r : List AV) : frzL i zs (c32 l r) = c32 l (frzL i zs r) := by simp [c32, frzL, frzV]
theorem c64_frz (i : Nat) (zs : List AV) (l : List Int) (r : List AV) : frzL i zs (c64 l r) = c64 l (frzL i zs r) := by simp [c64, frzL, frzV]
theorem c32_app (l : List Int) (r q : List AV) : c32 l r ++ q = c32 l (r ++ q) := rfl
theorem c64_app (l : List Int) (r q : List AV) : c64 l r ++ q = c64 l (r ++ q) := rfl
theorem c32_les {o : Nat → Option Nat} {l : List Int} {r q : List AV} (h : lesP o r q) : lesP o (c32 l r) (c32 l q) := by
 simp only [c32, lesP, leP, and_self, true_and]; exact h
theorem c64_les {o : Nat → Option Nat} {l : List Int} {r q : List AV} (h : lesP o r q) : lesP o (c64 l r) (c64 l q) := by
 simp only [c64, lesP, leP, and_self, true_and]; exact h
theorem c32_len (l : List Int) (r : List AV) : (c32 l r).length = 32 + r.length := by simp [c32]; omega
theorem c64_len (l : List Int) (r : List AV) : (c64 l r).length = 64 + r.length := by simp [c64]; omega
def opC (e : Ent) : List AV := [.int .i64 e.kind, .str e.key, .ro e.val.length (bys e.val)]
def entC (e : Ent) : List AV := c32 e.au (.int .i64 e.seq :: c32 e.prev (.int .i64 e.stamp :: .int .i64 e.kind :: .str e.key :: .ro e.val.length (bys e.val) :: c64 e.sig []))
structure EntOk (e : Ent) : Prop where
 au : Byt e.au ∧ e.au.length = 32
 seq : -9223372036854775808 ≤ e.seq ∧ e.seq < 9223372036854775808
 prev : Byt e.prev ∧ e.prev.length = 32
 stamp : -9223372036854775808 ≤ e.stamp ∧ e.stamp < 9223372036854775808
 kind : -9223372036854775808 ≤ e.kind ∧ e.kind < 9223372036854775808
 key : Byt e.key ∧ e.key.length ≤ 9223372036854775807
 val : Byt e.val ∧ e.val.length ≤ 9223372036854775807
 sig : Byt e.sig ∧ e.sig.length = 64
def z32 : List Int := List.replicate 32 0
def z64 : List Int := List.replicate 64 0
def ent0 : Ent := ⟨z32, 0, z32, 0, 0, [], [], z64⟩
theorem entC_length (e : Ent) : (entC e).length = 133 := by simp [entC, c32_len, c64_len]
theorem entC_pure (e : Ent) : pureL (entC e) = true := by simp [entC, c32_pure, c64_pure, pureL, pureV, pureL_bys]
theorem entC_frz (i : Nat) (zs : List AV) (e : Ent) : frzL i zs (entC e) = entC e := by simp [entC, c32_frz, c64_frz, frzL, frzV, frzL_bys]
theorem takeN_app : ∀ {m : Nat} {a b : List AV}, a.length = m → takeN m (a ++ b) = some a
 | 0, [], _, _ => by simp [takeN]
 | m + 1, c :: cs, b, h => by
  have ih := takeN_app (m := m) (a := cs) (b := b) (by simpa using h)
  simp [takeN, ih]
theorem lesP_ent {o : Nat → Option Nat} (e : Ent) {q : List AV} (h : q = entC e) : lesP o (entC e) q := by
 subst h
 unfold entC
 refine c32_les ⟨⟨rfl, rfl⟩, c32_les ⟨⟨rfl, rfl⟩, ⟨rfl, rfl⟩, rfl, ⟨rfl, rfl, pureL_bys _⟩, c64_les trivial⟩⟩
theorem lesP_app'' {o : Nat → Option Nat} : ∀ {a a' b b' : List AV}, lesP o a a' → lesP o b b' → lesP o (a ++ b) (a' ++ b')
 | [], [], _, _, _, h => h
 | [], _ :: _, _, _, h, _ => h.elim
 | _ :: _, [], _, _, h, _ => h.elim
 | x :: a, y :: a', b, b', h, k => ⟨h.1, lesP_app'' h.2 k⟩
theorem c32_dems {H : Heap} {l : List Int} {r q : List AV} {K : List Nat → Prop} (h : demsP H r q K) : demsP H (c32 l r) (c32 l q) K := by
 simp only [c32, demsP, demP, and_self, true_and, List.nil_append]; exact h
set_option maxRecDepth 4000 in
theorem c64_dems {H : Heap} {l : List Int} {r q : List AV} {K : List Nat → Prop} (h : demsP H r q K) : demsP H (c64 l r) (c64 l q) K := by
 simp only [c64, demsP, demP, and_self, true_and, List.nil_append]; exact h
theorem ent_dems {H : Heap} (e : Ent) {K : List Nat → Prop} (h : K []) : demsP H (entC e) (entC e) K := by
 unfold entC
 refine c32_dems ?_
 simp only [demsP, demP, and_self, true_and, List.nil_append]
 refine c32_dems ?_
 simp only [demsP, demP, and_self, true_and, List.nil_append]
 refine ⟨pureL_bys _, c64_dems ?_⟩
 simpa only [demsP] using h
theorem ent_int_dems {H : Heap} {e : Ent} {n : Int} {zs : List AV} {K : List Nat → Prop} (hz : zs = entC e) (h : K []) : demsP H [.tuple [.agg (entC e), .int .i64 n]] [.tuple [.agg zs, .int .i64 n]] K := by
 subst hz
 simp only [demsP, demP]
 refine ent_dems e ?_
 simpa only [and_self, true_and, List.nil_append] using h
def entV (e : Ent) (v : AV) : List AV := c32 e.au (.int .i64 e.seq :: c32 e.prev (.int .i64 e.stamp :: .int .i64 e.kind :: .str e.key :: v :: c64 e.sig []))
def zeroE : List AV := entV ent0 .nil
theorem ent0_dems {H : Heap} {K : List Nat → Prop} (h : K []) : demsP H (entC ent0) zeroE K := by
 unfold entC zeroE entV
 refine c32_dems ?_
 simp only [demsP, demP, and_self, true_and, List.nil_append]
 refine c32_dems ?_
 simp only [demsP, demP, and_self, true_and, List.nil_append]
 refine ⟨⟨rfl, rfl⟩, c64_dems ?_⟩
 simpa only [demsP] using h
theorem ent0_int_dems {H : Heap} {n : Int} {zs : List AV} {K : List Nat → Prop} (hz : zs = zeroE) (h : K []) : demsP H [.tuple [.agg (entC ent0), .int .i64 n]] [.tuple [.agg zs, .int .i64 n]] K := by
 subst hz
 simp only [demsP, demP]
 refine ent0_dems ?_
 simpa only [and_self, true_and, List.nil_append] using h
end
section
--KR
attribute [local irreducible] ifB fitP Does Weaker
def opR (e : Ent) : Bool := decide (1 ≤ e.key.length) && decide (e.key.length ≤ 16) && validR e.key && ((decide (e.kind = 1) && decide (e.val.length ≤ 40)) || (decide (e.kind = 2) && decide (e.val.length = 0)))
def entR (e : Ent) : Bool := decide (1 ≤ e.seq) && decide (e.seq ≤ 200) && (decide (e.seq ≠ 1) || decide (e.prev = z32)) && decide (0 ≤ e.stamp) && opR e
def ME : FuncId → List Mode := orElse [(55, [.rd]), (22, [.rd]), (82, [.rd, .rd]), (53, [.rd, .rd]), (19, [.rd]), (20, [.rd]), (24, [.rd]), (74, [.rd]), (96, [.rd]),
 (46, [.rd, .rd]), (12, [.rd, .rd]), (18, [.rd]), (999999, [.rd]), (999999, [.rd]), (47, [.rd])] MR
theorem dt {p : Prop} [Decidable p] (h : p) : decide p = true := decide_eq_true h
theorem df {p : Prop} [Decidable p] (h : ¬ p) : decide p = false := decide_eq_false h
theorem op_ok (e : Ent) (hk : Byt e.key) (hl : e.key.length ≤ 1099511627776) (hv : e.val.length ≤ 1099511627776) : ACall Tryz.prog 55 [.agg (opC e)] (.bool (opR e)) [] := by
 have hu := utf8_ok e.key hk hl
 unfold opR
 refine ACall.of_does TTok Tryz.func55 rfl Tryz.call55 rfl (wpc_sound (M := MR) (PL := PL0) (CU := noCut) TTok mixed _ _ _ ?_)
 by_cases c1 : 1 ≤ e.key.length
 ·rw [dt c1]
  by_cases c2 : e.key.length ≤ 16
  ·rw [dt c2]
   cases c3 : validR e.key <;> rw [c3] at hu
   ·conv => whnf
    repeat ((first | refine ifB_f ?_ | (refine ifB_neg (decide_eq_false (by first | omega | rfl | (dsimp only; omega))) ?_) | refine ⟨pureL_bys _, ?_⟩ | (refine Or.inl ⟨⟨rfl, ?_⟩, ?_⟩; (focus (first | rfl | (simp; done) | (rw [toksC_length]; omega)))) | refine ⟨rfl, ?_⟩ | refine ⟨_, rfl, ?_⟩); conv => whnf)
    refine ⟨_, _, hu, by first | rfl | simp [noRoIf, noRoL, noRoV, noRoL_bys], ?_⟩
    conv => whnf
    repeat ((first | refine ifB_t ?_ | refine ifB_f ?_ | refine ⟨rfl, ?_⟩); conv => whnf)
    rfl
   ·by_cases c4 : e.kind = 1
    ·rw [dt c4, df (show ¬ e.kind = 2 by omega)]
     by_cases c5 : e.val.length ≤ 40
     ·rw [dt c5]
      conv => whnf
      repeat ((first | refine ifB_f ?_ | (refine ifB_neg (decide_eq_false (by first | omega | rfl | (dsimp only; omega))) ?_) | refine ⟨pureL_bys _, ?_⟩ | (refine Or.inl ⟨⟨rfl, ?_⟩, ?_⟩; (focus (first | rfl | (simp; done) | (rw [toksC_length]; omega)))) | refine ⟨rfl, ?_⟩ | refine ⟨_, rfl, ?_⟩); conv => whnf)
      refine ⟨_, _, hu, by first | rfl | simp [noRoIf, noRoL, noRoV, noRoL_bys], ?_⟩
      conv => whnf
      repeat ((first | refine ifB_t ?_ | refine ifB_f ?_ | (refine ifB_pos (decide_eq_true (by first | omega | rfl | (dsimp only; omega))) ?_) | refine ⟨rfl, ?_⟩ | refine ⟨_, rfl, ?_⟩); conv => whnf)
      rfl
     ·rw [df c5]
      conv => whnf
      repeat ((first | refine ifB_f ?_ | (refine ifB_neg (decide_eq_false (by first | omega | rfl | (dsimp only; omega))) ?_) | refine ⟨pureL_bys _, ?_⟩ | (refine Or.inl ⟨⟨rfl, ?_⟩, ?_⟩; (focus (first | rfl | (simp; done) | (rw [toksC_length]; omega)))) | refine ⟨rfl, ?_⟩ | refine ⟨_, rfl, ?_⟩); conv => whnf)
      refine ⟨_, _, hu, by first | rfl | simp [noRoIf, noRoL, noRoV, noRoL_bys], ?_⟩
      conv => whnf
      repeat ((first | refine ifB_t ?_ | refine ifB_f ?_ | (refine ifB_neg (decide_eq_false (by first | omega | rfl | (dsimp only; omega))) ?_) | (refine ifB_pos (decide_eq_true (by first | omega | rfl | (dsimp only; omega))) ?_) | refine ⟨rfl, ?_⟩ | refine ⟨_, rfl, ?_⟩); conv => whnf)
      rfl
    ·rw [df c4]
     by_cases c6 : e.kind = 2
     ·rw [dt c6]
      by_cases c7 : e.val.length = 0
      ·rw [dt c7]
       conv => whnf
       repeat ((first | refine ifB_f ?_ | (refine ifB_neg (decide_eq_false (by first | omega | rfl | (dsimp only; omega))) ?_) | refine ⟨pureL_bys _, ?_⟩ | (refine Or.inl ⟨⟨rfl, ?_⟩, ?_⟩; (focus (first | rfl | (simp; done) | (rw [toksC_length]; omega)))) | refine ⟨rfl, ?_⟩ | refine ⟨_, rfl, ?_⟩); conv => whnf)
       refine ⟨_, _, hu, by first | rfl | simp [noRoIf, noRoL, noRoV, noRoL_bys], ?_⟩
       conv => whnf
       repeat ((first | refine ifB_t ?_ | refine ifB_f ?_ | (refine ifB_neg (decide_eq_false (by first | omega | rfl | (dsimp only; omega))) ?_) | (refine ifB_pos (decide_eq_true (by first | omega | rfl | (dsimp only; omega))) ?_) | refine ⟨_, rfl, ?_⟩); conv => whnf)
       exact ⟨dt (by omega), rfl⟩
      ·rw [df c7]
       conv => whnf
       repeat ((first | refine ifB_f ?_ | (refine ifB_neg (decide_eq_false (by first | omega | rfl | (dsimp only; omega))) ?_) | refine ⟨pureL_bys _, ?_⟩ | (refine Or.inl ⟨⟨rfl, ?_⟩, ?_⟩; (focus (first | rfl | (simp; done) | (rw [toksC_length]; omega)))) | refine ⟨rfl, ?_⟩ | refine ⟨_, rfl, ?_⟩); conv => whnf)
       refine ⟨_, _, hu, by first | rfl | simp [noRoIf, noRoL, noRoV, noRoL_bys], ?_⟩
       conv => whnf
       repeat ((first | refine ifB_t ?_ | refine ifB_f ?_ | (refine ifB_neg (decide_eq_false (by first | omega | rfl | (dsimp only; omega))) ?_) | (refine ifB_pos (decide_eq_true (by first | omega | rfl | (dsimp only; omega))) ?_) | refine ⟨_, rfl, ?_⟩); conv => whnf)
       exact ⟨df (by omega), rfl⟩
     ·rw [df c6]
      conv => whnf
      repeat ((first | refine ifB_f ?_ | (refine ifB_neg (decide_eq_false (by first | omega | rfl | (dsimp only; omega))) ?_) | refine ⟨pureL_bys _, ?_⟩ | (refine Or.inl ⟨⟨rfl, ?_⟩, ?_⟩; (focus (first | rfl | (simp; done) | (rw [toksC_length]; omega)))) | refine ⟨rfl, ?_⟩ | refine ⟨_, rfl, ?_⟩); conv => whnf)
      refine ⟨_, _, hu, by first | rfl | simp [noRoIf, noRoL, noRoV, noRoL_bys], ?_⟩
      conv => whnf
      repeat ((first | refine ifB_f ?_ | (refine ifB_neg (decide_eq_false (by first | omega | rfl | (dsimp only; omega))) ?_) | refine ⟨rfl, ?_⟩ | refine ⟨_, rfl, ?_⟩); conv => whnf)
      rfl
  ·rw [df c2]
   conv => whnf
   repeat ((first | refine ifB_t ?_ | refine ifB_f ?_ | (refine ifB_neg (decide_eq_false (by first | omega | rfl | (dsimp only; omega))) ?_) | (refine ifB_pos (decide_eq_true (by first | omega | rfl | (dsimp only; omega))) ?_) | refine ⟨rfl, ?_⟩ | refine ⟨_, rfl, ?_⟩); conv => whnf)
   rfl
 ·rw [df c1]
  conv => whnf
  repeat ((first | refine ifB_t ?_ | (refine ifB_pos (decide_eq_true (by first | omega | rfl | (dsimp only; omega))) ?_) | refine ⟨rfl, ?_⟩ | refine ⟨_, rfl, ?_⟩); conv => whnf)
  rfl
structure EntS (e : Ent) : Prop extends EntOk e where
 key' : e.key.length ≤ 1000000000
 val' : e.val.length ≤ 1000000000
theorem check_entry_ok (e : Ent) (he : EntS e) : ACall Tryz.prog 22 [.agg (entC e)] (.int .i64 (if entR e then 0 else 1)) [] := by
 have ho := op_ok e he.key.1 (by have := he.key'; omega) (by have := he.val'; omega)
 unfold entR
 refine ACall.of_does TTok Tryz.func22 rfl Tryz.call22 rfl (wpc_sound (M := ME) (PL := PL0) (CU := noCut) TTok mixed _ _ _ ?_)
 by_cases c1 : 1 ≤ e.seq
 ·rw [dt c1]
  by_cases c2 : e.seq ≤ 200
  ·rw [dt c2]
   by_cases c3 : e.seq = 1
   ·rw [df (show ¬ e.seq ≠ 1 by omega)]
    by_cases c4 : e.prev = z32
    ·rw [dt c4]
     by_cases c5 : 0 ≤ e.stamp
     ·rw [dt c5]
      conv => whnf
      repeat ((first | refine ifB_t ?_ | refine ifB_f ?_ | (refine ifB_neg (decide_eq_false (by first | omega | rfl | (dsimp only; omega))) ?_) | (refine ifB_pos (decide_eq_true (by first | omega | rfl | (dsimp only; omega))) ?_) | refine ⟨rfl, ?_⟩ | refine ⟨_, rfl, ?_⟩); conv => whnf)
      refine ⟨e.prev, z32, ⟨rfl, c32_map he.prev.2, rfl, he.prev.2, rfl⟩, ?_⟩
      conv => whnf
      repeat ((first | refine ifB_t ?_ | refine ifB_f ?_); conv => whnf)
      rw [dt c4]
      conv => whnf
      repeat ((first | refine ifB_f ?_ | (refine ifB_neg (decide_eq_false (by first | omega | rfl | (dsimp only; omega))) ?_) | refine ⟨entC_pure _, ?_⟩ | refine ⟨rfl, ?_⟩ | refine ⟨_, rfl, ?_⟩); conv => whnf)
      cases c6 : opR e <;> rw [c6] at ho
      ·refine ⟨_, _, ho, by first | rfl | simp [noRoIf, noRoL, noRoV, noRoL_bys], ?_⟩
       conv => whnf
       repeat ((first | refine ifB_t ?_ | refine ifB_f ?_ | refine ⟨⟨rfl, rfl⟩, ?_⟩); conv => whnf)
       rfl
      ·refine ⟨_, _, ho, by first | rfl | simp [noRoIf, noRoL, noRoV, noRoL_bys], ?_⟩
       conv => whnf
       repeat ((first | refine ifB_f ?_ | refine ⟨⟨rfl, rfl⟩, ?_⟩); conv => whnf)
       rfl
     ·rw [df c5]
      conv => whnf
      repeat ((first | refine ifB_t ?_ | refine ifB_f ?_ | (refine ifB_neg (decide_eq_false (by first | omega | rfl | (dsimp only; omega))) ?_) | (refine ifB_pos (decide_eq_true (by first | omega | rfl | (dsimp only; omega))) ?_) | refine ⟨rfl, ?_⟩ | refine ⟨_, rfl, ?_⟩); conv => whnf)
      refine ⟨e.prev, z32, ⟨rfl, c32_map he.prev.2, rfl, he.prev.2, rfl⟩, ?_⟩
      conv => whnf
      repeat ((first | refine ifB_t ?_ | refine ifB_f ?_); conv => whnf)
      rw [dt c4]
      conv => whnf
      repeat ((first | refine ifB_t ?_ | refine ifB_f ?_ | (refine ifB_pos (decide_eq_true (by first | omega | rfl | (dsimp only; omega))) ?_) | refine ⟨_, rfl, ?_⟩ | refine ⟨⟨rfl, rfl⟩, ?_⟩); conv => whnf)
      rfl
    ·rw [df c4]
     conv => whnf
     repeat ((first | refine ifB_t ?_ | refine ifB_f ?_ | (refine ifB_neg (decide_eq_false (by first | omega | rfl | (dsimp only; omega))) ?_) | (refine ifB_pos (decide_eq_true (by first | omega | rfl | (dsimp only; omega))) ?_) | refine ⟨rfl, ?_⟩ | refine ⟨_, rfl, ?_⟩); conv => whnf)
     refine ⟨e.prev, z32, ⟨rfl, c32_map he.prev.2, rfl, he.prev.2, rfl⟩, ?_⟩
     conv => whnf
     repeat ((first | refine ifB_t ?_ | refine ifB_f ?_); conv => whnf)
     rw [df c4]
     conv => whnf
     repeat ((first | refine ifB_t ?_ | refine ⟨⟨rfl, rfl⟩, ?_⟩); conv => whnf)
     rfl
   ·rw [dt (show e.seq ≠ 1 from c3)]
    by_cases c5 : 0 ≤ e.stamp
    ·rw [dt c5]
     conv => whnf
     repeat ((first | refine ifB_f ?_ | (refine ifB_neg (decide_eq_false (by first | omega | rfl | (dsimp only; omega))) ?_) | refine ⟨entC_pure _, ?_⟩ | refine ⟨rfl, ?_⟩ | refine ⟨_, rfl, ?_⟩); conv => whnf)
     cases c6 : opR e <;> rw [c6] at ho
     ·refine ⟨_, _, ho, by first | rfl | simp [noRoIf, noRoL, noRoV, noRoL_bys], ?_⟩
      conv => whnf
      repeat ((first | refine ifB_t ?_ | refine ifB_f ?_ | refine ⟨⟨rfl, rfl⟩, ?_⟩); conv => whnf)
      rfl
     ·refine ⟨_, _, ho, by first | rfl | simp [noRoIf, noRoL, noRoV, noRoL_bys], ?_⟩
      conv => whnf
      repeat ((first | refine ifB_f ?_ | refine ⟨⟨rfl, rfl⟩, ?_⟩); conv => whnf)
      rfl
    ·rw [df c5]
     conv => whnf
     repeat ((first | refine ifB_t ?_ | refine ifB_f ?_ | (refine ifB_neg (decide_eq_false (by first | omega | rfl | (dsimp only; omega))) ?_) | (refine ifB_pos (decide_eq_true (by first | omega | rfl | (dsimp only; omega))) ?_) | refine ⟨rfl, ?_⟩ | refine ⟨_, rfl, ?_⟩ | refine ⟨⟨rfl, rfl⟩, ?_⟩); conv => whnf)
     rfl
  ·rw [df c2]
   conv => whnf
   repeat ((first | refine ifB_t ?_ | refine ifB_f ?_ | (refine ifB_neg (decide_eq_false (by first | omega | rfl | (dsimp only; omega))) ?_) | (refine ifB_pos (decide_eq_true (by first | omega | rfl | (dsimp only; omega))) ?_) | refine ⟨rfl, ?_⟩ | refine ⟨_, rfl, ?_⟩ | refine ⟨⟨rfl, rfl⟩, ?_⟩); conv => whnf)
   rfl
 ·rw [df c1]
  conv => whnf
  repeat ((first | refine ifB_t ?_ | (refine ifB_pos (decide_eq_true (by first | omega | rfl | (dsimp only; omega))) ?_) | refine ⟨rfl, ?_⟩ | refine ⟨_, rfl, ?_⟩ | refine ⟨⟨rfl, rfl⟩, ?_⟩); conv => whnf)
  rfl
end
section
--KR
attribute [local irreducible] ifB fitP Does Weaker
def entT (many : Int) (e : Ent) : List Tok := [⟨5, many, []⟩, ⟨1, 1, []⟩, ⟨3, 0, e.au⟩, ⟨1, e.seq, []⟩, ⟨3, 0, e.prev⟩, ⟨1, e.stamp, []⟩, ⟨5, 3, []⟩, ⟨1, e.kind, []⟩, ⟨4, 0, e.key⟩, ⟨3, 0, e.val⟩]
def entTs (e : Ent) : List Tok := entT 7 e ++ [⟨3, 0, e.sig⟩]
theorem ctext_ok (s : List Int) (hs : Byt s) (hl : s.length ≤ 17592186044416) : ACall Tryz.prog 109 [.str s] (.agg (tokC ⟨4, 0, s⟩)) [] := by
 refine ACall.of_does TTok Tryz.func109 rfl Tryz.call109 rfl (wpc_sound (M := MR) (PL := PL0) (CU := cutAt [99999]) TTok mixed _ _ _ ?_)
 conv => whnf
 repeat ((first | refine ⟨(⟨by kernel_rfl, by kernel_rfl, Nat.le_of_ble_eq_true (by kernel_rfl)⟩ : AV.ones _ = true ∧ _ ∧ _), ?_⟩ | refine ⟨rfl, ?_⟩); conv => whnf)
 refine Does.freeze 1 rfl (wpc_sound (M := ME) (PL := PL0) (CU := noCut) TTok mixed _ _ _ ?_)
 conv => whnf
 repeat ((first | refine ⟨_, rfl, ?_⟩ | refine ⟨⟨rfl, rfl⟩, ?_⟩); conv => whnf)
 exact ⟨⟨rfl, whole_bys s, pureL_bys _⟩, rfl⟩
def PLrow : Nat → Bool × Plan := plans [(1, (false, (takesTo [0, 3, 4, 6, 7, 9, 10, 12, 13, 16, 17, 18, 20, 21, 22, 24, 25, 26] (.all [(1, (.all [(2, (.all [(5, (.all [(8, (.all [(11, (.all [(14, (.all [(15, (.all [(19, (.all [(23, (.all [(27, (.all [(28, (takes [29]))]))]))]))]))]))]))]))]))]))]))]))))]
set_option maxRecDepth 20000 in
set_option maxHeartbeats 4000000 in
theorem row6_ok (e : Ent) (he : EntS e) : ACall Tryz.prog 82 [.agg (entC e), .int .i64 6] (.own 10 3 (toksC (entT 6 e))) [] := by
 refine ACall.of_does TTok Tryz.func82 rfl Tryz.call82 rfl (wpc_sound (M := ME) (PL := PLrow) (CU := cutAt [100001]) TTok mixed _ _ _ ?_)
 conv => whnf
 repeat ((refine ⟨rfl, ?_⟩); conv => whnf)
 refine Does.freeze 0 rfl (wpc_sound (M := ME) (PL := PLrow) (CU := noCut) TTok mixed _ _ _ ?_)
 conv => whnf
 refine ⟨by kernel_rfl, ?_⟩
 conv => whnf
 repeat ((first | (refine ⟨⟨by first | (simp only [List.drop_zero, List.length_drop, hds_len]; omega) | exact Nat.le_of_ble_eq_true (by kernel_rfl), okB_none _⟩, ?_⟩) | refine ⟨rfl, ?_⟩ | refine ⟨_, rfl, ?_⟩); conv => whnf)
 refine ⟨_, _, list_ok 6, by first | rfl | simp [noRoIf, noRoL, noRoV, noRoL_bys], ?_⟩
 conv => whnf
 repeat ((refine ⟨rfl, ?_⟩); conv => whnf)
 refine ⟨_, _, num_ok 1, by first | rfl | simp [noRoIf, noRoL, noRoV, noRoL_bys], ?_⟩
 conv => whnf
 repeat ((refine ⟨rfl, ?_⟩); conv => whnf)
 refine ⟨_, _, (cstr_ok e.au).arg1 he.au.2.symm (cut32 he.au.2 _), by first | rfl | simp [noRoIf, noRoL, noRoV, noRoL_bys], ?_⟩
 conv => whnf
 repeat ((refine ⟨rfl, ?_⟩); conv => whnf)
 refine ⟨_, _, num_ok e.seq, by first | rfl | simp [noRoIf, noRoL, noRoV, noRoL_bys], ?_⟩
 conv => whnf
 repeat ((refine ⟨rfl, ?_⟩); conv => whnf)
 refine ⟨_, _, (cstr_ok e.prev).arg1 he.prev.2.symm (cut32 he.prev.2 _), by first | rfl | simp [noRoIf, noRoL, noRoV, noRoL_bys], ?_⟩
 conv => whnf
 repeat ((refine ⟨rfl, ?_⟩); conv => whnf)
 refine ⟨_, _, num_ok e.stamp, by first | rfl | simp [noRoIf, noRoL, noRoV, noRoL_bys], ?_⟩
 conv => whnf
 repeat ((refine ⟨rfl, ?_⟩); conv => whnf)
 refine ⟨_, _, list_ok 3, by first | rfl | simp [noRoIf, noRoL, noRoV, noRoL_bys], ?_⟩
 conv => whnf
 repeat ((refine ⟨rfl, ?_⟩); conv => whnf)
 refine ⟨_, _, num_ok e.kind, by first | rfl | simp [noRoIf, noRoL, noRoV, noRoL_bys], ?_⟩
 conv => whnf
 repeat ((refine ⟨rfl, ?_⟩); conv => whnf)
 refine ⟨_, _, ctext_ok e.key he.key.1 (by have := he.key'; omega), by first | rfl | simp [noRoIf, noRoL, noRoV, noRoL_bys], ?_⟩
 conv => whnf
 repeat ((first | refine ⟨pureL_bys _, ?_⟩ | refine ⟨rfl, ?_⟩); conv => whnf)
 refine ⟨_, _, cstr_ok e.val, by first | rfl | simp [noRoIf, noRoL, noRoV, noRoL_bys], ?_⟩
 conv => whnf
 repeat ((first | refine ifB_f ?_ | refine ⟨⟨rfl, rfl⟩, ?_⟩); conv => whnf)
 exact ⟨⟨rfl, rfl, rfl, rfl, pureL_toks (entT 6 e)⟩, rfl⟩
set_option maxRecDepth 20000 in
set_option maxHeartbeats 4000000 in
theorem row7_ok (e : Ent) (he : EntS e) : ACall Tryz.prog 82 [.agg (entC e), .int .i64 7] (.own 11 3 (toksC (entTs e))) [] := by
 refine ACall.of_does TTok Tryz.func82 rfl Tryz.call82 rfl (wpc_sound (M := ME) (PL := PLrow) (CU := cutAt [100001]) TTok mixed _ _ _ ?_)
 conv => whnf
 repeat ((refine ⟨rfl, ?_⟩); conv => whnf)
 refine Does.freeze 0 rfl (wpc_sound (M := ME) (PL := PLrow) (CU := noCut) TTok mixed _ _ _ ?_)
 conv => whnf
 refine ⟨by kernel_rfl, ?_⟩
 conv => whnf
 repeat ((first | (refine ⟨⟨by first | (simp only [List.drop_zero, List.length_drop, hds_len]; omega) | exact Nat.le_of_ble_eq_true (by kernel_rfl), okB_none _⟩, ?_⟩) | refine ⟨rfl, ?_⟩ | refine ⟨_, rfl, ?_⟩); conv => whnf)
 refine ⟨_, _, list_ok 7, by first | rfl | simp [noRoIf, noRoL, noRoV, noRoL_bys], ?_⟩
 conv => whnf
 repeat ((refine ⟨rfl, ?_⟩); conv => whnf)
 refine ⟨_, _, num_ok 1, by first | rfl | simp [noRoIf, noRoL, noRoV, noRoL_bys], ?_⟩
 conv => whnf
 repeat ((refine ⟨rfl, ?_⟩); conv => whnf)
 refine ⟨_, _, (cstr_ok e.au).arg1 he.au.2.symm (cut32 he.au.2 _), by first | rfl | simp [noRoIf, noRoL, noRoV, noRoL_bys], ?_⟩
 conv => whnf
 repeat ((refine ⟨rfl, ?_⟩); conv => whnf)
 refine ⟨_, _, num_ok e.seq, by first | rfl | simp [noRoIf, noRoL, noRoV, noRoL_bys], ?_⟩
 conv => whnf
 repeat ((refine ⟨rfl, ?_⟩); conv => whnf)
 refine ⟨_, _, (cstr_ok e.prev).arg1 he.prev.2.symm (cut32 he.prev.2 _), by first | rfl | simp [noRoIf, noRoL, noRoV, noRoL_bys], ?_⟩
 conv => whnf
 repeat ((refine ⟨rfl, ?_⟩); conv => whnf)
 refine ⟨_, _, num_ok e.stamp, by first | rfl | simp [noRoIf, noRoL, noRoV, noRoL_bys], ?_⟩
 conv => whnf
 repeat ((refine ⟨rfl, ?_⟩); conv => whnf)
 refine ⟨_, _, list_ok 3, by first | rfl | simp [noRoIf, noRoL, noRoV, noRoL_bys], ?_⟩
 conv => whnf
 repeat ((refine ⟨rfl, ?_⟩); conv => whnf)
 refine ⟨_, _, num_ok e.kind, by first | rfl | simp [noRoIf, noRoL, noRoV, noRoL_bys], ?_⟩
 conv => whnf
 repeat ((refine ⟨rfl, ?_⟩); conv => whnf)
 refine ⟨_, _, ctext_ok e.key he.key.1 (by have := he.key'; omega), by first | rfl | simp [noRoIf, noRoL, noRoV, noRoL_bys], ?_⟩
 conv => whnf
 repeat ((first | refine ⟨pureL_bys _, ?_⟩ | refine ⟨rfl, ?_⟩); conv => whnf)
 refine ⟨_, _, cstr_ok e.val, by first | rfl | simp [noRoIf, noRoL, noRoV, noRoL_bys], ?_⟩
 conv => whnf
 repeat ((first | refine ifB_t ?_ | (refine ⟨⟨by first | (simp only [List.drop_zero, List.length_drop, hds_len]; omega) | exact Nat.le_of_ble_eq_true (by kernel_rfl), okB_none _⟩, ?_⟩) | refine ⟨rfl, ?_⟩ | refine ⟨⟨rfl, rfl⟩, ?_⟩); conv => whnf)
 refine ⟨_, _, (cstr_ok e.sig).arg1 he.sig.2.symm (cut64 he.sig.2 _), by first | rfl | simp [noRoIf, noRoL, noRoV, noRoL_bys], ?_⟩
 conv => whnf
 repeat ((first | (refine Or.inl ⟨⟨rfl, ?_⟩, ?_⟩; (focus (first | rfl | (simp; done) | (rw [toksC_length]; omega)))) | refine ⟨rfl, ?_⟩ | refine ⟨⟨rfl, rfl⟩, ?_⟩ | (refine ⟨⟨rfl, ?_, ?_, ?_⟩, ?_⟩; (focus (first | (simp; done) | (simp; omega))); (focus (first | exact Or.inl rfl | exact Or.inr (by omega))); (focus (first | (simp [limB, lenB, offB]; done) | (simp [limB, lenB, offB]; omega))))); conv => whnf)
 exact ⟨⟨rfl, rfl, rfl, rfl, pureL_toks (entTs e)⟩, rfl⟩
def entB (e : Ent) : List Int × Int := if entR e then encR validR (entTs e) else ([], 1)
def entBody (e : Ent) : List Int × Int := if entR e then encR validR (entT 6 e) else ([], 1)
theorem entT_ok (many : Int) (hm : 0 ≤ many ∧ many ≤ 100) (e : Ent) (he : EntS e) : ToksOk (entT many e) ∧ ∀ t ∈ entT many e, t.b.length ≤ 1000000000 := by
 have h1 := he.seq; have h2 := he.stamp; have h3 := he.kind; have h4 := he.au; have h5 := he.prev; have h6 := he.key'; have h7 := he.val'
 constructor
 ·intro t ht
  simp only [entT, List.mem_cons, List.mem_singleton, List.not_mem_nil, or_false] at ht
  rcases ht with rfl | rfl | rfl | rfl | rfl | rfl | rfl | rfl | rfl | rfl
  all_goals refine ⟨by dsimp only; omega, by dsimp only; omega, ?_⟩
  all_goals first | exact fun x hx => absurd hx (List.not_mem_nil) | exact h4.1 | exact h5.1 | exact he.key.1 | exact he.val.1
 ·intro t ht
  simp only [entT, List.mem_cons, List.mem_singleton, List.not_mem_nil, or_false] at ht
  rcases ht with rfl | rfl | rfl | rfl | rfl | rfl | rfl | rfl | rfl | rfl
  all_goals dsimp only
  all_goals first | omega | (simp; done)
theorem entTs_ok (e : Ent) (he : EntS e) : ToksOk (entTs e) ∧ ∀ t ∈ entTs e, t.b.length ≤ 1000000000 := by
 have h := entT_ok 7 (by omega) e he
 constructor
 ·intro t ht
  rcases List.mem_append.1 ht with ht | ht
  ·exact h.1 t ht
  ·simp only [List.mem_singleton] at ht
   subst ht
   exact ⟨by dsimp only; omega, by dsimp only; omega, he.sig.1⟩
 ·intro t ht
  rcases List.mem_append.1 ht with ht | ht
  ·exact h.2 t ht
  ·simp only [List.mem_singleton] at ht
   subst ht
   have := he.sig.2
   dsimp only
   omega
end
end Go.Proofs.YtbkclacjamlebaaGreatDoor.Abs
