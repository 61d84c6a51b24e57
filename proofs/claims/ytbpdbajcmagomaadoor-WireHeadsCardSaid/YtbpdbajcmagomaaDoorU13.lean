/- Texts NA to EP, merged. -/
import Derived.Test.YtbpdbajcmagomaaDoorU12
set_option linter.unusedVariables false
set_option linter.unusedSimpArgs false
namespace Go.Proofs.YtbpdbajcmagomaaDoor.Abs
open Go
section
--KR
attribute [local irreducible] ifB fitP Does Weaker
structure Let where
 frm : Int
 to : Int
 body : List Int
 deriving DecidableEq
def letC (x : Let) : List AV := [.int .i64 x.frm, .int .i64 x.to, .ro x.body.length (bys x.body)]
structure LetS (x : Let) : Prop where
 frm : -9223372036854775808 ≤ x.frm ∧ x.frm < 9223372036854775808
 to : -9223372036854775808 ≤ x.to ∧ x.to < 9223372036854775808
 body : Byt x.body ∧ x.body.length ≤ 1000000000
def let0 : Let := ⟨0, 0, []⟩
theorem letC_length (x : Let) : (letC x).length = 3 := rfl
theorem letC_pure (x : Let) : pureL (letC x) = true := by simp [letC, pureL, pureV, pureL_bys]
theorem letC_one (x : Let) : (letC x).all AV.one = true := by simp [letC, AV.one]
theorem letC_les {o : Nat → Option Nat} (x : Let) : lesP o (letC x) (letC x) := ⟨⟨rfl, rfl⟩, ⟨rfl, rfl⟩, ⟨rfl, rfl, pureL_bys _⟩, trivial⟩
theorem lets_len (l : List Let) : (rowsC letC l).length = 3 * l.length := rowsC_length letC_length l
theorem lets_pure (l : List Let) : pureL (rowsC letC l) = true := rowsC_pure letC_pure l
theorem lets_ones (l : List Let) : (rowsC letC l).all AV.one = true := rowsC_ones letC_one l
theorem let_frm {l : List Let} {j m : Nat} (h : j < l.length) (hm : m = 3 * j) : (List.drop 0 (List.drop m (rowsC letC l)))[0]? = some (.int .i64 l[j].frm) := by rw [rowsC_at letC_length h hm]; rfl
theorem let_to {l : List Let} {j m : Nat} (h : j < l.length) (hm : m = 3 * j) : (List.drop 1 (List.drop m (rowsC letC l)))[0]? = some (.int .i64 l[j].to) := by rw [rowsC_at letC_length h hm]; rfl
theorem let_body {l : List Let} {j m : Nat} (h : j < l.length) (hm : m = 3 * j) : (List.drop 2 (List.drop m (rowsC letC l)))[0]? = some (.ro l[j].body.length (bys l[j].body)) := by rw [rowsC_at letC_length h hm]; rfl
theorem roLoad_cell {st : St} {t : TypeId} {a : Operand} {cs : List AV} (he : evalO st.env a = .rop cs) (hne : cs.length ≠ 0) : roLoad st (.load t a) = true := by
 simp only [roLoad, he]
 cases cs with
 | nil => simp at hne
 | cons x r => rfl
theorem takeOk_cell {ops : Array Oper} {st : St} {dst : Option Tmp} {ty : TypeId} {pos : String} {af : Array Edge} {t : TypeId} {a : Operand} {cs : List AV} (he : evalO st.env a = .rop cs) (hne : cs.length ≠ 0) : takeOk ops ⟨dst, .load t a, ty, pos, af, none⟩ st = true := by
 show roLoad st (.load t a) = true
 exact roLoad_cell he hne
theorem takeOk_gcell {ops : Array Oper} {st : St} {dst : Option Tmp} {ty : TypeId} {pos : String} {af : Array Edge} {t : TypeId} {a : Operand} {cs : List AV} {j d : Nat} {want : Bool} (hg : guardTmp ops j = some d) (he : evalO st.env a = .rop cs) (hne : cs.length ≠ 0) : takeOk ops ⟨dst, .load t a, ty, pos, af, some (j, want)⟩ st = true := by
 unfold takeOk
 dsimp only
 rw [hg]
 dsimp only
 rw [roLoad_cell he hne]
 rfl
theorem bys_nil_eq {l : List Let} (h : rowsC letC l = []) : l = [] := by
 cases l with
 | nil => rfl
 | cons x r => simp [rowsC, letC] at h
def MN : FuncId → List Mode := orElse [(40, [.rd]), (38, [.rd, .rd]), (32, [.rd]), (13, [.rd, .rd]), (18, [.rd, .rd]), (20, [.rd, .rd]), (67, [.rd]),
 (39, [.mv 1]), (76, [.rd, .rd]), (15, [.rd, .rd]), (9, [.rd]), (22, []), (27, [.rd])] MK2
theorem one_ok (x : Let) (hx : LetS x) : ACall Tryd.prog 40 [.agg (letC x)] (.agg (letC x)) [] := by
 have h := (clone_ok x.body (by have := hx.body.2; omega)).roRes
 refine ACall.of_does TTok Tryd.func40 rfl Tryd.call40 rfl (wpc_sound (M := MN) (PL := PL0) (CU := noCut) TTok mixed _ _ _ ?_)
 conv => whnf
 repeat ((first | refine ⟨pureL_bys _, ?_⟩ | refine ⟨rfl, ?_⟩ | refine ⟨_, rfl, ?_⟩); conv => whnf)
 refine ⟨_, _, h, by first | rfl | simp [noRoIf, noRoL, noRoV, noRoL_bys], ?_⟩
 conv => whnf
 repeat ((first | refine ⟨(⟨by kernel_rfl, by kernel_rfl, Nat.le_of_ble_eq_true (by kernel_rfl)⟩ : AV.ones _ = true ∧ _ ∧ _), ?_⟩ | refine ⟨_, rfl, ?_⟩ | refine ⟨⟨rfl, rfl⟩, ?_⟩ | (refine ⟨⟨rfl, rfl, ?_⟩, ?_⟩; (focus (first | assumption | exact pureL_bys _ | exact pureL_toks _)))); conv => whnf)
 rfl
theorem cloneL_ok (l : List Let) (hl : l.length ≤ 1000000) : ACall Tryd.prog 67 [.ro l.length (rowsC letC l)] (.own l.length 3 (rowsC letC l)) [] := by
 refine ACall.of_does TTok Tryd.func67 rfl Tryd.call67 rfl (wpc_sound (M := MN) (PL := PL0) (CU := noCut) TTok mixed _ _ _ ?_)
 conv => whnf
 refine ⟨fun h => ?_, ?_⟩
 ·conv => whnf
  refine ifB_t ?_
  conv => whnf
  have h0 : l = [] := bys_nil_eq h
  subst h0
  exact ⟨⟨rfl, rfl⟩, rfl⟩
 ·conv => whnf
  refine ifB_f ?_
  conv => whnf
  refine ⟨by rw [lets_len, Nat.mul_comm], ?_⟩
  conv => whnf
  refine ⟨lets_ones l, ?_⟩
  conv => whnf
  refine ⟨⟨rfl, by simp, Or.inl rfl, by simp [limB]; omega⟩, ?_⟩
  conv => whnf
  refine ⟨⟨by simp, rfl, ?_, by rw [lets_len, Nat.mul_comm], lets_pure _⟩, ?_⟩
  ·rfl
  ·rfl
theorem in24_ok (l : List Let) (at' : Int) (hl : l.length ≤ 1000000) : ACall Tryd.prog 38 [.ro l.length (rowsC letC l), .int .i64 at'] (.bool (decide (0 ≤ at' ∧ at' < l.length))) [] := by
 refine ACall.of_does TTok Tryd.func38 rfl Tryd.call38 rfl (wpc_sound (M := MN) (PL := PL0) (CU := noCut) TTok mixed _ _ _ ?_)
 by_cases h1 : 0 ≤ at'
 ·by_cases h2 : at' < l.length
  ·rw [dt ⟨h1, h2⟩]
   conv => whnf
   repeat ((first | refine ifB_t ?_ | (refine ifB_pos (decide_eq_true (by first | omega | rfl | (dsimp only; omega))) ?_) | (refine And.intro ?_ ?_; (focus (first | (simp [limB, lenB, offB]; done) | (simp [limB, lenB, offB]; omega))))); conv => whnf)
   rfl
  ·rw [df (fun h => h2 h.2)]
   conv => whnf
   repeat ((first | refine ifB_t ?_ | (refine ifB_pos (decide_eq_true (by first | omega | rfl | (dsimp only; omega))) ?_) | (refine And.intro ?_ ?_; (focus (first | (simp [limB, lenB, offB]; done) | (simp [limB, lenB, offB]; omega))))); conv => whnf)
   rfl
 ·rw [df (fun h => h1 h.1)]
  conv => whnf
  repeat ((first | refine ifB_f ?_ | (refine ifB_neg (decide_eq_false (by first | omega | rfl | (dsimp only; omega))) ?_) | refine ⟨rfl, ?_⟩); conv => whnf)
  rfl
def heavyL (l : List Let) : Bool := decide (60 < l.length) || l.any fun x => decide (300 < x.body.length)
theorem heavy24_ok (l : List Let) : ACall Tryd.prog 9 [.ro l.length (rowsC letC l)] (.bool (heavyL l)) [] := by
 unfold heavyL
 refine ACall.of_does TTok Tryd.func9 rfl Tryd.call9 rfl (wpc_sound (M := MN) (PL := PL0) (CU := noCut) TTok mixed _ _ _ ?_)
 by_cases c0 : 60 < l.length
 ·rw [dt c0]
  conv => whnf
  repeat ((first | (refine ifB_pos (decide_eq_true (by first | omega | rfl | (dsimp only; omega))) ?_) | refine ⟨rfl, ?_⟩); conv => whnf)
  rfl
 rw [df c0, Bool.false_or]
 conv => whnf
 repeat ((refine ifB_neg (decide_eq_false (by first | omega | rfl | (dsimp only; omega))) ?_); conv => whnf)
 refine Does.loop (fun c : Nat => mkSt [(0, .ro l.length (rowsC letC l)), (3, .int .i64 c)] [] 0 20) (fun c => c ≤ l.length ∧ ∀ (j : Nat) (h1 : j < l.length), j < c → ¬ 300 < l[j].body.length) (fun c => l.length - c) ?_ 0 ⟨Nat.zero_le _, fun j _ h => by omega⟩ ?_
 ·rintro c ⟨hc, heq⟩
  refine wpc_sound (M := MN) (PL := PL0) (CU := noCut) TTok mixed _ _ _ ?_
  rcases Nat.lt_or_ge c l.length with c1 | c1
  ·conv => whnf
   repeat ((first | (refine ifB_pos (decide_eq_true (by first | omega | rfl | (dsimp only; omega))) ?_) | (refine ⟨⟨?_, ?_, ?_⟩, ?_⟩; (focus omega); (focus (first | omega | (simp; done) | (simp; omega))); (focus (first | (rw [prfs_len]; simp; omega) | (rw [ents_len]; simp; omega) | (rw [hds_len]; simp; omega) | (rw [lets_len]; simp; omega))))); conv => whnf)
   refine ⟨_, let_body c1 (by simp; omega), ?_⟩
   conv => whnf
   by_cases k2 : 300 < l[c].body.length
   ·rw [show (l.any fun x => decide (300 < x.body.length)) = true from List.any_eq_true.2 ⟨l[c], List.getElem_mem c1, by simpa using k2⟩]
    conv => whnf
    repeat ((first | (refine ifB_pos (decide_eq_true (by first | omega | rfl | (dsimp only; omega))) ?_) | refine ⟨rfl, ?_⟩); conv => whnf)
    rfl
   ·conv => whnf
    repeat ((first | (refine ifB_neg (decide_eq_false (by first | omega | rfl | (dsimp only; omega))) ?_) | (refine fit_i64 ⟨by first | omega | rfl | (dsimp only; omega), by first | omega | rfl | (dsimp only; omega)⟩ ?_)); conv => whnf)
    refine ⟨c + 1, ⟨by omega, fun j h1 h2 => ?_⟩, by omega, weaker_of [] rfl rfl ⟨⟨rfl, rfl, lets_pure _⟩, ⟨rfl, rfl⟩, trivial⟩ trivial⟩
    rcases Nat.lt_or_ge j c with h' | h'
    ·exact heq j h1 h'
    ·obtain rfl : j = c := by omega
     exact k2
  ·rw [show (l.any fun x => decide (300 < x.body.length)) = false by
    rw [List.any_eq_false]
    intro t ht
    obtain ⟨j, hj, rfl⟩ := List.mem_iff_getElem.1 ht
    simpa using heq j hj (by omega)]
   conv => whnf
   repeat ((first | (refine ifB_neg (decide_eq_false (by first | omega | rfl | (dsimp only; omega))) ?_) | refine ⟨rfl, ?_⟩); conv => whnf)
   rfl
 ·exact weaker_of [] rfl rfl ⟨⟨rfl, rfl, lets_pure _⟩, ⟨rfl, rfl⟩, trivial⟩ trivial
def PLkL : Nat → Bool × Plan := plans [(6, (false, (takesTo [0, 1, 2, 3, 4, 5, 6, 7, 8, 9, 10, 11, 12, 13, 14, 15, 16, 17, 18, 19, 20, 21, 22, 23, 24, 25, 26, 27, 28, 29, 30, 31, 32, 33, 34] (.all [(35, (takes [36, 37]))]))))]
theorem let_ext {x y : Let} (h1 : x.frm = y.frm) (h2 : x.to = y.to) (h3 : x.body = y.body) : x = y := by
 obtain ⟨a, b, c⟩ := x
 obtain ⟨d, e, f⟩ := y
 dsimp only at h1 h2 h3
 rw [h1, h2, h3]
set_option maxRecDepth 20000 in
set_option maxHeartbeats 2000000 in
theorem kletters_ok (x y : List Let) (hx : ∀ e ∈ x, LetS e) (hy : ∀ e ∈ y, LetS e) (lx : x.length ≤ 1000000000) (ly : y.length ≤ 1000000000) : ACall Tryd.prog 15 [.ro x.length (rowsC letC x), .ro y.length (rowsC letC y)] (.bool (decide (x = y))) [] := by
 refine ACall.of_does TTok Tryd.func15 rfl Tryd.call15 rfl (wpc_sound (M := ML) (PL := PLkL) (CU := noCut) TTok mixed _ _ _ ?_)
 by_cases c0 : x.length = y.length
 case neg =>
  rw [df (show ¬ x = y from fun e => c0 (by rw [e]))]
  conv => whnf
  repeat ((first | (refine ifB_pos (decide_eq_true (by first | omega | rfl | (dsimp only; omega))) ?_) | refine ⟨rfl, ?_⟩); conv => whnf)
  rfl
 conv => whnf
 repeat ((refine ifB_neg (decide_eq_false (by first | omega | rfl | (dsimp only; omega))) ?_); conv => whnf)
 refine Does.loop (fun c : Nat => mkSt [(0, .ro x.length (rowsC letC x)), (1, .ro y.length (rowsC letC y)), (5, .int .i64 c)] [] 0 55)
  (fun c => c ≤ x.length ∧ ∀ j, j < c → x.getD j let0 = y.getD j let0) (fun c => x.length - c) ?_ 0 ⟨Nat.zero_le _, fun j h => by omega⟩ ?_
 ·rintro c ⟨hc, hj⟩
  rcases Nat.lt_or_ge c x.length with c1 | c1
  ·have c2 : c < y.length := by omega
   have h := bytes_ok x[c].body y[c].body (by have := (hx _ (List.getElem_mem c1)).body.2; omega)
   have hd : x.getD c let0 = x[c] ∧ y.getD c let0 = y[c] := by
    rw [List.getD_eq_getElem?_getD, List.getD_eq_getElem?_getD, List.getElem?_eq_getElem c1, List.getElem?_eq_getElem c2]; exact ⟨rfl, rfl⟩
   have bad : ¬ x[c] = y[c] → decide (x = y) = false := fun h => df fun e => h (by subst e; rfl)
   refine wpc_sound (M := ML) (PL := PLkL) (CU := noCut) TTok mixed _ _ _ ?_
   have z1 : ∀ i d, i = 3 * c → d < 3 → (List.drop d (List.drop i (rowsC letC x))).length ≠ 0 := fun i d hi hd => by rw [List.length_drop, List.length_drop, lets_len]; omega
   have z2 : ∀ i d, i = 3 * c → d < 3 → (List.drop d (List.drop i (rowsC letC y))).length ≠ 0 := fun i d hi hd => by rw [List.length_drop, List.length_drop, lets_len]; omega
   conv => whnf
   repeat ((refine ifB_pos (decide_eq_true (by first | omega | rfl | (dsimp only; omega))) ?_); conv => whnf)
   refine ⟨by kernel_rfl, ?_⟩
   conv => whnf
   repeat ((refine ⟨⟨?_, ?_, ?_⟩, ?_⟩; (focus omega); (focus (first | omega | (simp; done) | (simp; omega))); (focus (first | (rw [prfs_len]; simp; omega) | (rw [ents_len]; simp; omega) | (rw [hds_len]; simp; omega) | (rw [lets_len]; simp; omega)))); conv => whnf)
   by_cases c3 : x[c].frm = y[c].frm
   ·by_cases c4 : x[c].to = y[c].to
    ·conv => whnf
     repeat' (first | (refine ifB_f ?_; (conv => whnf)) | (refine ifB_neg (decide_eq_false (by first | omega | rfl | (dsimp only; omega))) ?_; (conv => whnf)) | (refine ⟨pureL_bys _, ?_⟩; (conv => whnf)) | (refine ⟨rfl, ?_⟩; (conv => whnf)) | (refine ⟨⟨?_, ?_, ?_⟩, ?_⟩; (focus omega); (focus (first | omega | (simp; done) | (simp; omega))); (focus (first | (rw [prfs_len]; simp; omega) | (rw [ents_len]; simp; omega) | (rw [hds_len]; simp; omega) | (rw [lets_len]; simp; omega))); (conv => whnf)) | (refine ⟨_, let_frm c1 (by simp; omega), ?_⟩; conv => whnf) | (refine ⟨_, let_frm c2 (by simp; omega), ?_⟩; conv => whnf) | (refine ⟨_, let_to c1 (by simp; omega), ?_⟩; conv => whnf) | (refine ⟨_, let_to c2 (by simp; omega), ?_⟩; conv => whnf) | (refine ⟨_, let_body c1 (by simp; omega), ?_⟩; conv => whnf) | (refine ⟨_, let_body c2 (by simp; omega), ?_⟩; conv => whnf) | (refine ⟨_, rfl, ?_⟩; conv => whnf) | (refine And.intro ?_ ?_ <;> conv => whnf))
     all_goals
      conv => whnf
      repeat' (first | (exact takeOk_cell rfl (z1 _ _ (by simp; omega) (by decide))) | (exact takeOk_cell rfl (z2 _ _ (by simp; omega) (by decide))) | (exact takeOk_gcell rfl rfl (z1 _ _ (by simp; omega) (by decide))) | (exact takeOk_gcell rfl rfl (z2 _ _ (by simp; omega) (by decide))) | (refine ⟨_, rfl, ?_⟩; conv => whnf) | (refine And.intro ?_ ?_ <;> conv => whnf))
     by_cases c5 : x[c].body = y[c].body
     ·rw [dt c5] at h
      refine ⟨_, _, h, by first | rfl | simp [noRoIf, noRoL, noRoV, noRoL_bys], ?_⟩
      conv => whnf
      repeat ((first | refine ifB_f ?_ | (refine fit_i64 ⟨by first | omega | rfl | (dsimp only; omega), by first | omega | rfl | (dsimp only; omega)⟩ ?_)); conv => whnf)
      refine ⟨c + 1, ⟨by omega, fun j hj' => ?_⟩, by omega, weaker_of [] rfl rfl ⟨⟨rfl, rfl, lets_pure _⟩, ⟨rfl, rfl, lets_pure _⟩, ⟨rfl, rfl⟩, trivial⟩ trivial⟩
      rcases Nat.lt_or_ge j c with k | k
      ·exact hj j k
      ·obtain rfl : j = c := by omega
       rw [hd.1, hd.2]
       exact let_ext c3 c4 c5
     ·rw [df c5] at h
      rw [bad (fun e => c5 (by rw [e]))]
      refine ⟨_, _, h, by first | rfl | simp [noRoIf, noRoL, noRoV, noRoL_bys], ?_⟩
      conv => whnf
      repeat ((first | refine ifB_t ?_ | refine ifB_f ?_ | refine ⟨rfl, ?_⟩); conv => whnf)
      rfl
    ·rw [bad (fun e => c4 (by rw [e]))]
     conv => whnf
     repeat' (first | (refine ifB_t ?_; (conv => whnf)) | (refine ifB_f ?_; (conv => whnf)) | (refine ifB_neg (decide_eq_false (by first | omega | rfl | (dsimp only; omega))) ?_; (conv => whnf)) | (refine ifB_pos (decide_eq_true (by first | omega | rfl | (dsimp only; omega))) ?_; (conv => whnf)) | (refine ⟨rfl, ?_⟩; (conv => whnf)) | (refine ⟨⟨?_, ?_, ?_⟩, ?_⟩; (focus omega); (focus (first | omega | (simp; done) | (simp; omega))); (focus (first | (rw [prfs_len]; simp; omega) | (rw [ents_len]; simp; omega) | (rw [hds_len]; simp; omega) | (rw [lets_len]; simp; omega))); (conv => whnf)) | (refine ⟨_, let_frm c1 (by simp; omega), ?_⟩; conv => whnf) | (refine ⟨_, let_frm c2 (by simp; omega), ?_⟩; conv => whnf) | (refine ⟨_, let_to c1 (by simp; omega), ?_⟩; conv => whnf) | (refine ⟨_, let_to c2 (by simp; omega), ?_⟩; conv => whnf) | (refine ⟨_, let_body c1 (by simp; omega), ?_⟩; conv => whnf) | (refine ⟨_, let_body c2 (by simp; omega), ?_⟩; conv => whnf) | (refine ⟨_, rfl, ?_⟩; conv => whnf) | (refine And.intro ?_ ?_ <;> conv => whnf))
     all_goals
      conv => whnf
      repeat' (first | (exact takeOk_cell rfl (z1 _ _ (by simp; omega) (by decide))) | (exact takeOk_cell rfl (z2 _ _ (by simp; omega) (by decide))) | (exact takeOk_gcell rfl rfl (z1 _ _ (by simp; omega) (by decide))) | (exact takeOk_gcell rfl rfl (z2 _ _ (by simp; omega) (by decide))) | (refine ⟨_, rfl, ?_⟩; conv => whnf) | (refine And.intro ?_ ?_ <;> conv => whnf))
     rfl
   ·rw [bad (fun e => c3 (by rw [e]))]
    conv => whnf
    repeat' (first | (refine ifB_t ?_; (conv => whnf)) | (refine ifB_pos (decide_eq_true (by first | omega | rfl | (dsimp only; omega))) ?_; (conv => whnf)) | (refine ⟨rfl, ?_⟩; (conv => whnf)) | (refine ⟨⟨?_, ?_, ?_⟩, ?_⟩; (focus omega); (focus (first | omega | (simp; done) | (simp; omega))); (focus (first | (rw [prfs_len]; simp; omega) | (rw [ents_len]; simp; omega) | (rw [hds_len]; simp; omega) | (rw [lets_len]; simp; omega))); (conv => whnf)) | (refine ⟨_, let_frm c1 (by simp; omega), ?_⟩; conv => whnf) | (refine ⟨_, let_frm c2 (by simp; omega), ?_⟩; conv => whnf) | (refine ⟨_, let_to c1 (by simp; omega), ?_⟩; conv => whnf) | (refine ⟨_, let_to c2 (by simp; omega), ?_⟩; conv => whnf) | (refine ⟨_, let_body c1 (by simp; omega), ?_⟩; conv => whnf) | (refine ⟨_, let_body c2 (by simp; omega), ?_⟩; conv => whnf) | (refine ⟨_, rfl, ?_⟩; conv => whnf) | (refine And.intro ?_ ?_ <;> conv => whnf))
    all_goals
     conv => whnf
     repeat' (first | (exact takeOk_cell rfl (z1 _ _ (by simp; omega) (by decide))) | (exact takeOk_cell rfl (z2 _ _ (by simp; omega) (by decide))) | (exact takeOk_gcell rfl rfl (z1 _ _ (by simp; omega) (by decide))) | (exact takeOk_gcell rfl rfl (z2 _ _ (by simp; omega) (by decide))) | (refine ⟨_, rfl, ?_⟩; conv => whnf) | (refine And.intro ?_ ?_ <;> conv => whnf))
    rfl
  ·obtain rfl : c = x.length := by omega
   rw [dt (list_all_eq let0 c0 hj)]
   refine wpc_sound (M := ML) (PL := PLkL) (CU := noCut) TTok mixed _ _ _ ?_
   conv => whnf
   repeat ((first | (refine ifB_neg (decide_eq_false (by first | omega | rfl | (dsimp only; omega))) ?_) | refine ⟨rfl, ?_⟩); conv => whnf)
   rfl
 ·exact weaker_of [] rfl rfl ⟨⟨rfl, rfl, lets_pure _⟩, ⟨rfl, rfl, lets_pure _⟩, ⟨rfl, rfl⟩, trivial⟩ trivial
end
section

theorem Weaker.trunc {k : Nat} {st : St} {id : Nat} {cs : List AV} (m : Nat) (h : st.heap id = some cs) : Weaker k st { st with heap := setH st.heap id (some (cs.take m)) } := by
 intro Z E a S
 have hs : (setH st.heap id (some (cs.take m))) id = some (cs.take m) := by simp [setH]
 have hn : ∀ i, i ≠ id → (setH st.heap id (some (cs.take m))) i = st.heap i := fun i hi => by
  have : Nat.beq i id = false := by
   cases hb : Nat.beq i id
   ·rfl
   ·exact (hi (Nat.eq_of_beq_eq_true hb)).elim
  simp [setH, this]
 have hk : ∀ i, (setH st.heap id (some (cs.take m))) i ≠ none → st.heap i ≠ none := fun i hi => by
  by_cases e : i = id
  ·subst e; rw [h]; simp
  ·rwa [hn i e] at hi
 have hw : ∀ b, Wr E.ρ (setH st.heap id (some (cs.take m))) b ↔ Wr E.ρ st.heap b := fun b => by
  constructor
  ·rintro ⟨i, ys, h1, h2⟩
   cases hq : st.heap i with
   | none => exact (hk i (by rw [h1]; simp) hq).elim
   | some zs => exact ⟨i, zs, hq, h2⟩
  ·rintro ⟨i, ys, h1, h2⟩
   by_cases e : i = id
   ·subst e; exact ⟨i, _, hs, h2⟩
   ·exact ⟨i, ys, by rw [hn i e]; exact h1, h2⟩
 refine ⟨E, ⟨S.env, S.sz, S.dfr, ?_⟩, rfl, ⟨rfl, Evo.refl _ _, fun b _ hb => (hw b).1 hb, fun _ _ _ h => h⟩⟩
 exact {
  blk := fun i ys hi => by
   dsimp only at hi
   by_cases e : i = id
   ·subst e
    rw [hs] at hi
    cases hi
    rcases S.heap.blk i cs h with ⟨b1, rfl⟩ | ⟨n, b1, c, e, fr, b2, b3, b4, b5⟩
    ·exact .inl ⟨b1, by simp⟩
    ·refine .inr ⟨n, b1, c, e, fr, b2, b3, by simp only [List.length_take]; omega, fun j x hx => ?_⟩
     refine b5 j x ?_
     rw [List.getElem?_take] at hx
     split at hx
     ·exact hx
     ·cases hx
   ·rw [hn i e] at hi
    exact S.heap.blk i ys hi
  inj := fun i i' n h1 h2 h3 h4 => S.heap.inj i i' n (hk i h1) (hk i' h2) h3 h4
  V := fun b => (S.heap.V b).trans (or_congr Iff.rfl (hw b).symm)
  apart := fun i n h1 h2 => S.heap.apart i n (hk i h1) h2
  fresh := fun i hi => by
   have f := S.heap.fresh i hi
   refine ⟨f.1, ?_⟩
   have e : i ≠ id := fun e => by subst e; rw [h] at f; cases f.2
   show (setH st.heap id (some (cs.take m))) i = none
   rw [hn i e]; exact f.2
  one := S.heap.one
  old := S.heap.old
  zold := S.heap.zold
  tab := S.heap.tab }
end
section

attribute [local irreducible] ifB fitP Does Weaker
theorem setN_row {α : Type} {f : α → List AV} {n : Nat} (hf : ∀ x, (f x).length = n) {l : List α} {c m : Nat} (h : c < l.length) (hm : m = n * c) : setN (rowsC f l) m (f l[c]) = rowsC f l := by
 have h1 : (f l[c]).length = n := hf _
 have hl := rowsC_length hf l
 have hle : n * (c + 1) ≤ n * l.length := Nat.mul_le_mul_left n h
 rw [Nat.mul_add] at hle
 subst hm
 rw [setN_eq _ _ _ (by omega), h1]
 have e1 : rowsC f l = (rowsC f l).take (n * c) ++ (rowsC f l).drop (n * c) := (List.take_append_drop _ _).symm
 have e2 : (rowsC f l).drop (n * c) = f l[c] ++ rowsC f (l.drop (c + 1)) := rowsC_at hf h rfl
 have e3 : (rowsC f l).drop (n * c + n) = rowsC f (l.drop (c + 1)) := by
  have := rowsC_drop hf l (c + 1)
  rwa [Nat.mul_add, Nat.mul_one] at this
 rw [e3, List.append_assoc, ← e2, ← e1]
set_option maxHeartbeats 1000000 in
theorem twin24_ok (l : List Let) (hx : ∀ x ∈ l, LetS x) (hl : l.length ≤ 1000000) : ACall Tryd.prog 32 [.ro l.length (rowsC letC l)] (.own l.length 3 (rowsC letC l)) [] := by
 have hc := cloneL_ok l hl
 refine ACall.of_does TTok Tryd.func32 rfl Tryd.call32 rfl (wpc_sound (M := MN) (PL := PL0) (CU := noCut) TTok mixed _ _ _ ?_)
 refine ⟨lets_pure _, ?_⟩
 conv => whnf
 repeat ((refine ⟨rfl, ?_⟩); conv => whnf)
 refine ⟨_, _, hc, by first | rfl | simp [noRoIf, noRoL, noRoV, noRoL_bys], ?_⟩
 conv => whnf
 refine Does.loop (fun c : Nat => mkSt [(3, .sl 0 0 l.length 3 false), (8, .int .i64 l.length), (9, .int .i64 c)] [(0, rowsC letC l)] 1 22) (fun c => c ≤ l.length) (fun c => l.length - c) ?_ 0 (Nat.zero_le _) ?_
 ·rintro c hc'
  rcases Nat.lt_or_ge c l.length with c1 | c1
  ·have h1 := one_ok l[c] (hx _ (List.getElem_mem c1))
   have hb := lets_len l
   refine wpc_sound (M := MN) (PL := PL0) (CU := noCut) TTok mixed _ _ _ ?_
   conv => whnf
   repeat ((first | (refine ifB_pos (decide_eq_true (by first | omega | rfl | (dsimp only; omega))) ?_) | (refine And.intro (by first | omega | rfl | (dsimp only; omega)) ?_)); conv => whnf)
   refine ⟨_, takeN_row letC_length c1 (by simp; omega) rfl, ?_⟩
   conv => whnf
   refine ⟨letC_pure _, ?_⟩
   conv => whnf
   repeat ((refine ⟨rfl, ?_⟩); conv => whnf)
   refine ⟨_, _, h1, by first | rfl | simp [noRoIf, noRoL, noRoV, noRoL_bys], ?_⟩
   conv => whnf
   repeat ((refine And.intro (by first | omega | rfl | (dsimp only; omega)) ?_); conv => whnf)
   refine ⟨⟨rfl, rfl, by rw [lets_len]; simp; omega⟩, ?_⟩
   conv => whnf
   repeat ((refine fit_i64 ⟨by first | omega | rfl | (dsimp only; omega), by first | omega | rfl | (dsimp only; omega)⟩ ?_); conv => whnf)
   refine ⟨c + 1, by omega, by omega, weaker_of [(0, 0)] rfl rfl ⟨⟨rfl, rfl, rfl, rfl, fun h => h⟩, ⟨rfl, rfl⟩, ⟨rfl, rfl⟩, trivial⟩ ⟨?_, trivial⟩⟩
   refine rowsC_les letC_les ?_
   exact setN_row letC_length c1 (by simp; omega)
  ·obtain rfl : c = l.length := by omega
   refine wpc_sound (M := MN) (PL := PL0) (CU := noCut) TTok mixed _ _ _ ?_
   conv => whnf
   repeat ((refine ifB_neg (decide_eq_false (by first | omega | rfl | (dsimp only; omega))) ?_); conv => whnf)
   exact ⟨⟨rfl, rfl, rfl, by rw [lets_len, Nat.mul_comm], lets_pure _⟩, rfl⟩
 ·exact weaker_of [(0, 0)] rfl rfl ⟨⟨rfl, rfl, rfl, rfl, fun h => h⟩, ⟨rfl, rfl⟩, ⟨rfl, rfl⟩, trivial⟩ ⟨rowsC_les letC_les rfl, trivial⟩
end
section

attribute [local irreducible] ifB fitP Does Weaker
def MN2 : FuncId → List Mode := orElse [(76, [.nl, .rd])] MN
def MNt : FuncId → List Mode := orElse [(32, [.mv 3])] MN2
set_option maxHeartbeats 1000000 in
theorem lgrow_ok (n : Nat) (hn : n ≤ 1000000) : ACall Tryd.prog 76 [.nil, .int .i64 n] (.own 0 3 []) [] := by
 refine ACall.of_does TTok Tryd.func76 rfl Tryd.call76 rfl (wpc_sound (M := MN2) (PL := PL0) (CU := cutAt [100006]) TTok mixed _ _ _ ?_)
 rcases Nat.eq_zero_or_pos n with h0 | h0
 ·subst h0
  conv => whnf
  repeat ((first | refine ifB_f ?_ | (refine fit_i64 ⟨by first | omega | rfl | (dsimp only; omega), by first | omega | rfl | (dsimp only; omega)⟩ ?_)); conv => whnf)
  refine wpc_sound (M := MN2) (PL := PL0) (CU := noCut) TTok mixed _ _ _ ?_
  conv => whnf
  repeat ((refine ⟨⟨rfl, rfl⟩, ?_⟩); conv => whnf)
  rfl
 ·conv => whnf
  repeat ((first | refine ifB_f ?_ | (refine ifB_pos (decide_eq_true (by first | omega | rfl | (dsimp only; omega))) ?_) | (refine fit_i64 ⟨by first | omega | rfl | (dsimp only; omega), by first | omega | rfl | (dsimp only; omega)⟩ ?_)); conv => whnf)
  refine ⟨by simp [okB], ?_⟩
  conv => whnf
  repeat ((first | (refine ⟨⟨rfl, ?_⟩, ?_⟩; (focus (first | (simp only [okB]; omega) | (simp [okB]; omega)))) | (refine And.intro ?_ ?_; (focus (first | (simp [limB, lenB, offB]; done) | (simp [limB, lenB, offB]; omega))))); conv => whnf)
  refine Does.weaker (Weaker.trunc (id := 0) 0 rfl) (Does.tidy [(0, .sl 0 0 0 3 false)] [(0, [])] 1 27 rfl rfl rfl (by kernel_rfl) (by kernel_rfl) ?_)
  refine wpc_sound (M := MN2) (PL := PL0) (CU := noCut) TTok mixed _ _ _ ?_
  conv => whnf
  repeat ((refine And.intro ?_ ?_; (focus (simp [pureL, pureV, pureL_bys, pureL_toks, pureL_app]; done))); conv => whnf)
  rfl
def cat2L (a b : List Let) : List AV := [.ro a.length (rowsC letC a), .ro b.length (rowsC letC b)]
theorem cat2L_pure (a b : List Let) : pureL (cat2L a b) = true := by simp [cat2L, pureL, pureV, lets_pure]
def catLL (a b : List Let) (c : Nat) : List Let := match c with
 | 0 => []
 | 1 => a
 | _ => a ++ b
set_option maxHeartbeats 1000000 in
theorem lconcat_ok (a b : List Let) (ha : a.length ≤ 10000) (hb : b.length ≤ 10000) : ACall Tryd.prog 39 [.ro 2 (cat2L a b)] (.own (a ++ b).length 3 (rowsC letC (a ++ b))) [] := by
 have hg := lgrow_ok (a ++ b).length (by rw [List.length_append]; omega)
 have ea : (rowsC letC a).length = 3 * a.length := lets_len a
 have eb : (rowsC letC b).length = 3 * b.length := lets_len b
 refine ACall.of_does TTok Tryd.func39 rfl Tryd.call39 rfl (wpc_sound (M := MN2) (PL := PL0) (CU := noCut) TTok mixed _ _ _ ?_)
 conv => whnf
 refine Does.loop (fun c : Nat => mkSt [(0, .ro 2 (cat2L a b)), (3, .int .i64 (catLL a b c).length), (9, .ro 2 (cat2L a b)), (10, .int .i64 2), (11, .int .i64 c)] [] 0 36) (fun c => c ≤ 2) (fun c => 2 - c) ?_ 0 (by omega) ?_
 ·intro c hc
  have hcs : c = 0 ∨ c = 1 ∨ c = 2 := by omega
  refine wpc_sound (M := MN2) (PL := PL0) (CU := noCut) TTok mixed _ _ _ ?_
  rcases hcs with rfl | rfl | rfl
  ·conv => whnf
   repeat ((refine ifB_t ?_); conv => whnf)
   refine ⟨⟨by omega, by omega, by simp [cat2L]⟩, ?_⟩
   conv => whnf
   repeat ((refine ⟨_, rfl, ?_⟩); conv => whnf)
   refine fit_i64 ⟨by simp [catLL] <;> omega, by simp [catLL] <;> omega⟩ ?_
   conv => whnf
   repeat ((first | refine ifB_f ?_ | (refine fit_i64 ⟨by first | omega | rfl | (dsimp only; omega), by first | omega | rfl | (dsimp only; omega)⟩ ?_)); conv => whnf)
   exact ⟨1, by omega, by omega, weaker_of [] rfl rfl ⟨⟨rfl, rfl, cat2L_pure a b⟩, ⟨rfl, by simp [catLL]⟩, ⟨rfl, rfl, cat2L_pure a b⟩, ⟨rfl, rfl⟩, ⟨rfl, rfl⟩, trivial⟩ trivial⟩
  ·conv => whnf
   repeat ((refine ifB_t ?_); conv => whnf)
   refine ⟨⟨by omega, by omega, by simp [cat2L]⟩, ?_⟩
   conv => whnf
   repeat ((refine ⟨_, rfl, ?_⟩); conv => whnf)
   refine fit_i64 ⟨by simp [catLL] <;> omega, by simp [catLL] <;> omega⟩ ?_
   conv => whnf
   repeat ((first | refine ifB_f ?_ | (refine fit_i64 ⟨by first | omega | rfl | (dsimp only; omega), by first | omega | rfl | (dsimp only; omega)⟩ ?_)); conv => whnf)
   exact ⟨2, by omega, by omega, weaker_of [] rfl rfl ⟨⟨rfl, rfl, cat2L_pure a b⟩, ⟨rfl, by simp [catLL]⟩, ⟨rfl, rfl, cat2L_pure a b⟩, ⟨rfl, rfl⟩, ⟨rfl, rfl⟩, trivial⟩ trivial⟩
  ·conv => whnf
   repeat ((first | refine ifB_f ?_ | refine ⟨rfl, ?_⟩); conv => whnf)
   refine ⟨_, _, hg, by first | rfl | simp [noRoIf, noRoL, noRoV, noRoL_bys], ?_⟩
   conv => whnf
   refine Does.loop (fun c : Nat => mkSt [(6, .sl 0 0 (catLL a b c).length 3 false), (25, .ro 2 (cat2L a b)), (26, .int .i64 2), (27, .int .i64 c)] [(0, rowsC letC (catLL a b c))] 1 36) (fun c => c ≤ 2) (fun c => 2 - c) ?_ 0 (by omega) ?_
   ·intro c hc
    have hcs : c = 0 ∨ c = 1 ∨ c = 2 := by omega
    refine wpc_sound (M := MN2) (PL := PL0) (CU := noCut) TTok mixed _ _ _ ?_
    rcases hcs with rfl | rfl | rfl
    ·conv => whnf
     repeat ((refine ifB_t ?_); conv => whnf)
     refine ⟨⟨by omega, by omega, by simp [cat2L]⟩, ?_⟩
     conv => whnf
     repeat ((first | refine ⟨_, rfl, ?_⟩ | (refine And.intro (by first | omega | rfl | (dsimp only; omega)) ?_)); conv => whnf)
     refine ⟨lets_ones a, ?_⟩
     conv => whnf
     refine ⟨⟨rfl, rfl, by simp [catLL, rowsC], by simp [catLL, limB]; omega⟩, ?_⟩
     conv => whnf
     repeat ((refine fit_i64 ⟨by first | omega | rfl | (dsimp only; omega), by first | omega | rfl | (dsimp only; omega)⟩ ?_); conv => whnf)
     refine ⟨1, by omega, by omega, weaker_of [(0, 1)] rfl rfl ⟨⟨rfl, rfl, by simp [catLL], rfl, fun h => h⟩, ⟨rfl, rfl, cat2L_pure a b⟩, ⟨rfl, rfl⟩, ⟨rfl, rfl⟩, trivial⟩ ⟨?_, trivial⟩⟩
     exact rowsC_les letC_les (by simp [catLL, rowsC])
    ·conv => whnf
     repeat ((refine ifB_t ?_); conv => whnf)
     refine ⟨⟨by omega, by omega, by simp [cat2L]⟩, ?_⟩
     conv => whnf
     repeat ((first | refine ⟨_, rfl, ?_⟩ | (refine And.intro (by first | omega | rfl | (dsimp only; omega)) ?_)); conv => whnf)
     refine ⟨lets_ones b, ?_⟩
     conv => whnf
     refine ⟨⟨rfl, rfl, by simp [catLL, ea]; omega, by simp [catLL, limB]; omega⟩, ?_⟩
     conv => whnf
     repeat ((refine fit_i64 ⟨by first | omega | rfl | (dsimp only; omega), by first | omega | rfl | (dsimp only; omega)⟩ ?_); conv => whnf)
     refine ⟨2, by omega, by omega, weaker_of [(0, 1)] rfl rfl ⟨⟨rfl, rfl, by simp [catLL], rfl, fun h => h⟩, ⟨rfl, rfl, cat2L_pure a b⟩, ⟨rfl, rfl⟩, ⟨rfl, rfl⟩, trivial⟩ ⟨?_, trivial⟩⟩
     exact rowsC_les letC_les (by simp [catLL, rowsC_append])
    ·conv => whnf
     repeat ((refine ifB_f ?_); conv => whnf)
     exact ⟨⟨rfl, rfl, rfl, by rw [lets_len, Nat.mul_comm], lets_pure _⟩, rfl⟩
   ·exact weaker_of [(0, 0)] rfl rfl ⟨⟨rfl, rfl, rfl, rfl, fun h => h⟩, ⟨rfl, rfl, cat2L_pure a b⟩, ⟨rfl, rfl⟩, ⟨rfl, rfl⟩, trivial⟩ ⟨rowsC_les letC_les rfl, trivial⟩
 ·exact weaker_of [] rfl rfl ⟨⟨rfl, rfl, cat2L_pure a b⟩, ⟨rfl, rfl⟩, ⟨rfl, rfl, cat2L_pure a b⟩, ⟨rfl, rfl⟩, ⟨rfl, rfl⟩, trivial⟩ trivial
end
section
--KR
attribute [local irreducible] ifB fitP Does Weaker
theorem cutL_to (l : List Let) (n : Nat) : cutB (rowsC letC l) none (some (n : Int)) 3 = rowsC letC (l.take n) := by
 show List.take ((n : Int).toNat * 3) (rowsC letC l) = _
 rw [Int.toNat_natCast, Nat.mul_comm, rowsC_take letC_length]
theorem cutL_from (l : List Let) (n : Nat) : cutB (rowsC letC l) (some ((n : Int) + 1)) none 3 = rowsC letC (l.drop (n + 1)) := by
 show List.drop (((n : Int) + 1).toNat * 3) (rowsC letC l) = _
 rw [show ((n : Int) + 1).toNat = n + 1 by omega, Nat.mul_comm, rowsC_drop letC_length]
theorem lets_part {l : List Let} (hx : ∀ x ∈ l, LetS x) (n : Nat) : ∀ x ∈ l.take n ++ l.drop (n + 1), LetS x := by
 intro x h
 rcases List.mem_append.1 h with h | h
 ·exact hx x (List.mem_of_mem_take h)
 ·exact hx x (List.mem_of_mem_drop h)
def PLtk2 : Nat → Bool × Plan := plans [(3, (false, (takesTo [0, 1, 2, 3, 4, 5, 6, 10, 11, 12, 13] (.all [(7, (.all [(8, (.all [(9, (.all [(14, (takesTo [15] (.all [(16, (takes [17]))])))]))]))]))]))))]
set_option maxHeartbeats 1000000 in
theorem ntake_no (l : List Let) (at' : Int) (hl : l.length ≤ 10000) (h : ¬ (0 ≤ at' ∧ at' < l.length)) : ACall Tryd.prog 18 [.ro l.length (rowsC letC l), .int .i64 at'] (.tuple [.own 0 3 [], .agg (letC let0), .int .i64 10]) [] := by
 have hi := in24_ok l at' (by omega)
 rw [df h] at hi
 refine ACall.of_does TTok Tryd.func18 rfl Tryd.call18 rfl (wpc_sound (M := MNt) (PL := PLtk2) (CU := noCut) TTok mixed _ _ _ ?_)
 conv => whnf
 repeat ((first | refine ⟨rfl, ?_⟩ | refine ⟨(show pureL (rowsC _ _) = true from by first | exact prfs_pure _ | exact ents_pure _ | exact hds_pure _ | exact lets_pure _), ?_⟩); conv => whnf)
 refine ⟨_, _, hi, by first | rfl | simp [noRoIf, noRoL, noRoV, noRoL_bys], ?_⟩
 conv => whnf
 repeat ((first | refine ifB_t ?_ | refine ⟨(⟨by kernel_rfl, by kernel_rfl, Nat.le_of_ble_eq_true (by kernel_rfl)⟩ : AV.ones _ = true ∧ _ ∧ _), ?_⟩ | refine ⟨_, rfl, ?_⟩ | refine ⟨⟨rfl, rfl⟩, ?_⟩); conv => whnf)
 rfl
set_option maxHeartbeats 1000000 in
theorem ntake_yes (l : List Let) (n : Nat) (hx : ∀ x ∈ l, LetS x) (hl : l.length ≤ 10000) (h : n < l.length) : ACall Tryd.prog 18 [.ro l.length (rowsC letC l), .int .i64 n]
  (.tuple [.own (l.take n ++ l.drop (n + 1)).length 3 (rowsC letC (l.take n ++ l.drop (n + 1))), .agg (letC l[n]), .int .i64 0]) [] := by
 have hi := in24_ok l n (by omega)
 rw [dt ⟨by omega, by omega⟩] at hi
 have hc := (lconcat_ok (l.take n) (l.drop (n + 1)) (by simp; omega) (by simp; omega)).ownArg (esz := 1)
 have ht := (twin24_ok (l.take n ++ l.drop (n + 1)) (lets_part hx n) (by simp; omega)).ownArg (esz := 3)
 have ho := one_ok l[n] (hx _ (List.getElem_mem h))
 have hz : ∀ i, i = 3 * n → (List.drop i (rowsC letC l)).length ≠ 0 := fun i hi => by rw [List.length_drop, lets_len]; omega
 refine ACall.of_does TTok Tryd.func18 rfl Tryd.call18 rfl (wpc_sound (M := MNt) (PL := PLtk2) (CU := noCut) TTok mixed _ _ _ ?_)
 conv => whnf
 repeat ((first | refine ⟨rfl, ?_⟩ | refine ⟨(show pureL (rowsC _ _) = true from by first | exact prfs_pure _ | exact ents_pure _ | exact hds_pure _ | exact lets_pure _), ?_⟩); conv => whnf)
 refine ⟨_, _, hi, by first | rfl | simp [noRoIf, noRoL, noRoV, noRoL_bys], ?_⟩
 conv => whnf
 repeat ((refine ifB_f ?_); conv => whnf)
 refine ⟨by kernel_rfl, ?_⟩
 conv => whnf
 refine ⟨⟨by rw [lets_len, Nat.mul_comm], by simp [okB]; omega⟩, ?_⟩
 conv => whnf
 repeat ((refine fit_i64 ⟨by first | omega | rfl | (dsimp only; omega), by first | omega | rfl | (dsimp only; omega)⟩ ?_); conv => whnf)
 refine ⟨⟨by rw [lets_len, Nat.mul_comm], by simp [okB]; omega⟩, ?_⟩
 conv => whnf
 repeat ((refine ⟨⟨?_, ?_, ?_⟩, ?_⟩; (focus omega); (focus (first | omega | (simp; done) | (simp; omega))); (focus (first | (rw [prfs_len]; simp; omega) | (rw [ents_len]; simp; omega) | (rw [hds_len]; simp; omega) | (rw [lets_len]; simp; omega)))); conv => whnf)
 refine ⟨roLoad_ok rfl (hz _ (by simp; omega)), ?_⟩
 conv => whnf
 refine ⟨_, takeN_row letC_length h (by simp; omega) rfl, ?_⟩
 conv => whnf
 have hcat : [AV.ro (lenB none (some (n : Int)) l.length) (cutB (rowsC letC l) none (some (n : Int)) 3), AV.ro (lenB (some ((n : Int) + 1)) none l.length) (cutB (rowsC letC l) (some ((n : Int) + 1)) none 3)] = cat2L (l.take n) (l.drop (n + 1)) := by
  rw [cutL_to, cutL_from]
  unfold cat2L
  rw [List.length_take, List.length_drop, show lenB none (some (n : Int)) l.length = min n l.length by simp [lenB] <;> omega, show lenB (some ((n : Int) + 1)) none l.length = l.length - (n + 1) by simp [lenB] <;> omega]
 refine ⟨⟨rfl, rfl, rfl, (congrArg pureL hcat).trans (cat2L_pure _ _)⟩, ?_⟩
 conv => whnf
 repeat ((refine ⟨rfl, ?_⟩); conv => whnf)
 refine ⟨_, _, hc.args (congrArg (fun c => [AV.own 2 1 c]) hcat), by first | rfl | simp [noRoIf, noRoL, noRoV, noRoL_bys], ?_⟩
 conv => whnf
 refine ⟨⟨rfl, rfl, by rw [lets_len, Nat.mul_comm], lets_pure _⟩, ?_⟩
 conv => whnf
 repeat ((refine ⟨rfl, ?_⟩); conv => whnf)
 refine ⟨_, _, ht, by first | rfl | simp [noRoIf, noRoL, noRoV, noRoL_bys], ?_⟩
 conv => whnf
 repeat ((first | refine ⟨rfl, ?_⟩ | refine ⟨(show pureL _ = true from by first | exact prfC_pure _ | exact hdC_pure _ | exact msgC_pure _ | exact letC_pure _), ?_⟩); conv => whnf)
 refine ⟨_, _, ho, by first | rfl | simp [noRoIf, noRoL, noRoV, noRoL_bys], ?_⟩
 conv => whnf
 repeat ((first | refine ⟨(⟨by kernel_rfl, by kernel_rfl, Nat.le_of_ble_eq_true (by kernel_rfl)⟩ : AV.ones _ = true ∧ _ ∧ _), ?_⟩ | refine ⟨_, rfl, ?_⟩); conv => whnf)
 refine ⟨⟨rfl, rfl, rfl, by rw [lets_len, Nat.mul_comm], lets_pure _⟩, ?_⟩
 conv => whnf
 refine ⟨⟨rfl, rfl⟩, ?_⟩
 conv => whnf
 refine ⟨⟨rfl, rfl⟩, ?_⟩
 conv => whnf
 first | exact ⟨⟨rfl, rfl, pureL_bys _⟩, ⟨rfl, rfl⟩, rfl⟩ | exact ⟨pureL_bys _, ⟨rfl, rfl⟩, rfl⟩ | (refine ⟨pureL_bys _, ?_⟩; rfl) | done
end
section
--KR
attribute [local irreducible] ifB fitP Does Weaker
def PLcp : Nat → Bool × Plan := plans [(5, (false, (takesTo [0, 2, 3, 4, 5] (.all [(1, (.all [(6, (.all [(7, (.all [(8, (takes [9, 10]))]))]))]))]))))]
theorem ncopy_no (l : List Let) (at' : Int) (hl : l.length ≤ 10000) (h : ¬ (0 ≤ at' ∧ at' < l.length)) : ACall Tryd.prog 20 [.ro l.length (rowsC letC l), .int .i64 at'] (.tuple [.own 0 3 [], .int .i64 10]) [] := by
 have hi := in24_ok l at' (by omega)
 rw [df h] at hi
 refine ACall.of_does TTok Tryd.func20 rfl Tryd.call20 rfl (wpc_sound (M := MNt) (PL := PLcp) (CU := noCut) TTok mixed _ _ _ ?_)
 conv => whnf
 repeat ((first | refine ⟨rfl, ?_⟩ | refine ⟨(show pureL (rowsC _ _) = true from by first | exact prfs_pure _ | exact ents_pure _ | exact hds_pure _ | exact lets_pure _), ?_⟩); conv => whnf)
 refine ⟨_, _, hi, by first | rfl | simp [noRoIf, noRoL, noRoV, noRoL_bys], ?_⟩
 conv => whnf
 repeat ((first | refine ifB_t ?_ | refine ⟨⟨rfl, rfl⟩, ?_⟩); conv => whnf)
 rfl
theorem ncopy_full (l : List Let) (n : Nat) (hl : l.length ≤ 10000) (h : n < l.length) (hf : 1200 ≤ l.length) : ACall Tryd.prog 20 [.ro l.length (rowsC letC l), .int .i64 n] (.tuple [.own 0 3 [], .int .i64 9]) [] := by
 have hi := in24_ok l n (by omega)
 rw [dt ⟨by omega, by omega⟩] at hi
 refine ACall.of_does TTok Tryd.func20 rfl Tryd.call20 rfl (wpc_sound (M := MNt) (PL := PLcp) (CU := noCut) TTok mixed _ _ _ ?_)
 conv => whnf
 repeat ((first | refine ⟨rfl, ?_⟩ | refine ⟨(show pureL (rowsC _ _) = true from by first | exact prfs_pure _ | exact ents_pure _ | exact hds_pure _ | exact lets_pure _), ?_⟩); conv => whnf)
 refine ⟨_, _, hi, by first | rfl | simp [noRoIf, noRoL, noRoV, noRoL_bys], ?_⟩
 conv => whnf
 repeat ((first | refine ifB_f ?_ | (refine ifB_pos (decide_eq_true (by first | omega | rfl | (dsimp only; omega))) ?_) | refine ⟨⟨rfl, rfl⟩, ?_⟩); conv => whnf)
 rfl
set_option maxHeartbeats 1000000 in
theorem ncopy_yes (l : List Let) (n : Nat) (hx : ∀ x ∈ l, LetS x) (hl : l.length < 1200) (h : n < l.length) : ACall Tryd.prog 20 [.ro l.length (rowsC letC l), .int .i64 n]
  (.tuple [.own (l ++ [l[n]]).length 3 (rowsC letC (l ++ [l[n]])), .int .i64 0]) [] := by
 have hi := in24_ok l n (by omega)
 rw [dt ⟨by omega, by omega⟩] at hi
 have ht := twin24_ok l hx (by omega)
 have ho := one_ok l[n] (hx _ (List.getElem_mem h))
 have hz : ∀ i, i = 3 * n → (List.drop i (rowsC letC l)).length ≠ 0 := fun i hi => by rw [List.length_drop, lets_len]; omega
 refine ACall.of_does TTok Tryd.func20 rfl Tryd.call20 rfl (wpc_sound (M := MN) (PL := PLcp) (CU := noCut) TTok mixed _ _ _ ?_)
 conv => whnf
 repeat ((first | refine ⟨rfl, ?_⟩ | refine ⟨(show pureL (rowsC _ _) = true from by first | exact prfs_pure _ | exact ents_pure _ | exact hds_pure _ | exact lets_pure _), ?_⟩); conv => whnf)
 refine ⟨_, _, hi, by first | rfl | simp [noRoIf, noRoL, noRoV, noRoL_bys], ?_⟩
 conv => whnf
 repeat ((first | refine ifB_f ?_ | (refine ifB_neg (decide_eq_false (by first | omega | rfl | (dsimp only; omega))) ?_)); conv => whnf)
 refine ⟨by kernel_rfl, ?_⟩
 conv => whnf
 repeat ((refine ⟨⟨?_, ?_, ?_⟩, ?_⟩; (focus omega); (focus (first | omega | (simp; done) | (simp; omega))); (focus (first | (rw [prfs_len]; simp; omega) | (rw [ents_len]; simp; omega) | (rw [hds_len]; simp; omega) | (rw [lets_len]; simp; omega)))); conv => whnf)
 refine ⟨roLoad_ok rfl (hz _ (by simp; omega)), ?_⟩
 conv => whnf
 refine ⟨_, takeN_row letC_length h (by simp; omega) rfl, ?_⟩
 conv => whnf
 repeat ((first | refine ⟨rfl, ?_⟩ | refine ⟨(show pureL (rowsC _ _) = true from by first | exact prfs_pure _ | exact ents_pure _ | exact hds_pure _ | exact lets_pure _), ?_⟩); conv => whnf)
 refine ⟨_, _, ht, by first | rfl | simp [noRoIf, noRoL, noRoV, noRoL_bys], ?_⟩
 conv => whnf
 repeat ((first | refine ⟨rfl, ?_⟩ | refine ⟨(show pureL _ = true from by first | exact prfC_pure _ | exact hdC_pure _ | exact msgC_pure _ | exact letC_pure _), ?_⟩); conv => whnf)
 refine ⟨_, _, ho, by first | rfl | simp [noRoIf, noRoL, noRoV, noRoL_bys], ?_⟩
 conv => whnf
 repeat ((first | (refine Or.inl ⟨⟨rfl, ?_⟩, ?_⟩; (focus (first | rfl | (simp; done) | (rw [toksC_length]; omega)))) | refine ⟨rfl, ?_⟩ | refine ⟨⟨rfl, rfl⟩, ?_⟩); conv => whnf)
 refine ⟨⟨rfl, rfl, by rw [lets_len, Nat.mul_comm], by show (l.length + 1) * 40 ≤ limB; simp only [limB]; omega⟩, ?_⟩
 conv => whnf
 refine ⟨⟨by simp, rfl, ?_, by rw [lets_len, Nat.mul_comm], lets_pure _⟩, ?_⟩
 ·rw [rowsC_append]
  simp only [rowsC, List.append_nil]
  rfl
 ·conv => whnf
  first | rfl | exact ⟨⟨rfl, rfl⟩, rfl⟩ | exact ⟨⟨rfl, rfl⟩, trivial⟩
end
section
--KR
attribute [local irreducible] ifB fitP Does Weaker
def PLpu : Nat → Bool × Plan := plans [(6, (false, (takesTo [0, 2, 3, 4, 5, 6, 7] (.all [(1, (.all [(8, (.all [(9, (takes [10, 11]))]))])), (8, (.all [(1, (.all [(9, (takes [10, 11]))]))]))]))))]
def MNp : FuncId → List Mode := orElse [(23, [.rd])] MN
set_option maxHeartbeats 1000000 in
theorem nput_bad (l : List Let) (m : Msg) (hm : MsgS m) (hl : l.length ≤ 10000) (hr : msgR m = false) : ACall Tryd.prog 13 [.ro l.length (rowsC letC l), .agg (msgC m)] (.tuple [.own 0 3 [], .int .i64 1]) [] := by
 have hb := (msg_bytes_ok m hm).roRes2 (.inl ⟨_, _, rfl⟩)
 rw [show msgB m = ([], 1) by unfold msgB; rw [hr]; rfl] at hb
 refine ACall.of_does TTok Tryd.func13 rfl Tryd.call13 rfl (wpc_sound (M := MNp) (PL := PLpu) (CU := cutAt [100001]) TTok mixed _ _ _ ?_)
 conv => whnf
 repeat ((refine ⟨rfl, ?_⟩); conv => whnf)
 refine Does.freeze 0 rfl (Does.tidy [(0, .ro l.length (rowsC letC l)), (3, .rop (msgC m))] [] 1 31 rfl rfl rfl (by kernel_rfl) (by kernel_rfl) ?_)
 refine wpc_sound (M := MNp) (PL := PLpu) (CU := noCut) TTok mixed _ _ _ ?_
 conv => whnf
 repeat ((first | refine ⟨rfl, ?_⟩ | refine ⟨_, rfl, ?_⟩ | refine ⟨(show pureL _ = true from by first | exact prfC_pure _ | exact hdC_pure _ | exact msgC_pure _ | exact letC_pure _), ?_⟩); conv => whnf)
 refine ⟨_, _, hb, by first | rfl | simp [noRoIf, noRoL, noRoV, noRoL_bys], ?_⟩
 conv => whnf
 repeat ((first | refine ifB_t ?_ | refine ⟨⟨rfl, rfl⟩, ?_⟩); conv => whnf)
 rfl
set_option maxHeartbeats 1000000 in
theorem nput_full (l : List Let) (m : Msg) (hm : MsgS m) (hl : l.length ≤ 10000) (hr : msgR m = true) (hf : 1200 ≤ l.length) : ACall Tryd.prog 13 [.ro l.length (rowsC letC l), .agg (msgC m)] (.tuple [.own 0 3 [], .int .i64 9]) [] := by
 have hb := (msg_bytes_ok m hm).roRes2 (.inl ⟨_, _, rfl⟩)
 have he := msgB_err hm
 rw [hr] at he
 have he := of_decide_eq_true he
 generalize msgB m = q at hb he
 obtain ⟨b, e⟩ := q
 dsimp only at hb he
 subst he
 refine ACall.of_does TTok Tryd.func13 rfl Tryd.call13 rfl (wpc_sound (M := MNp) (PL := PLpu) (CU := cutAt [100001]) TTok mixed _ _ _ ?_)
 conv => whnf
 repeat ((refine ⟨rfl, ?_⟩); conv => whnf)
 refine Does.freeze 0 rfl (Does.tidy [(0, .ro l.length (rowsC letC l)), (3, .rop (msgC m))] [] 1 31 rfl rfl rfl (by kernel_rfl) (by kernel_rfl) ?_)
 refine wpc_sound (M := MNp) (PL := PLpu) (CU := noCut) TTok mixed _ _ _ ?_
 conv => whnf
 repeat ((first | refine ⟨rfl, ?_⟩ | refine ⟨_, rfl, ?_⟩ | refine ⟨(show pureL _ = true from by first | exact prfC_pure _ | exact hdC_pure _ | exact msgC_pure _ | exact letC_pure _), ?_⟩); conv => whnf)
 refine ⟨_, _, hb, by first | rfl | simp [noRoIf, noRoL, noRoV, noRoL_bys], ?_⟩
 conv => whnf
 repeat ((first | refine ifB_f ?_ | (refine ifB_pos (decide_eq_true (by first | omega | rfl | (dsimp only; omega))) ?_) | refine ⟨⟨rfl, rfl⟩, ?_⟩); conv => whnf)
 rfl
def letM (m : Msg) : Let := ⟨m.frm, m.to, (msgB m).1⟩
set_option maxHeartbeats 1000000 in
theorem nput_yes (l : List Let) (m : Msg) (hx : ∀ x ∈ l, LetS x) (hm : MsgS m) (hl : l.length < 1200) (hr : msgR m = true) : ACall Tryd.prog 13 [.ro l.length (rowsC letC l), .agg (msgC m)] (.tuple [.own (l ++ [letM m]).length 3 (rowsC letC (l ++ [letM m])), .int .i64 0]) [] := by
 have hb := (msg_bytes_ok m hm).roRes2 (.inl ⟨_, _, rfl⟩)
 have he := msgB_err hm
 rw [hr] at he
 have he := of_decide_eq_true he
 have ht := twin24_ok l hx (by omega)
 unfold letM
 generalize msgB m = q at hb he ⊢
 obtain ⟨b, e⟩ := q
 dsimp only at hb he ⊢
 subst he
 refine ACall.of_does TTok Tryd.func13 rfl Tryd.call13 rfl (wpc_sound (M := MNp) (PL := PLpu) (CU := cutAt [100001]) TTok mixed _ _ _ ?_)
 conv => whnf
 repeat ((refine ⟨rfl, ?_⟩); conv => whnf)
 refine Does.freeze 0 rfl (Does.tidy [(0, .ro l.length (rowsC letC l)), (3, .rop (msgC m))] [] 1 31 rfl rfl rfl (by kernel_rfl) (by kernel_rfl) ?_)
 refine wpc_sound (M := MNp) (PL := PLpu) (CU := noCut) TTok mixed _ _ _ ?_
 conv => whnf
 repeat ((first | refine ⟨rfl, ?_⟩ | refine ⟨_, rfl, ?_⟩ | refine ⟨(show pureL _ = true from by first | exact prfC_pure _ | exact hdC_pure _ | exact msgC_pure _ | exact letC_pure _), ?_⟩); conv => whnf)
 refine ⟨_, _, hb, by first | rfl | simp [noRoIf, noRoL, noRoV, noRoL_bys], ?_⟩
 conv => whnf
 repeat ((first | refine ifB_f ?_ | (refine ifB_neg (decide_eq_false (by first | omega | rfl | (dsimp only; omega))) ?_)); conv => whnf)
 refine ⟨by kernel_rfl, ?_⟩
 conv => whnf
 repeat ((first | refine ⟨rfl, ?_⟩ | refine ⟨_, rfl, ?_⟩); conv => whnf)
 refine ⟨?_, ?_⟩
 ·conv => whnf
  repeat ((first | refine ⟨rfl, ?_⟩ | refine ⟨(show pureL (rowsC _ _) = true from by first | exact prfs_pure _ | exact ents_pure _ | exact hds_pure _ | exact lets_pure _), ?_⟩); conv => whnf)
  refine ⟨_, _, ht, by first | rfl | simp [noRoIf, noRoL, noRoV, noRoL_bys], ?_⟩
  conv => whnf
  repeat ((first | (refine Or.inl ⟨⟨rfl, ?_⟩, ?_⟩; (focus (first | rfl | (simp; done) | (rw [toksC_length]; omega)))) | refine ⟨rfl, ?_⟩ | refine ⟨⟨rfl, rfl⟩, ?_⟩); conv => whnf)
  refine ⟨⟨rfl, rfl, by rw [lets_len, Nat.mul_comm], by show (l.length + 1) * 40 ≤ limB; simp only [limB]; omega⟩, ?_⟩
  conv => whnf
  refine ⟨⟨by simp, rfl, ?_, by rw [lets_len, Nat.mul_comm], lets_pure _⟩, ?_⟩
  ·rw [rowsC_append]
   simp only [rowsC, List.append_nil]
   rfl
  ·conv => whnf
   first | rfl | exact ⟨⟨rfl, rfl⟩, rfl⟩ | exact ⟨⟨rfl, rfl⟩, trivial⟩
 ·conv => whnf
  repeat ((first | refine ⟨rfl, ?_⟩ | refine ⟨⟨rfl, rfl⟩, ?_⟩ | refine ⟨(show pureL (rowsC _ _) = true from by first | exact prfs_pure _ | exact ents_pure _ | exact hds_pure _ | exact lets_pure _), ?_⟩); conv => whnf)
  refine ⟨_, _, ht, by first | rfl | simp [noRoIf, noRoL, noRoV, noRoL_bys], ?_⟩
  conv => whnf
  repeat ((first | (refine Or.inl ⟨⟨rfl, ?_⟩, ?_⟩; (focus (first | rfl | (simp; done) | (rw [toksC_length]; omega)))) | refine ⟨rfl, ?_⟩); conv => whnf)
  refine ⟨⟨rfl, rfl, by rw [lets_len, Nat.mul_comm], by show (l.length + 1) * 40 ≤ limB; simp only [limB]; omega⟩, ?_⟩
  conv => whnf
  refine ⟨⟨by simp, rfl, ?_, by rw [lets_len, Nat.mul_comm], lets_pure _⟩, ?_⟩
  ·rw [rowsC_append]
   simp only [rowsC, List.append_nil]
   rfl
  ·conv => whnf
   first | rfl | exact ⟨⟨rfl, rfl⟩, rfl⟩ | exact ⟨⟨rfl, rfl⟩, trivial⟩
end
section
--KR
attribute [local irreducible] ifB fitP Does Weaker
def MNw : FuncId → List Mode := orElse [(13, [.rd, .rd]), (18, [.rd, .rd]), (22, []), (9, [.rd]), (34, [.bw, .bw])] MN
set_option maxHeartbeats 1000000 in
theorem wakes24_ok : ACall Tryd.prog 22 [] (.bool true) [] := by
 have hm : MsgS (msgE 1 1 0) := msgE_S (by omega) (by omega) (by omega)
 have hr : msgR (msgE 1 1 0) = true := by decide
 have hB : msgB (msgE 1 1 0) = ([132, 3, 1, 0, 128], 0) := by
  unfold msgB
  rw [if_pos hr]
  unfold msgT
  rw [if_pos (show (msgE 1 1 0).kind = 1 from rfl), fr_yes (by decide) (by decide) (by decide) (fun h hh => absurd hh (List.not_mem_nil))]
  decide
 have h1 := nput_yes [] (msgE 1 1 0) (fun x hx => absurd hx (List.not_mem_nil)) hm (by simp) hr
 have e : letM (msgE 1 1 0) = ⟨1, 0, [132, 3, 1, 0, 128]⟩ := by unfold letM; rw [hB]; rfl
 rw [e] at h1
 have hL : ∀ x ∈ [(⟨1, 0, [132, 3, 1, 0, 128]⟩ : Let)], LetS x := fun x hx => by
  rw [List.mem_singleton] at hx
  subst hx
  exact ⟨by decide, by decide, by simp [Byt], by simp⟩
 have h2 := ntake_yes [⟨1, 0, [132, 3, 1, 0, 128]⟩] 0 hL (by simp) (by simp)
 refine ACall.of_does TTok Tryd.func22 rfl Tryd.call22 rfl (wpc_sound (M := MNw) (PL := PL0) (CU := noCut) TTok mixed _ _ _ ?_)
 have h1 := (h1.les (xs := [.ro 0 [], .agg (msgV 1 1 0 .nil .nil .nil)]) rfl rfl ⟨⟨rfl, rfl, rfl⟩, ⟨⟨rfl, rfl⟩, ⟨rfl, rfl⟩, ⟨rfl, rfl⟩, ⟨rfl, rfl⟩, ⟨rfl, rfl⟩, ⟨rfl, rfl⟩, trivial⟩, trivial⟩).roRes2 (.inl ⟨_, _, rfl⟩)
 conv => whnf
 repeat ((refine ⟨rfl, ?_⟩); conv => whnf)
 refine ⟨_, _, h1, by first | rfl | simp [noRoIf, noRoL, noRoV, noRoL_bys], ?_⟩
 conv => whnf
 repeat ((refine ⟨rfl, ?_⟩); conv => whnf)
 refine ⟨_, _, h2, by first | rfl | simp [noRoIf, noRoL, noRoV, noRoL_bys], ?_⟩
 conv => whnf
 repeat ((first | refine ifB_t ?_ | refine ⟨(⟨by kernel_rfl, by kernel_rfl, Nat.le_of_ble_eq_true (by kernel_rfl)⟩ : AV.ones _ = true ∧ _ ∧ _), ?_⟩ | refine ⟨rfl, ?_⟩ | refine ⟨_, rfl, ?_⟩); conv => whnf)
 rfl
end
section

theorem ACall.roResT {P : Program} {f : FuncId} {args : List AV} {len esz : Nat} {cs ys : List AV} (hy : pureL ys = true) (h : ACall P f args (.tuple (.own len esz cs :: ys)) []) : ACall P f args (.tuple (.ro len cs :: ys)) [] := by
 refine ⟨h.1, fun Z E vals X hh hr hn hz => ?_⟩
 refine (h.2 Z E vals X hh hr hn hz).mono ?_
 rintro e w' ⟨v, E', Xr, he, hw, hη, hev, hV, hB, hnd, hX⟩
 refine ⟨v, ⟨E'.η, E'.ρ, Z, E'.w⟩, [], he, hw, hη, hev, fun b => by simp, ?_, List.nodup_nil, fun b hb => absurd hb (List.not_mem_nil)⟩
 simp only [List.nil_append, RepBL] at hB ⊢
 obtain ⟨u, us, Y, Y', e1, e2, h1, h2, h3⟩ := hB
 refine ⟨u, us, [], [], e1, rfl, ?_, h2, rfl⟩
 simp only [RepB, RepBL] at h1 ⊢
 obtain ⟨vs, rfl, u1, us1, Y1, Y2, f1, f2, k1, k2⟩ := h1
 obtain ⟨k3, k4⟩ := unborderL_pure ys us1 Y2 hy k2
 refine ⟨vs, rfl, u1, us1, [], [], f1, rfl, roOf_own (fun b hb => (hV b).2 (.inl hb)) (fun b hb => (hX b (by rw [e2, f2]; exact List.mem_append_left _ (List.mem_append_left _ hb))).1) k1, ?_⟩
 exact borderL_pure ys us1 hy (pureL_rep (E := E') (E' := ⟨E'.η, E'.ρ, Z, E'.w⟩) ⟨rfl, rfl⟩ (fun b hb => (hV b).2 (.inl hb)) ys us1 hy k3)
theorem RepM.les {E : Env} : ∀ (ys xs : List AV) (b off : Nat), lesP (fun _ => none) ys xs → RepM E xs b off → RepM E ys b off
 | [], xs, b, off, _, _ => by simp [RepM]
 | y :: ys, [], b, off, h, _ => by simp [lesP] at h
 | y :: ys, x :: xs, b, off, h, hr => by
  simp only [lesP] at h
  simp only [RepM] at hr ⊢
  obtain ⟨⟨u, hu, hv⟩, hr⟩ := hr
  exact ⟨⟨u, hu, leP_ok (E := E) (E' := E) ⟨rfl, rfl⟩ (fun b hb => hb) (fun i j n hi => by cases hi) y x u h.1 hv⟩, RepM.les ys xs b (off + 1) h.2 hr⟩
inductive RoLes : List AV → List AV → Prop where
 | nil : RoLes [] []
 | same {x : AV} {ys xs : List AV} (t : RoLes ys xs) : RoLes (x :: ys) (x :: xs)
 | ro {n : Nat} {cs ds ys xs : List AV} (hp : pureL cs = true) (hd : pureL ds = true) (he : ds = [] → cs = []) (hl : lesP (fun _ => none) cs ds) (t : RoLes ys xs) : RoLes (.ro n cs :: ys) (.ro n ds :: xs)
theorem RoLes.ok {E : Env} {ys xs : List AV} (h : RoLes ys xs) : ∀ (vs : List Value) (X : List Nat), RepBL E xs vs X → RepBL E ys vs X ∧ refVals ys vs = refVals xs vs := by
 induction h with
 | nil => intro vs X hr; exact ⟨hr, rfl⟩
 | same t ih =>
  intro vs X hr
  simp only [RepBL] at hr ⊢
  obtain ⟨u, us, Y, Y', rfl, rfl, h1, h2⟩ := hr
  have := ih us Y' h2
  refine ⟨⟨u, us, Y, Y', rfl, rfl, h1, this.1⟩, ?_⟩
  simp only [refVals]
  rw [this.2]
 | ro hp hd he hl t ih =>
  intro vs X hr
  simp only [RepBL] at hr ⊢
  obtain ⟨u, us, Y, Y', rfl, rfl, h1, h2⟩ := hr
  have := ih us Y' h2
  refine ⟨⟨u, us, Y, Y', rfl, rfl, ?_, this.1⟩, ?_⟩
  ·simp only [RepB] at h1 ⊢
   obtain ⟨_, h1, hx⟩ := h1
   refine ⟨by simpa [pureV] using hp, ?_, hx⟩
   simp only [RepV] at h1 ⊢
   obtain ⟨a, cap, e, hc, hm⟩ := h1
   refine ⟨a, cap, e, hc, ?_⟩
   rcases hm with hm | ⟨b, off, ha, hb, hm⟩
   ·exact .inl (he hm)
   ·exact .inr ⟨b, off, ha, hb, RepM.les _ _ _ _ hl hm⟩
  ·simp only [refVals, isRef, cond]
   rw [this.2]
theorem ACall.roLes {P : Program} {f : FuncId} {xs ys : List AV} {r : AV} {outs : List AV} (h : ACall P f ys r outs) (hl : RoLes ys xs) : ACall P f xs r outs := by
 refine ⟨h.1, fun Z E vals X hh hr hn hz => ?_⟩
 have k := hl.ok vals X hr
 have := h.2 Z E vals X hh k.1 hn hz
 rwa [k.2] at this
end
section
--KR
attribute [local irreducible] ifB fitP Does Weaker
theorem cutL_at (l : List Let) (n : Nat) : cutB (rowsC letC l) (some (n : Int)) none 3 = rowsC letC (l.drop n) := by
 show List.drop ((n : Int).toNat * 3) (rowsC letC l) = _
 rw [Int.toNat_natCast, Nat.mul_comm, rowsC_drop letC_length]
theorem cutL_mid (l : List Let) (n : Nat) (h : n < l.length) : cutB (rowsC letC l) (some (n : Int)) (some ((n : Int) + 1)) 3 = rowsC letC [l[n]] := by
 show List.take ((((n : Int) + 1).toNat - (n : Int).toNat) * 3) (List.drop ((n : Int).toNat * 3) (rowsC letC l)) = _
 rw [Int.toNat_natCast, show ((n : Int) + 1).toNat - n = 1 by omega, Nat.mul_comm n 3, rowsC_drop letC_length, Nat.mul_comm, rowsC_take letC_length, List.drop_eq_getElem_cons h]
 rfl
theorem let0_S : LetS let0 := ⟨by decide, by decide, by simp [let0, Byt], by simp [let0]⟩
theorem kl_refl (l : List Let) (hx : ∀ x ∈ l, LetS x) (hl : l.length ≤ 1000000000) : ACall Tryd.prog 15 [.ro l.length (rowsC letC l), .ro l.length (rowsC letC l)] (.bool true) [] := by
 have h := kletters_ok l l hx hx hl hl
 rwa [dt rfl] at h
theorem kl_zero : ACall Tryd.prog 15 [.ro 1 (letC let0), .ro 1 [.int .i64 0, .int .i64 0, .nil]] (.bool true) [] := by
 have h := kl_refl [let0] (fun x hx => by rw [List.mem_singleton] at hx; subst hx; exact let0_S) (by simp)
 exact h.roLes (.same (.ro rfl rfl (fun h => by cases h) ⟨⟨rfl, rfl⟩, ⟨rfl, rfl⟩, ⟨rfl, rfl⟩, trivial⟩ .nil))
theorem pureL_cut {cs : List AV} (h : pureL cs = true) (lo hi : Option Int) (sz : Nat) : pureL (cutB cs lo hi sz) = true := by
 cases lo <;> cases hi <;> simp only [cutB] <;> first | exact h | exact pureL_take h _ | exact pureL_drop h _ | exact pureL_take (pureL_drop h _) _
structure LetO (x : Let) : Prop where
 frm : -9223372036854775808 ≤ x.frm ∧ x.frm < 9223372036854775808
 to : -9223372036854775808 ≤ x.to ∧ x.to < 9223372036854775808
 body : Byt x.body
theorem letS_of {l : List Let} (h : ∀ x ∈ l, LetO x) (hv : heavyL l = false) : l.length ≤ 60 ∧ ∀ x ∈ l, LetS x := by
 unfold heavyL at hv
 rw [Bool.or_eq_false_iff] at hv
 refine ⟨by have := of_decide_eq_false hv.1; omega, fun x hx => ⟨(h x hx).frm, (h x hx).to, (h x hx).body, ?_⟩⟩
 have := List.any_eq_false.1 hv.2 x hx
 have := (of_decide_eq_false (by simpa using this) : ¬ 300 < x.body.length)
 omega
def MNs : FuncId → List Mode := orElse [(15, [.bw, .bw])] MNw
def PLns : Nat → Bool × Plan := plans [(7, (false, (takesTo [0, 1, 2, 3, 4, 5, 6, 7, 8, 9, 10, 11, 12, 13, 14, 15, 16, 17, 18, 19, 20] (.all [(21, (takesTo [22, 23, 24, 25, 26, 27, 28, 29, 30] (.all [(31, (takesTo [32, 33, 34, 36, 37, 38, 39, 40] (.all [(35, (.all [(41, (takesTo [42, 43, 44, 45, 46, 47, 48, 49, 50, 51, 52, 53, 54, 55, 56] (.all [(57, (takesTo [58, 59, 60, 61, 62, 63, 64, 65, 66, 67, 68] (.all [(69, (takesTo [70, 71] (.all [(72, (takes [73, 74]))])))])))])))]))])))])))]))))]
set_option maxHeartbeats 1000000 in
theorem netStays_ok (l : List Let) (at' : Int) (ho : ∀ x ∈ l, LetO x) (ha : -9223372036854775808 ≤ at' ∧ at' < 9223372036854775808) : ACall Tryd.prog 5 [.ro l.length (rowsC letC l), .int .i64 at'] (.bool true) [] := by
 have hh := heavy24_ok l
 have hw := wakes24_ok
 cases hv : heavyL l with
 | true =>
  rw [hv] at hh
  refine ACall.of_does TTok Tryd.func5 rfl Tryd.call5 rfl (wpc_sound (M := MNs) (PL := PLns) (CU := noCut) TTok mixed _ _ _ ?_)
  conv => whnf
  repeat ((first | refine ⟨rfl, ?_⟩ | refine ⟨(show pureL (rowsC _ _) = true from by first | exact prfs_pure _ | exact ents_pure _ | exact hds_pure _ | exact lets_pure _), ?_⟩); conv => whnf)
  refine ⟨_, _, hh, by first | rfl | simp [noRoIf, noRoL, noRoV, noRoL_bys], ?_⟩
  conv => whnf
  repeat ((first | refine ifB_t ?_ | refine ⟨rfl, ?_⟩); conv => whnf)
  rfl
 | false =>
  rw [hv] at hh
  obtain ⟨hs, hx⟩ := letS_of ho hv
  by_cases hr : 0 ≤ at' ∧ at' < l.length
  ·obtain ⟨n, rfl⟩ : ∃ n : Nat, at' = n := ⟨at'.toNat, by omega⟩
   have hn : n < l.length := by omega
   have h1 := (ntake_yes l n hx (by omega) hn).roResT (by simp only [pureL, pureV, letC_pure, Bool.and_true])
   have h2 := (ncopy_yes l n hx (by omega) hn).roRes2 (.inl ⟨_, _, rfl⟩)
   have k1 := kl_refl (l.take n) (fun x h => hx x (List.mem_of_mem_take h)) (by simp; omega)
   have k2 := kl_refl (l.drop (n + 1)) (fun x h => hx x (List.mem_of_mem_drop h)) (by simp; omega)
   have k3 := kl_refl [l[n]] (fun x h => by rw [List.mem_singleton] at h; subst h; exact hx _ (List.getElem_mem hn)) (by simp)
   have k4 := kl_refl l hx (by omega)
   have hL : (l.take n ++ l.drop (n + 1)).length = l.length - 1 := by simp; omega
   have hT : (l.take n ++ l.drop (n + 1)).take n = l.take n := by rw [List.take_append_of_le_length (by simp; omega), List.take_take, Nat.min_self]
   have hD : (l.take n ++ l.drop (n + 1)).drop n = l.drop (n + 1) := by
    have e : n = (l.take n).length := by simp; omega
    rw [show List.drop n (l.take n ++ l.drop (n + 1)) = List.drop (l.take n).length (l.take n ++ l.drop (n + 1)) by rw [← e], List.drop_left]
   generalize l.take n ++ l.drop (n + 1) = L at h1 hL hT hD
   have gL : (l ++ [l[n]]).length = l.length + 1 := by simp
   have gT : (l ++ [l[n]]).take l.length = l := by simp
   have gD : (l ++ [l[n]]).drop l.length = [l[n]] := by simp
   have hM := cutL_mid l n hn
   generalize l ++ [l[n]] = C at h2 gL gT gD
   generalize hX : l[n] = X at *
   refine ACall.of_does TTok Tryd.func5 rfl Tryd.call5 rfl (wpc_sound (M := MNs) (PL := PLns) (CU := cutAt [100005]) TTok mixed _ _ _ ?_)
   conv => whnf
   repeat ((first | refine ⟨rfl, ?_⟩ | refine ⟨(show pureL (rowsC _ _) = true from by first | exact prfs_pure _ | exact ents_pure _ | exact hds_pure _ | exact lets_pure _), ?_⟩); conv => whnf)
   refine ⟨_, _, hh, by first | rfl | simp [noRoIf, noRoL, noRoV, noRoL_bys], ?_⟩
   conv => whnf
   repeat ((first | refine ifB_f ?_ | refine ⟨rfl, ?_⟩ | refine ⟨(show pureL (rowsC _ _) = true from by first | exact prfs_pure _ | exact ents_pure _ | exact hds_pure _ | exact lets_pure _), ?_⟩); conv => whnf)
   refine ⟨_, _, h1, by first | rfl | simp [noRoIf, noRoL, noRoV, noRoL_bys], ?_⟩
   conv => whnf
   repeat ((first | refine ⟨(⟨by kernel_rfl, by kernel_rfl, Nat.le_of_ble_eq_true (by kernel_rfl)⟩ : AV.ones _ = true ∧ _ ∧ _), ?_⟩ | refine ⟨rfl, ?_⟩ | refine ⟨(show pureL (rowsC _ _) = true from by first | exact prfs_pure _ | exact ents_pure _ | exact hds_pure _ | exact lets_pure _), ?_⟩); conv => whnf)
   refine ⟨_, _, h2, by first | rfl | simp [noRoIf, noRoL, noRoV, noRoL_bys], ?_⟩
   conv => whnf
   refine Does.freeze 0 rfl (Does.tidy [(0, .ro l.length (rowsC letC l)), (1, .int .i64 n), (5, .ro L.length (rowsC letC L)), (6, .rop (letC X)), (7, .int .i64 0), (8, .ro C.length (rowsC letC C)), (9, .int .i64 0)] [] 1 131 rfl rfl rfl (by kernel_rfl) (by kernel_rfl) ?_)
   refine wpc_sound (M := MNs) (PL := PLns) (CU := noCut) TTok mixed _ _ _ ?_
   conv => whnf
   repeat ((first | refine ifB_f ?_ | (refine ifB_neg (decide_eq_false (by first | omega | rfl | (dsimp only; omega))) ?_)); conv => whnf)
   refine ⟨by kernel_rfl, ?_⟩
   conv => whnf
   repeat ((first | refine ifB_t ?_ | (refine ifB_pos (decide_eq_true (by first | omega | rfl | (dsimp only; omega))) ?_) | (refine fit_i64 ⟨by first | omega | rfl | (dsimp only; omega), by first | omega | rfl | (dsimp only; omega)⟩ ?_)); conv => whnf)
   refine ⟨⟨by rw [lets_len, Nat.mul_comm], by simp [okB]; omega⟩, ?_⟩
   conv => whnf
   repeat ((refine ifB_t ?_); conv => whnf)
   refine ⟨⟨by rw [lets_len, Nat.mul_comm], by simp [okB]; omega⟩, ?_⟩
   conv => whnf
   repeat ((refine ifB_t ?_); conv => whnf)
   refine ⟨pureL_cut (lets_pure _) _ _ _, ?_⟩
   conv => whnf
   refine ⟨pureL_cut (lets_pure _) _ _ _, ?_⟩
   conv => whnf
   repeat ((refine ⟨rfl, ?_⟩); conv => whnf)
   refine ⟨_, _, k1.arg2 (by simp [lenB]; omega) (by rw [cutL_to, hT]) (by simp [lenB]; omega) (by rw [cutL_to]), by first | rfl | simp [noRoIf, noRoL, noRoV, noRoL_bys], ?_⟩
   conv => whnf
   repeat ((refine ifB_t ?_); conv => whnf)
   refine ⟨⟨by rw [lets_len, Nat.mul_comm], by simp [okB]; omega⟩, ?_⟩
   conv => whnf
   repeat ((first | refine ifB_t ?_ | (refine fit_i64 ⟨by first | omega | rfl | (dsimp only; omega), by first | omega | rfl | (dsimp only; omega)⟩ ?_)); conv => whnf)
   refine ⟨⟨by rw [lets_len, Nat.mul_comm], by simp [okB]; omega⟩, ?_⟩
   conv => whnf
   repeat ((refine ifB_t ?_); conv => whnf)
   refine ⟨pureL_cut (lets_pure _) _ _ _, ?_⟩
   conv => whnf
   refine ⟨pureL_cut (lets_pure _) _ _ _, ?_⟩
   conv => whnf
   repeat ((refine ⟨rfl, ?_⟩); conv => whnf)
   refine ⟨_, _, k2.arg2 (by simp [lenB]; omega) (by rw [cutL_at, hD]) (by simp [lenB] <;> omega) (by rw [cutL_from]), by first | rfl | simp [noRoIf, noRoL, noRoV, noRoL_bys], ?_⟩
   conv => whnf
   repeat ((first | refine ifB_t ?_ | (refine fit_i64 ⟨by first | omega | rfl | (dsimp only; omega), by first | omega | rfl | (dsimp only; omega)⟩ ?_) | refine ⟨rfl, ?_⟩ | refine ⟨_, rfl, ?_⟩); conv => whnf)
   refine ⟨⟨by rw [lets_len, Nat.mul_comm], by simp [okB]; omega⟩, ?_⟩
   conv => whnf
   repeat ((first | refine ifB_t ?_ | (refine Or.inl ⟨⟨rfl, ?_⟩, ?_⟩; (focus (first | rfl | (simp; done) | (rw [toksC_length]; omega)))) | refine ⟨⟨rfl, rfl⟩, ?_⟩ | (refine And.intro ?_ ?_; (focus (first | (simp only [pureL, pureV, pureL_bys, Bool.and_true, Bool.and_self]; done) | (simp only [pureL, pureV, pureL_bys, pureL_toks, Bool.and_true, Bool.and_self]; done))))); conv => whnf)
   refine ⟨pureL_cut (lets_pure _) _ _ _, ?_⟩
   conv => whnf
   repeat ((refine ⟨rfl, ?_⟩); conv => whnf)
   refine ⟨_, _, k3.arg2 rfl rfl (by simp [lenB] <;> omega) hM, by first | rfl | simp [noRoIf, noRoL, noRoV, noRoL_bys], ?_⟩
   conv => whnf
   repeat ((first | refine ifB_t ?_ | (refine ifB_pos (decide_eq_true (by first | omega | rfl | (dsimp only; omega))) ?_) | (refine fit_i64 ⟨by first | omega | rfl | (dsimp only; omega), by first | omega | rfl | (dsimp only; omega)⟩ ?_)); conv => whnf)
   refine ⟨⟨by rw [lets_len, Nat.mul_comm], by simp [okB]; omega⟩, ?_⟩
   conv => whnf
   repeat ((refine ifB_t ?_); conv => whnf)
   refine ⟨pureL_cut (lets_pure _) _ _ _, ?_⟩
   conv => whnf
   repeat ((first | refine ⟨rfl, ?_⟩ | refine ⟨(show pureL (rowsC _ _) = true from by first | exact prfs_pure _ | exact ents_pure _ | exact hds_pure _ | exact lets_pure _), ?_⟩); conv => whnf)
   refine ⟨_, _, k4.arg2 (by simp [lenB] <;> omega) (by rw [cutL_to, gT]) rfl rfl, by first | rfl | simp [noRoIf, noRoL, noRoV, noRoL_bys], ?_⟩
   conv => whnf
   repeat ((refine ifB_t ?_); conv => whnf)
   refine ⟨⟨by rw [lets_len, Nat.mul_comm], by simp [okB]; omega⟩, ?_⟩
   conv => whnf
   repeat ((first | refine ifB_t ?_ | (refine fit_i64 ⟨by first | omega | rfl | (dsimp only; omega), by first | omega | rfl | (dsimp only; omega)⟩ ?_)); conv => whnf)
   refine ⟨⟨by rw [lets_len, Nat.mul_comm], by simp [okB]; omega⟩, ?_⟩
   conv => whnf
   repeat ((refine ifB_t ?_); conv => whnf)
   refine ⟨pureL_cut (lets_pure _) _ _ _, ?_⟩
   conv => whnf
   refine ⟨pureL_cut (lets_pure _) _ _ _, ?_⟩
   conv => whnf
   repeat ((refine ⟨rfl, ?_⟩); conv => whnf)
   refine ⟨_, _, k3.arg2 (by simp [lenB] <;> omega) (by rw [cutL_at, gD]) (by simp [lenB] <;> omega) hM, by first | rfl | simp [noRoIf, noRoL, noRoV, noRoL_bys], ?_⟩
   conv => whnf
   repeat ((first | refine ifB_t ?_ | refine ⟨rfl, ?_⟩); conv => whnf)
   refine ⟨_, _, hw, by first | rfl | simp [noRoIf, noRoL, noRoV, noRoL_bys], ?_⟩
   conv => whnf
   repeat ((first | refine ifB_t ?_ | refine ⟨rfl, ?_⟩); conv => whnf)
   rfl
  ·have h1 := (ntake_no l at' (by omega) hr).roResT rfl
   have h2 := (ncopy_no l at' (by omega) hr).roRes2 (.inl ⟨_, _, rfl⟩)
   have hk := kl_zero
   refine ACall.of_does TTok Tryd.func5 rfl Tryd.call5 rfl (wpc_sound (M := MNs) (PL := PLns) (CU := cutAt [100005]) TTok mixed _ _ _ ?_)
   conv => whnf
   repeat ((first | refine ⟨rfl, ?_⟩ | refine ⟨(show pureL (rowsC _ _) = true from by first | exact prfs_pure _ | exact ents_pure _ | exact hds_pure _ | exact lets_pure _), ?_⟩); conv => whnf)
   refine ⟨_, _, hh, by first | rfl | simp [noRoIf, noRoL, noRoV, noRoL_bys], ?_⟩
   conv => whnf
   repeat ((first | refine ifB_f ?_ | refine ⟨rfl, ?_⟩ | refine ⟨(show pureL (rowsC _ _) = true from by first | exact prfs_pure _ | exact ents_pure _ | exact hds_pure _ | exact lets_pure _), ?_⟩); conv => whnf)
   refine ⟨_, _, h1, by first | rfl | simp [noRoIf, noRoL, noRoV, noRoL_bys], ?_⟩
   conv => whnf
   repeat ((first | refine ⟨(⟨by kernel_rfl, by kernel_rfl, Nat.le_of_ble_eq_true (by kernel_rfl)⟩ : AV.ones _ = true ∧ _ ∧ _), ?_⟩ | refine ⟨rfl, ?_⟩ | refine ⟨(show pureL (rowsC _ _) = true from by first | exact prfs_pure _ | exact ents_pure _ | exact hds_pure _ | exact lets_pure _), ?_⟩); conv => whnf)
   refine ⟨_, _, h2, by first | rfl | simp [noRoIf, noRoL, noRoV, noRoL_bys], ?_⟩
   conv => whnf
   refine wpc_sound (M := MNs) (PL := PLns) (CU := noCut) TTok mixed _ _ _ ?_
   by_cases h0 : at' < 0
   ·conv => whnf
    repeat ((first | refine ifB_t ?_ | (refine ifB_pos (decide_eq_true (by first | omega | rfl | (dsimp only; omega))) ?_) | (refine fit_i64 ⟨by first | omega | rfl | (dsimp only; omega), by first | omega | rfl | (dsimp only; omega)⟩ ?_) | (refine Or.inl ⟨⟨rfl, ?_⟩, ?_⟩; (focus (first | rfl | (simp; done) | (rw [toksC_length]; omega)))) | refine ⟨rfl, ?_⟩ | refine ⟨_, rfl, ?_⟩ | refine ⟨⟨rfl, rfl⟩, ?_⟩); conv => whnf)
    refine ⟨_, _, hk, by first | rfl | simp [noRoIf, noRoL, noRoV, noRoL_bys], ?_⟩
    conv => whnf
    repeat ((first | refine ifB_t ?_ | refine ⟨rfl, ?_⟩); conv => whnf)
    refine ⟨_, _, hw, by first | rfl | simp [noRoIf, noRoL, noRoV, noRoL_bys], ?_⟩
    conv => whnf
    repeat ((first | refine ifB_t ?_ | refine ⟨rfl, ?_⟩); conv => whnf)
    rfl
   ·have h0' : (l.length : Int) ≤ at' := by omega
    conv => whnf
    repeat ((first | refine ifB_t ?_ | refine ifB_f ?_ | (refine ifB_neg (decide_eq_false (by first | omega | rfl | (dsimp only; omega))) ?_) | (refine ifB_pos (decide_eq_true (by first | omega | rfl | (dsimp only; omega))) ?_) | (refine fit_i64 ⟨by first | omega | rfl | (dsimp only; omega), by first | omega | rfl | (dsimp only; omega)⟩ ?_) | (refine Or.inl ⟨⟨rfl, ?_⟩, ?_⟩; (focus (first | rfl | (simp; done) | (rw [toksC_length]; omega)))) | refine ⟨rfl, ?_⟩ | refine ⟨_, rfl, ?_⟩ | refine ⟨⟨rfl, rfl⟩, ?_⟩); conv => whnf)
    refine ⟨_, _, hk, by first | rfl | simp [noRoIf, noRoL, noRoV, noRoL_bys], ?_⟩
    conv => whnf
    repeat ((first | refine ifB_t ?_ | refine ⟨rfl, ?_⟩); conv => whnf)
    refine ⟨_, _, hw, by first | rfl | simp [noRoIf, noRoL, noRoV, noRoL_bys], ?_⟩
    conv => whnf
    repeat ((first | refine ifB_t ?_ | refine ⟨rfl, ?_⟩); conv => whnf)
    rfl
end
section
--KR
attribute [local irreducible] ifB fitP Does Weaker
end
section
--KR
attribute [local irreducible] ifB fitP Does Weaker
theorem mod_len (cut : Int) {n : Nat} (hn : 0 < n) : ∃ c : Nat, (cut % 18446744073709551616).tmod (n : Int) = c ∧ c < n := by
 have h0 : 0 ≤ cut % 18446744073709551616 := by omega
 have a := Int.tmod_nonneg (n : Int) h0
 have b := Int.tmod_lt_of_pos (cut % 18446744073709551616) (show (0 : Int) < n by omega)
 exact ⟨((cut % 18446744073709551616).tmod (n : Int)).toNat, by omega, by omega⟩
end
section
--KR
attribute [local irreducible] ifB fitP Does Weaker
def xl : Let := ⟨0, 1, []⟩
theorem xl_S (c : Nat) : ∀ x ∈ List.replicate c xl, LetS x := fun x hx => by
 rw [List.eq_of_mem_replicate hx]
 exact ⟨by decide, by decide, by simp [xl, Byt], by simp [xl]⟩
theorem put_nil {l : List Let} {r : AV} (h : ACall Tryd.prog 13 [.ro l.length (rowsC letC l), .agg (msgC (msgE 1 1 0))] r []) : ACall Tryd.prog 13 [.ro l.length (rowsC letC l), .agg (msgV 1 1 0 .nil .nil .nil)] r [] :=
 h.les (by simp only [pureL, pureV, lets_pure]; rfl) (by simp only [pureL, pureV, lets_pure, msgC_pure]; rfl) ⟨⟨rfl, rfl, lets_pure _⟩, ⟨⟨rfl, rfl⟩, ⟨rfl, rfl⟩, ⟨rfl, rfl⟩, ⟨rfl, rfl⟩, ⟨rfl, rfl⟩, ⟨rfl, rfl⟩, trivial⟩, trivial⟩
set_option maxHeartbeats 1000000 in
theorem netRoom_ok (n' : Int) (hn' : -9223372036854775808 ≤ n' ∧ n' < 9223372036854775808) : ACall Tryd.prog 4 [.int .i64 n'] (.bool true) [] := by
 obtain ⟨n, hn, hn3⟩ := mod_len n' (n := 3) (by omega)
 have wn := wrap_u64 n'
 have hw := wakes24_ok
 have hm : MsgS (msgE 1 1 0) := msgE_S (by omega) (by omega) (by omega)
 have hr : msgR (msgE 1 1 0) = true := by decide
 refine ACall.of_does TTok Tryd.func4 rfl Tryd.call4 rfl (wpc_sound (M := MNs) (PL := PL0) (CU := cutAt [100007]) TTok mixed _ _ _ ?_)
 conv => whnf
 refine fit_wrap ?_
 rw [wn]
 conv => whnf
 repeat ((refine And.intro (by first | omega | rfl | (dsimp only; omega)) ?_); conv => whnf)
 rw [show (n' % 18446744073709551616).tmod 3 = (n : Int) from hn]
 conv => whnf
 repeat ((refine fit_i64 ⟨by first | omega | rfl | (dsimp only; omega), by first | omega | rfl | (dsimp only; omega)⟩ ?_); conv => whnf)
 refine Does.loop (fun c : Nat => mkSt [(0, .int .i64 n), (3, .sl 0 0 c 3 false), (4, .int .i64 c)] [(0, rowsC letC (List.replicate c xl))] 1 78) (fun c => c ≤ 1199 + n) (fun c => 1199 + n - c) ?_ 0 (Nat.zero_le _) ?_
 ·intro c hc
  have hL : (rowsC letC (List.replicate c xl)).length = 3 * c := by rw [lets_len, List.length_replicate]
  rcases Nat.lt_or_ge c (1199 + n) with c1 | c1
  ·refine wpc_sound (M := MNs) (PL := PL0) (CU := noCut) TTok mixed _ _ _ ?_
   conv => whnf
   repeat ((first | (refine ifB_pos (decide_eq_true (by first | omega | rfl | (dsimp only; omega))) ?_) | (refine fit_i64 ⟨by first | omega | rfl | (dsimp only; omega), by first | omega | rfl | (dsimp only; omega)⟩ ?_) | (refine Or.inl ⟨⟨rfl, ?_⟩, ?_⟩; (focus (first | rfl | (simp; done) | (rw [toksC_length]; omega)))) | refine ⟨rfl, ?_⟩ | refine ⟨⟨rfl, rfl⟩, ?_⟩ | (refine And.intro ?_ ?_; (focus (first | (simp [limB, lenB, offB]; done) | (simp [limB, lenB, offB]; omega))))); conv => whnf)
   refine ⟨c + 1, by omega, by omega, weaker_of [(0, 2)] rfl rfl ⟨⟨rfl, rfl⟩, ⟨rfl, rfl, rfl, rfl, fun h => h⟩, ⟨rfl, rfl⟩, trivial⟩ ⟨?_, trivial⟩⟩
   rw [List.replicate_succ', rowsC_append]
   refine lesP_app'' (rowsC_les letC_les rfl) ?_
   exact ⟨⟨rfl, rfl⟩, ⟨rfl, rfl⟩, ⟨rfl, rfl⟩, trivial⟩
  obtain rfl : c = 1199 + n := by omega
  refine wpc_sound (M := MNs) (PL := PL0) (CU := noCut) TTok mixed _ _ _ ?_
  conv => whnf
  repeat ((first | (refine ifB_neg (decide_eq_false (by first | omega | rfl | (dsimp only; omega))) ?_) | (refine fit_i64 ⟨by first | omega | rfl | (dsimp only; omega), by first | omega | rfl | (dsimp only; omega)⟩ ?_)); conv => whnf)
  refine Does.freeze 0 rfl (Does.tidy [(0, .int .i64 n), (3, .ro (1199 + n) (List.take ((1199 + n) * 3) (List.drop 0 (rowsC letC (List.replicate (1199 + n) xl)))))] [] 1 78 rfl rfl rfl (by kernel_rfl) (by kernel_rfl) ?_)
  have w1 : List.take ((1199 + n) * 3) (List.drop 0 (rowsC letC (List.replicate (1199 + n) xl))) = rowsC letC (List.replicate (1199 + n) xl) := by have := rowsC_whole letC_length (List.replicate (1199 + n) xl); rwa [List.length_replicate] at this
  rw [w1]
  have hS := xl_S (1199 + n)
  have hl : (List.replicate (1199 + n) xl).length = 1199 + n := by simp
  clear hL w1 hc c1
  generalize List.replicate (1199 + n) xl = l at hS hl
  have e0 : 1199 + n = l.length := by omega
  rw [e0]
  by_cases h0 : n = 0
  ·have h1 := put_nil ((nput_yes l (msgE 1 1 0) hS hm (by omega) hr).roRes2 (.inl ⟨_, _, rfl⟩))
   have h2 := (ncopy_yes l 5 hS (by omega) (by omega)).roRes2 (.inl ⟨_, _, rfl⟩)
   have g1 : (l ++ [letM (msgE 1 1 0)]).length = l.length + 1 := by simp
   have g2 : (l ++ [l[5]'(by omega)]).length = l.length + 1 := by simp
   generalize l ++ [letM (msgE 1 1 0)] = P at h1 g1
   generalize l ++ [l[5]'(by omega)] = C at h2 g2
   refine wpc_sound (M := MNs) (PL := PL0) (CU := noCut) TTok mixed _ _ _ ?_
   conv => whnf
   repeat ((first | refine ⟨rfl, ?_⟩ | refine ⟨(show pureL (rowsC _ _) = true from by first | exact prfs_pure _ | exact ents_pure _ | exact hds_pure _ | exact lets_pure _), ?_⟩); conv => whnf)
   refine ⟨_, _, h1, by first | rfl | simp [noRoIf, noRoL, noRoV, noRoL_bys], ?_⟩
   conv => whnf
   repeat ((first | refine ⟨rfl, ?_⟩ | refine ⟨(show pureL (rowsC _ _) = true from by first | exact prfs_pure _ | exact ents_pure _ | exact hds_pure _ | exact lets_pure _), ?_⟩); conv => whnf)
   refine ⟨_, _, h2, by first | rfl | simp [noRoIf, noRoL, noRoV, noRoL_bys], ?_⟩
   conv => whnf
   repeat ((first | refine ifB_t ?_ | (refine ifB_neg (decide_eq_false (by first | omega | rfl | (dsimp only; omega))) ?_) | (refine ifB_pos (decide_eq_true (by first | omega | rfl | (dsimp only; omega))) ?_) | (refine fit_i64 ⟨by first | omega | rfl | (dsimp only; omega), by first | omega | rfl | (dsimp only; omega)⟩ ?_) | refine ⟨rfl, ?_⟩); conv => whnf)
   refine ⟨_, _, hw, by first | rfl | simp [noRoIf, noRoL, noRoV, noRoL_bys], ?_⟩
   conv => whnf
   repeat ((first | refine ifB_t ?_ | refine ⟨rfl, ?_⟩); conv => whnf)
   rfl
  ·have h1 := put_nil ((nput_full l (msgE 1 1 0) hm (by omega) hr (by omega)).roRes2 (.inl ⟨_, _, rfl⟩))
   have h2 := (ncopy_full l 5 (by omega) (by omega) (by omega)).roRes2 (.inl ⟨_, _, rfl⟩)
   refine wpc_sound (M := MNs) (PL := PL0) (CU := noCut) TTok mixed _ _ _ ?_
   conv => whnf
   repeat ((first | refine ⟨rfl, ?_⟩ | refine ⟨(show pureL (rowsC _ _) = true from by first | exact prfs_pure _ | exact ents_pure _ | exact hds_pure _ | exact lets_pure _), ?_⟩); conv => whnf)
   refine ⟨_, _, h1, by first | rfl | simp [noRoIf, noRoL, noRoV, noRoL_bys], ?_⟩
   conv => whnf
   repeat ((first | refine ⟨rfl, ?_⟩ | refine ⟨(show pureL (rowsC _ _) = true from by first | exact prfs_pure _ | exact ents_pure _ | exact hds_pure _ | exact lets_pure _), ?_⟩); conv => whnf)
   refine ⟨_, _, h2, by first | rfl | simp [noRoIf, noRoL, noRoV, noRoL_bys], ?_⟩
   conv => whnf
   repeat ((first | refine ifB_t ?_ | (refine ifB_pos (decide_eq_true (by first | omega | rfl | (dsimp only; omega))) ?_) | (refine fit_i64 ⟨by first | omega | rfl | (dsimp only; omega), by first | omega | rfl | (dsimp only; omega)⟩ ?_) | refine ⟨rfl, ?_⟩); conv => whnf)
   refine ⟨_, _, hw, by first | rfl | simp [noRoIf, noRoL, noRoV, noRoL_bys], ?_⟩
   conv => whnf
   repeat ((first | refine ifB_t ?_ | refine ⟨rfl, ?_⟩); conv => whnf)
   rfl
 ·exact weaker_of [] rfl rfl ⟨⟨rfl, rfl⟩, rfl, ⟨rfl, rfl⟩, trivial⟩ ⟨rfl, trivial⟩
end
section
--KR
attribute [local irreducible] ifB fitP Does Weaker
section
attribute [local irreducible] demsP
end
end
section
--KR
attribute [local irreducible] ifB fitP Does Weaker
end
section
--KR
attribute [local irreducible] ifB fitP Does Weaker
def MF : FuncId → List Mode := orElse [(69, [.rd]), (70, [.rd]), (68, [.rd]), (91, [.rd]), (65, [.rd]), (92, [.rd]), (72, [.rd]), (999999, [.rd]),
 (999999, [.rd, .rd, .rd]), (999999, [.rd]), (64, [.rd]), (999999, [.rd, .rd]), (71, [.rd]), (999999, [.rd]), (63, [.rd]), (27, [.rd]),
 (33, [.rd]), (999999, [.rd])] MW
theorem refnum_ok (n : Int) : ACall Tryd.prog 69 [.int .i64 n] (.agg (tokC ⟨1, n, []⟩)) [] := by
 refine ACall.of_does TTok Tryd.func69 rfl Tryd.call69 rfl (wpc_sound (M := MF) (PL := PL0) (CU := noCut) TTok mixed _ _ _ ?_)
 conv => whnf
 repeat ((first | refine ⟨(⟨by kernel_rfl, by kernel_rfl, Nat.le_of_ble_eq_true (by kernel_rfl)⟩ : AV.ones _ = true ∧ _ ∧ _), ?_⟩ | refine ⟨rfl, ?_⟩ | refine ⟨_, rfl, ?_⟩ | refine ⟨⟨rfl, rfl⟩, ?_⟩); conv => whnf)
 rfl
theorem refarray_ok (n : Int) : ACall Tryd.prog 68 [.int .i64 n] (.agg (tokC ⟨5, n, []⟩)) [] := by
 refine ACall.of_does TTok Tryd.func68 rfl Tryd.call68 rfl (wpc_sound (M := MF) (PL := PL0) (CU := noCut) TTok mixed _ _ _ ?_)
 conv => whnf
 repeat ((first | refine ⟨(⟨by kernel_rfl, by kernel_rfl, Nat.le_of_ble_eq_true (by kernel_rfl)⟩ : AV.ones _ = true ∧ _ ∧ _), ?_⟩ | refine ⟨rfl, ?_⟩ | refine ⟨_, rfl, ?_⟩ | refine ⟨⟨rfl, rfl⟩, ?_⟩); conv => whnf)
 rfl
theorem refbytes_ok (b : List Int) : ACall Tryd.prog 70 [.ro b.length (bys b)] (.agg (tokC ⟨3, 0, b⟩)) [] := by
 refine ACall.of_does TTok Tryd.func70 rfl Tryd.call70 rfl (wpc_sound (M := MF) (PL := PL0) (CU := noCut) TTok mixed _ _ _ ?_)
 conv => whnf
 repeat ((first | refine ⟨(⟨by kernel_rfl, by kernel_rfl, Nat.le_of_ble_eq_true (by kernel_rfl)⟩ : AV.ones _ = true ∧ _ ∧ _), ?_⟩ | refine ⟨rfl, ?_⟩ | refine ⟨_, rfl, ?_⟩ | refine ⟨⟨rfl, rfl⟩, ?_⟩ | (refine ⟨⟨rfl, rfl, ?_⟩, ?_⟩; (focus (first | assumption | exact pureL_bys _ | exact pureL_toks _)))); conv => whnf)
 rfl
theorem refop_ok (e : Ent) (he : EntS e) : ACall Tryd.prog 91 [.agg (opC e)] (.bool (opR e)) [] := by
 have hk := he.key'
 have hv := he.val'
 have hu := refUtf8_ok e.key he.key.1 (by omega)
 have hi := in_ok (e.key.length : Int) 1 16
 unfold opR
 refine ACall.of_does TTok Tryd.func91 rfl Tryd.call91 rfl (wpc_sound (M := MF) (PL := PL0) (CU := noCut) TTok mixed _ _ _ ?_)
 by_cases c1 : 1 ≤ e.key.length
 ·rw [dt c1]
  by_cases c2 : e.key.length ≤ 16
  ·rw [dt c2]
   rw [dt (show (1 : Int) ≤ e.key.length ∧ (e.key.length : Int) ≤ 16 by omega)] at hi
   cases c3 : validR e.key <;> rw [c3] at hu
   ·conv => whnf
    repeat ((first | refine ⟨rfl, ?_⟩ | refine ⟨_, rfl, ?_⟩); conv => whnf)
    refine ⟨_, _, hi, by first | rfl | simp [noRoIf, noRoL, noRoV, noRoL_bys], ?_⟩
    conv => whnf
    repeat ((first | refine ifB_t ?_ | refine ⟨pureL_bys _, ?_⟩ | (refine Or.inl ⟨⟨rfl, ?_⟩, ?_⟩; (focus (first | rfl | (simp; done) | (rw [toksC_length]; omega)))) | refine ⟨rfl, ?_⟩ | refine ⟨_, rfl, ?_⟩); conv => whnf)
    refine ⟨_, _, hu, by first | rfl | simp [noRoIf, noRoL, noRoV, noRoL_bys], ?_⟩
    conv => whnf
    repeat ((first | refine ifB_t ?_ | refine ifB_f ?_ | refine ⟨rfl, ?_⟩); conv => whnf)
    rfl
   ·by_cases c4 : e.kind = 1
    ·rw [dt c4, df (show ¬ e.kind = 2 by omega)]
     by_cases c5 : e.val.length ≤ 40
     ·rw [dt c5]
      conv => whnf
      repeat ((first | refine ⟨rfl, ?_⟩ | refine ⟨_, rfl, ?_⟩); conv => whnf)
      refine ⟨_, _, hi, by first | rfl | simp [noRoIf, noRoL, noRoV, noRoL_bys], ?_⟩
      conv => whnf
      repeat ((first | refine ifB_t ?_ | refine ⟨pureL_bys _, ?_⟩ | (refine Or.inl ⟨⟨rfl, ?_⟩, ?_⟩; (focus (first | rfl | (simp; done) | (rw [toksC_length]; omega)))) | refine ⟨rfl, ?_⟩ | refine ⟨_, rfl, ?_⟩); conv => whnf)
      refine ⟨_, _, hu, by first | rfl | simp [noRoIf, noRoL, noRoV, noRoL_bys], ?_⟩
      conv => whnf
      repeat ((first | refine ifB_t ?_ | (refine ifB_pos (decide_eq_true (by first | omega | rfl | (dsimp only; omega))) ?_) | refine ⟨rfl, ?_⟩ | refine ⟨_, rfl, ?_⟩); conv => whnf)
      rfl
     ·rw [df c5]
      conv => whnf
      repeat ((first | refine ⟨rfl, ?_⟩ | refine ⟨_, rfl, ?_⟩); conv => whnf)
      refine ⟨_, _, hi, by first | rfl | simp [noRoIf, noRoL, noRoV, noRoL_bys], ?_⟩
      conv => whnf
      repeat ((first | refine ifB_t ?_ | refine ⟨pureL_bys _, ?_⟩ | (refine Or.inl ⟨⟨rfl, ?_⟩, ?_⟩; (focus (first | rfl | (simp; done) | (rw [toksC_length]; omega)))) | refine ⟨rfl, ?_⟩ | refine ⟨_, rfl, ?_⟩); conv => whnf)
      refine ⟨_, _, hu, by first | rfl | simp [noRoIf, noRoL, noRoV, noRoL_bys], ?_⟩
      conv => whnf
      repeat ((first | refine ifB_t ?_ | refine ifB_f ?_ | (refine ifB_neg (decide_eq_false (by first | omega | rfl | (dsimp only; omega))) ?_) | (refine ifB_pos (decide_eq_true (by first | omega | rfl | (dsimp only; omega))) ?_) | refine ⟨rfl, ?_⟩ | refine ⟨_, rfl, ?_⟩); conv => whnf)
      rfl
    ·rw [df c4]
     by_cases c6 : e.kind = 2
     ·rw [dt c6]
      by_cases c7 : e.val.length = 0
      ·rw [dt c7]
       conv => whnf
       repeat ((first | refine ⟨rfl, ?_⟩ | refine ⟨_, rfl, ?_⟩); conv => whnf)
       refine ⟨_, _, hi, by first | rfl | simp [noRoIf, noRoL, noRoV, noRoL_bys], ?_⟩
       conv => whnf
       repeat ((first | refine ifB_t ?_ | refine ⟨pureL_bys _, ?_⟩ | (refine Or.inl ⟨⟨rfl, ?_⟩, ?_⟩; (focus (first | rfl | (simp; done) | (rw [toksC_length]; omega)))) | refine ⟨rfl, ?_⟩ | refine ⟨_, rfl, ?_⟩); conv => whnf)
       refine ⟨_, _, hu, by first | rfl | simp [noRoIf, noRoL, noRoV, noRoL_bys], ?_⟩
       conv => whnf
       repeat ((first | refine ifB_t ?_ | refine ifB_f ?_ | (refine ifB_neg (decide_eq_false (by first | omega | rfl | (dsimp only; omega))) ?_) | (refine ifB_pos (decide_eq_true (by first | omega | rfl | (dsimp only; omega))) ?_) | refine ⟨_, rfl, ?_⟩); conv => whnf)
       exact ⟨dt (by omega), rfl⟩
      ·rw [df c7]
       conv => whnf
       repeat ((first | refine ⟨rfl, ?_⟩ | refine ⟨_, rfl, ?_⟩); conv => whnf)
       refine ⟨_, _, hi, by first | rfl | simp [noRoIf, noRoL, noRoV, noRoL_bys], ?_⟩
       conv => whnf
       repeat ((first | refine ifB_t ?_ | refine ⟨pureL_bys _, ?_⟩ | (refine Or.inl ⟨⟨rfl, ?_⟩, ?_⟩; (focus (first | rfl | (simp; done) | (rw [toksC_length]; omega)))) | refine ⟨rfl, ?_⟩ | refine ⟨_, rfl, ?_⟩); conv => whnf)
       refine ⟨_, _, hu, by first | rfl | simp [noRoIf, noRoL, noRoV, noRoL_bys], ?_⟩
       conv => whnf
       repeat ((first | refine ifB_t ?_ | refine ifB_f ?_ | (refine ifB_neg (decide_eq_false (by first | omega | rfl | (dsimp only; omega))) ?_) | (refine ifB_pos (decide_eq_true (by first | omega | rfl | (dsimp only; omega))) ?_) | refine ⟨_, rfl, ?_⟩); conv => whnf)
       exact ⟨df (by omega), rfl⟩
     ·rw [df c6]
      conv => whnf
      repeat ((first | refine ⟨rfl, ?_⟩ | refine ⟨_, rfl, ?_⟩); conv => whnf)
      refine ⟨_, _, hi, by first | rfl | simp [noRoIf, noRoL, noRoV, noRoL_bys], ?_⟩
      conv => whnf
      repeat ((first | refine ifB_t ?_ | refine ⟨pureL_bys _, ?_⟩ | (refine Or.inl ⟨⟨rfl, ?_⟩, ?_⟩; (focus (first | rfl | (simp; done) | (rw [toksC_length]; omega)))) | refine ⟨rfl, ?_⟩ | refine ⟨_, rfl, ?_⟩); conv => whnf)
      refine ⟨_, _, hu, by first | rfl | simp [noRoIf, noRoL, noRoV, noRoL_bys], ?_⟩
      conv => whnf
      repeat ((first | refine ifB_t ?_ | refine ifB_f ?_ | (refine ifB_neg (decide_eq_false (by first | omega | rfl | (dsimp only; omega))) ?_) | refine ⟨rfl, ?_⟩ | refine ⟨_, rfl, ?_⟩); conv => whnf)
      rfl
  ·rw [df c2]
   rw [df (show ¬ ((1 : Int) ≤ e.key.length ∧ (e.key.length : Int) ≤ 16) by omega)] at hi
   conv => whnf
   repeat ((first | refine ⟨rfl, ?_⟩ | refine ⟨_, rfl, ?_⟩); conv => whnf)
   refine ⟨_, _, hi, by first | rfl | simp [noRoIf, noRoL, noRoV, noRoL_bys], ?_⟩
   conv => whnf
   repeat ((first | refine ifB_f ?_ | refine ⟨rfl, ?_⟩); conv => whnf)
   rfl
 ·rw [df c1]
  rw [df (show ¬ ((1 : Int) ≤ e.key.length ∧ (e.key.length : Int) ≤ 16) by omega)] at hi
  conv => whnf
  repeat ((first | refine ⟨rfl, ?_⟩ | refine ⟨_, rfl, ?_⟩); conv => whnf)
  refine ⟨_, _, hi, by first | rfl | simp [noRoIf, noRoL, noRoV, noRoL_bys], ?_⟩
  conv => whnf
  repeat ((first | refine ifB_f ?_ | refine ⟨rfl, ?_⟩); conv => whnf)
  rfl
theorem refentry_ok (e : Ent) (he : EntS e) : ACall Tryd.prog 65 [.agg (entC e)] (.bool (entR e)) [] := by
 have ho := refop_ok e he
 have hi := in_ok e.seq 1 200
 unfold entR
 refine ACall.of_does TTok Tryd.func65 rfl Tryd.call65 rfl (wpc_sound (M := MF) (PL := PL0) (CU := noCut) TTok mixed _ _ _ ?_)
 by_cases c1 : 1 ≤ e.seq ∧ e.seq ≤ 200
 ·rw [dt c1.1, dt c1.2]
  rw [dt c1] at hi
  by_cases c3 : e.seq = 1
  ·rw [df (show ¬ e.seq ≠ 1 by omega)]
   by_cases c4 : e.prev = z32
   ·rw [dt c4]
    by_cases c5 : 0 ≤ e.stamp
    ·rw [dt c5]
     conv => whnf
     repeat ((first | refine ⟨rfl, ?_⟩ | refine ⟨_, rfl, ?_⟩); conv => whnf)
     refine ⟨_, _, hi, by first | rfl | simp [noRoIf, noRoL, noRoV, noRoL_bys], ?_⟩
     conv => whnf
     repeat ((first | refine ifB_t ?_ | refine ifB_f ?_ | (refine ifB_neg (decide_eq_false (by first | omega | rfl | (dsimp only; omega))) ?_) | refine ⟨_, rfl, ?_⟩); conv => whnf)
     refine ⟨e.prev, z32, ⟨rfl, c32_map he.prev.2, rfl, he.prev.2, rfl⟩, ?_⟩
     conv => whnf
     repeat ((first | refine ifB_t ?_ | refine ifB_f ?_ | (refine ifB_pos (decide_eq_true (by first | omega | rfl | (dsimp only; omega))) ?_) | refine ⟨entC_pure _, ?_⟩ | refine ⟨rfl, ?_⟩ | refine ⟨_, rfl, ?_⟩); conv => whnf)
     rw [dt c4]
     conv => whnf
     cases c6 : opR e <;> rw [c6] at ho
     ·refine ⟨_, _, ho, by first | rfl | simp [noRoIf, noRoL, noRoV, noRoL_bys], ?_⟩
      conv => whnf
      repeat ((first | refine ifB_t ?_ | refine ⟨rfl, ?_⟩); conv => whnf)
      rfl
     ·refine ⟨_, _, ho, by first | rfl | simp [noRoIf, noRoL, noRoV, noRoL_bys], ?_⟩
      conv => whnf
      repeat ((first | refine ifB_t ?_ | refine ⟨rfl, ?_⟩); conv => whnf)
      rfl
    ·rw [df c5]
     conv => whnf
     repeat ((first | refine ⟨rfl, ?_⟩ | refine ⟨_, rfl, ?_⟩); conv => whnf)
     refine ⟨_, _, hi, by first | rfl | simp [noRoIf, noRoL, noRoV, noRoL_bys], ?_⟩
     conv => whnf
     repeat ((first | refine ifB_t ?_ | refine ifB_f ?_ | (refine ifB_neg (decide_eq_false (by first | omega | rfl | (dsimp only; omega))) ?_) | refine ⟨_, rfl, ?_⟩); conv => whnf)
     refine ⟨e.prev, z32, ⟨rfl, c32_map he.prev.2, rfl, he.prev.2, rfl⟩, ?_⟩
     conv => whnf
     repeat ((first | refine ifB_t ?_ | refine ifB_f ?_ | (refine ifB_neg (decide_eq_false (by first | omega | rfl | (dsimp only; omega))) ?_) | (refine ifB_pos (decide_eq_true (by first | omega | rfl | (dsimp only; omega))) ?_) | refine ⟨rfl, ?_⟩ | refine ⟨_, rfl, ?_⟩); conv => whnf)
     rfl
   ·rw [df c4]
    conv => whnf
    repeat ((first | refine ⟨rfl, ?_⟩ | refine ⟨_, rfl, ?_⟩); conv => whnf)
    refine ⟨_, _, hi, by first | rfl | simp [noRoIf, noRoL, noRoV, noRoL_bys], ?_⟩
    conv => whnf
    repeat ((first | refine ifB_t ?_ | refine ifB_f ?_ | (refine ifB_neg (decide_eq_false (by first | omega | rfl | (dsimp only; omega))) ?_) | refine ⟨_, rfl, ?_⟩); conv => whnf)
    refine ⟨e.prev, z32, ⟨rfl, c32_map he.prev.2, rfl, he.prev.2, rfl⟩, ?_⟩
    conv => whnf
    repeat ((first | refine ifB_t ?_ | refine ifB_f ?_ | (refine ifB_neg (decide_eq_false (by first | omega | rfl | (dsimp only; omega))) ?_) | refine ⟨rfl, ?_⟩); conv => whnf)
    rfl
  ·rw [dt (show e.seq ≠ 1 from c3)]
   by_cases c5 : 0 ≤ e.stamp
   ·rw [dt c5]
    conv => whnf
    repeat ((first | refine ⟨rfl, ?_⟩ | refine ⟨_, rfl, ?_⟩); conv => whnf)
    refine ⟨_, _, hi, by first | rfl | simp [noRoIf, noRoL, noRoV, noRoL_bys], ?_⟩
    conv => whnf
    repeat ((first | refine ifB_t ?_ | (refine ifB_pos (decide_eq_true (by first | omega | rfl | (dsimp only; omega))) ?_) | refine ⟨entC_pure _, ?_⟩ | refine ⟨rfl, ?_⟩ | refine ⟨_, rfl, ?_⟩); conv => whnf)
    cases c6 : opR e <;> rw [c6] at ho
    ·refine ⟨_, _, ho, by first | rfl | simp [noRoIf, noRoL, noRoV, noRoL_bys], ?_⟩
     conv => whnf
     repeat ((first | refine ifB_t ?_ | refine ⟨rfl, ?_⟩); conv => whnf)
     rfl
    ·refine ⟨_, _, ho, by first | rfl | simp [noRoIf, noRoL, noRoV, noRoL_bys], ?_⟩
     conv => whnf
     repeat ((first | refine ifB_t ?_ | refine ⟨rfl, ?_⟩); conv => whnf)
     rfl
   ·rw [df c5]
    conv => whnf
    repeat ((first | refine ⟨rfl, ?_⟩ | refine ⟨_, rfl, ?_⟩); conv => whnf)
    refine ⟨_, _, hi, by first | rfl | simp [noRoIf, noRoL, noRoV, noRoL_bys], ?_⟩
    conv => whnf
    repeat ((first | refine ifB_t ?_ | refine ifB_f ?_ | (refine ifB_neg (decide_eq_false (by first | omega | rfl | (dsimp only; omega))) ?_) | (refine ifB_pos (decide_eq_true (by first | omega | rfl | (dsimp only; omega))) ?_) | refine ⟨rfl, ?_⟩ | refine ⟨_, rfl, ?_⟩); conv => whnf)
    rfl
 ·have : (decide (1 ≤ e.seq) && decide (e.seq ≤ 200)) = false := by
   rw [Bool.and_eq_false_iff]
   by_cases h : 1 ≤ e.seq
   ·exact .inr (df (fun k => c1 ⟨h, k⟩))
   ·exact .inl (df h)
  rw [this]
  rw [df c1] at hi
  conv => whnf
  repeat ((first | refine ⟨rfl, ?_⟩ | refine ⟨_, rfl, ?_⟩); conv => whnf)
  refine ⟨_, _, hi, by first | rfl | simp [noRoIf, noRoL, noRoV, noRoL_bys], ?_⟩
  conv => whnf
  repeat ((first | refine ifB_f ?_ | refine ⟨rfl, ?_⟩); conv => whnf)
  rfl
end
end Go.Proofs.YtbpdbajcmagomaaDoor.Abs
