/- Texts UT to WD, merged. -/
import Derived.Test.YtbpdbajcmagomaaDoorRows
import Derived.Test.YtbpdbajcmagomaaDoorProg
import Derived.Lib.LaidU8T
import Derived.PinnedBridge
import Derived.Test.YtbpdbajcmagomaaDoorU14
set_option linter.unusedVariables false
set_option linter.unusedSimpArgs false
namespace Go.Proofs.YtbpdbajcmagomaaDoor.Abs
open Go
section

open Go Go.Shelf Go.Lib
theorem first_eq : ∀ c : Fin 256, firstT c.val = utf8First.getD c.val 0 := by decide +kernel
theorem acc_eq : ∀ i : Fin 16, accLo i.val = utf8Ranges.getD (2 * i.val) 0 ∧ accHi i.val = utf8Ranges.getD (2 * i.val + 1) 0 := by decide +kernel
theorem tabOk_of {W : World} (h : Lib.Utf8Tabs 1 2 W) : TabOk (env0 W) := by
 obtain ⟨h1, h2⟩ := h
 have l1 : utf8First.length = 256 := by decide +kernel
 have l2 : utf8Ranges.length = 32 := by decide +kernel
 have s0 : 1 < W.heap.size := World.block_lt_of_cell? _ _ (h1 0 (by omega))
 have s1 : 2 < W.heap.size := World.block_lt_of_cell? _ _ (h2 0 (by omega)).1
 intro g k l hg
 unfold tabs at hg
 by_cases g0 : g = 1
 ·subst g0
  simp only [Nat.beq_refl, cond_true, Option.some.injEq, Prod.mk.injEq] at hg
  obtain ⟨rfl, rfl⟩ := hg
  refine ⟨s0, fun hv => hv, fun j x hx => ?_⟩
  have hj : j < 256 := by rw [← l1]; exact (List.getElem?_eq_some_iff.1 hx).1
  have := h1 j hj
  have e := first_eq ⟨j, hj⟩
  simp only at e
  rw [e, List.getD_eq_getElem?_getD, hx] at this
  exact this
 ·have hb : Nat.beq g 1 = false := by
   cases hh : Nat.beq g 1
   ·rfl
   ·exact absurd (Nat.eq_of_beq_eq_true hh) g0
  rw [hb, cond_false] at hg
  by_cases g1 : g = 2
  ·subst g1
   simp only [Nat.beq_refl, cond_true, Option.some.injEq, Prod.mk.injEq] at hg
   obtain ⟨rfl, rfl⟩ := hg
   refine ⟨s1, fun hv => hv, fun j x hx => ?_⟩
   have hj : j < 32 := by rw [← l2]; exact (List.getElem?_eq_some_iff.1 hx).1
   have e := acc_eq ⟨j / 2, by omega⟩
   obtain ⟨q1, q2⟩ := h2 (j / 2) (by omega)
   simp only at e
   rw [e.1] at q1
   rw [e.2] at q2
   rcases Nat.mod_two_eq_zero_or_one j with hm | hm
   ·have ej : 2 * (j / 2) = j := by omega
    rw [ej, List.getD_eq_getElem?_getD, hx] at q1
    exact q1
   ·have ej : 2 * (j / 2) + 1 = j := by omega
    rw [ej, List.getD_eq_getElem?_getD, hx] at q2
    exact q2
  ·have hb : Nat.beq g 2 = false := by
    cases hh : Nat.beq g 2
    ·rfl
    ·exact absurd (Nat.eq_of_beq_eq_true hh) g1
   rw [hb, cond_false] at hg
   cases hg
def utRen : Ren := ⟨fun x => x, fun n => if n = 5 then 5 else if n = 119 then 155 else if n = 138 then 157 else 158, fun n => if n = 3 then 1 else 2⟩
theorem tabOk_of_laid {W : World} (hL : laidMet Tryd.prog [("unicode/utf8.acceptRanges", Rows.laid_unicode_utf8_acceptRanges), ("unicode/utf8.first", Rows.laid_unicode_utf8_first)] W) : TabOk (env0 W) := by
 have e1 : Rows.laid_unicode_utf8_first = Lib.firstData := Pinned.utf8First_eq
 have e2 : (Rows.laid_unicode_utf8_acceptRanges : DataW Unit) = Lib.acceptData := by kernel_rfl
 rw [e1, e2] at hL
 exact tabOk_of (utf8Tabs_of_readsT (P := Tryd.prog) (ρ := utRen) ⟨by kernel_rfl, by kernel_rfl, by kernel_rfl, by kernel_rfl⟩ ⟨by kernel_rfl, by kernel_rfl, by kernel_rfl, by kernel_rfl, by kernel_rfl, by kernel_rfl, by kernel_rfl⟩
  (Lib.laidMet.reads hL (.tail _ (.head _))) (Lib.laidMet.reads hL (.head _)))
end
section

def hW (shut : Bool) (i : Nat) : Hd := if (shut && decide (i % 2 = 0)) = true then ⟨((i : Int) + 1) :: List.replicate 31 0, 0, z32, true⟩ else ⟨((i : Int) + 1) :: List.replicate 31 0, 1 + (i : Int), 9 :: List.replicate 31 0, false⟩
def hsW (shut : Bool) (n : Nat) : List Hd := (List.range n).map (hW shut)
theorem hW_au (shut : Bool) (i : Nat) : (hW shut i).au = ((i : Int) + 1) :: List.replicate 31 0 := by
 unfold hW; split <;> rfl
theorem rep_byt (k : Nat) : Byt (List.replicate k 0) := fun x hx => by simp only [List.mem_replicate] at hx; omega
theorem cons_byt {a : Int} {l : List Int} (h : 0 ≤ a ∧ a < 256) (hl : Byt l) : Byt (a :: l) := fun x hx => by
 rcases List.mem_cons.1 hx with rfl | hx
 ·exact h
 ·exact hl x hx
theorem hW_S (shut : Bool) {i : Nat} (h : i < 10) : HdS (hW shut i) := by
 have h1 : Byt (((i : Int) + 1) :: List.replicate 31 0) := cons_byt (by omega) (rep_byt 31)
 unfold hW
 split
 ·exact { au := ⟨h1, rfl⟩, len := by dsimp only; omega, id := ⟨rep_byt 32, rfl⟩ }
 ·exact { au := ⟨h1, rfl⟩, len := by dsimp only; omega, id := ⟨cons_byt (by omega) (rep_byt 31), rfl⟩ }
theorem hW_R (shut : Bool) {i : Nat} (h : i < 10) : hdR (hW shut i) = true := by
 have h9 : ¬ (9 :: List.replicate 31 (0 : Int)) = z32 := by decide
 unfold hW
 split
 ·simp [hdR]
 ·simp only [hdR, Bool.and_eq_true, Bool.or_eq_true, decide_eq_true_eq]
  refine ⟨⟨⟨by omega, by omega⟩, by simp⟩, by left; omega⟩
theorem hsW_len (shut : Bool) (n : Nat) : (hsW shut n).length = n := by simp [hsW]
theorem hsW_get (shut : Bool) {n i : Nat} (h : i < n) : (hsW shut n)[i]'(by rw [hsW_len]; exact h) = hW shut i := by simp [hsW]
theorem hsW_getD (shut : Bool) {n i : Nat} (h : i < n) : (hsW shut n).getD i hd0 = hW shut i := by
 rw [List.getD_eq_getElem?_getD, List.getElem?_eq_getElem (by rw [hsW_len]; exact h), Option.getD_some, hsW_get shut h]
theorem hsW_succ (shut : Bool) (n : Nat) : hsW shut (n + 1) = hsW shut n ++ [hW shut n] := by simp [hsW, List.range_succ]
theorem hsW_R (shut : Bool) {n : Nat} (h : n ≤ 8) : headsR (hsW shut n) = true := by
 unfold headsR
 rw [hsW_len, Bool.and_eq_true, List.all_eq_true]
 refine ⟨by simp; omega, fun i hi => ?_⟩
 have hi : i < n := by simpa using hi
 unfold hdAt
 rw [hsW_getD shut hi, hW_R shut (by omega), Bool.and_true, Bool.or_eq_true]
 rcases Nat.eq_zero_or_pos i with k | k
 ·left; simpa using k
 ·right
  rw [hsW_getD shut (by omega), hW_au, hW_au]
  simp only [bytesLt, Bool.or_eq_true, decide_eq_true_eq]
  left; omega
def swp (l : List Hd) (i : Nat) : List Hd := (l.set i (l.getD (i + 1) hd0)).set (i + 1) (l.getD i hd0)
theorem swp_no (shut : Bool) {n i : Nat} (h : i + 1 < n) : headsR (swp (hsW shut n) i) = false := by
 have hl : (swp (hsW shut n) i).length = n := by simp [swp, hsW_len]
 have g0 : (swp (hsW shut n) i).getD i hd0 = hW shut (i + 1) := by
  unfold swp
  rw [hsW_getD shut h, hsW_getD shut (by omega), List.getD_eq_getElem?_getD, List.getElem?_set_ne (by omega), List.getElem?_set_self (by rw [hsW_len]; omega)]
  rfl
 have g1 : (swp (hsW shut n) i).getD (i + 1) hd0 = hW shut i := by
  unfold swp
  rw [hsW_getD shut h, hsW_getD shut (by omega), List.getD_eq_getElem?_getD, List.getElem?_set_self (by rw [List.length_set, hsW_len]; omega)]
  rfl
 refine headsR_no (c := i + 1) (by rw [hl]; exact h) ?_
 unfold hdAt
 rw [Nat.add_sub_cancel, g0, g1, hW_au, hW_au]
 have : bytesLt ((((i + 1 : Nat) : Int) + 1) :: List.replicate 31 0) (((i : Int) + 1) :: List.replicate 31 0) = false := by
  simp only [bytesLt, Bool.or_eq_false_iff, decide_eq_false_iff_not, Bool.and_eq_false_iff]
  refine ⟨by omega, .inl ?_⟩
  simp
  omega
 rw [this]
 simp
def mH (hs : List Hd) : Msg := ⟨1, 1, 0, hs, [], []⟩
theorem mH_R (hs : List Hd) : msgR (mH hs) = headsR hs := by
 unfold msgR mH whoR
 simp
end
section

def wpAnyG (P : Program) (ops : Array Oper) (Q : Exit → Act → World → Prop) (S : Array Bool → World → Prop) : Nat → Array Bool → Act → World → Prop
 | 0, listed, a, w => Region.ready .any ops listed = [] ∧ Q .normal a w
 | fuel + 1, listed, a, w =>
  (Region.ready .any ops listed = [] → Q .normal a w) ∧
  ∀ i ∈ Region.ready .any ops listed, wpOp P ops Q i (fun a' w' => S (listed.setIfInBounds i true) w' ∧ wpAnyG P ops Q S fuel (listed.setIfInBounds i true) a' w') a w
theorem wpAny_of_G {P : Program} {ops : Array Oper} {Q : Exit → Act → World → Prop} {S : Array Bool → World → Prop} :
  ∀ (fuel : Nat) (listed : Array Bool) (a : Act) (w : World), wpAnyG P ops Q S fuel listed a w → wpAny P .any ops Q fuel listed a w
 | 0, _, _, _, h => h
 | fuel + 1, _, _, _, h => ⟨h.1, fun i hi => wpOp_mono (fun a' w' h' => wpAny_of_G fuel _ a' w' h'.2) (h.2 i hi)⟩
def Sup (l l' : Array Bool) : Prop := ∀ j, l.getD j true = true → l'.getD j true = true
theorem Sup.refl (l : Array Bool) : Sup l l := fun _ h => h
theorem Sup.set (l : Array Bool) (i : Nat) : Sup l (l.setIfInBounds i true) := fun j h => by
 by_cases hij : i = j
 ·subst hij
  simp only [Array.getD_eq_getD_getElem?, Array.getElem?_setIfInBounds, if_true]
  by_cases hl : i < l.size <;> simp [hl]
 ·rw [getD_set_ne true hij]; exact h
theorem getD_set_eq (l : Array Bool) (i : Nat) : (l.setIfInBounds i true).getD i true = true := by
 simp only [Array.getD_eq_getD_getElem?, Array.getElem?_setIfInBounds, if_true]
 by_cases hl : i < l.size <;> simp [hl]
theorem Sup.trans {a b c : Array Bool} (h : Sup a b) (k : Sup b c) : Sup a c := fun j hj => k j (h j hj)
theorem wpAnyG_mono {P : Program} {ops : Array Oper} {Q : Exit → Act → World → Prop} {S S' : Array Bool → World → Prop} :
  ∀ (fuel : Nat) (listed : Array Bool) (a : Act) (w : World), (∀ l w, Sup listed l → S l w → S' l w) → wpAnyG P ops Q S fuel listed a w → wpAnyG P ops Q S' fuel listed a w
 | 0, _, _, _, _, h => h
 | fuel + 1, listed, _, _, hS, h => ⟨h.1, fun i hi => wpOp_mono (fun a' w' h' => ⟨hS _ _ (Sup.set _ _) h'.1, wpAnyG_mono fuel _ a' w' (fun l w hl hs => hS l w ((Sup.set _ _).trans hl) hs) h'.2⟩) (h.2 i hi)⟩
theorem wpAnyG_first {P : Program} {ops : Array Oper} {Q : Exit → Act → World → Prop} {S : Array Bool → World → Prop} {Inv : Array Bool → Prop} {i : Nat} {oi : Oper} {v : Value} (hi : ops[i]? = some oi)
  (hsel : ∀ (j : Nat) (o : Oper) cs b, ops[j]? = some o → o.op ≠ .select cs b) (hQ : ∀ c a w, Q (.panic c) (a.put oi.dst v) w → Q (.panic c) a w)
  (hset : ∀ l w, S (l.setIfInBounds i true) w ↔ S l w) (hinv : ∀ l j, Inv l → j ∈ Region.ready .any ops l → Inv (l.setIfInBounds j true)) :
  ∀ (fuel : Nat) (listed : Array Bool) (a : Act) (w : World),
   (∀ j oj, ops[j]? = some oj → j ≠ i → listed.getD j true = false → (∀ e ∈ oj.after, Region.binds .any e = true → e.on ≠ i) → oi.apart ops oj = true) →
   i ∈ Region.ready .any ops listed → YieldsIf P ops (fun w => ∃ l, l.getD i true = false ∧ Inv l ∧ S l w) oi v a → Inv listed → S listed w →
   wpAnyG P ops Q S fuel (listed.setIfInBounds i true) (a.put oi.dst v) w → wpAnyG P ops Q S (fuel + 1) listed a w := by
 intro fuel
 induction fuel with
 | zero =>
  intro listed a w _ hr hy hI hS H
  refine ⟨fun h => (by rw [h] at hr; cases hr), fun j hj => ?_⟩
  by_cases hji : j = i
  ·subst hji; exact hy.wpOp hi ⟨listed, (mem_ready.1 hr).1, hI, hS⟩ ⟨(hset _ _).2 hS, H⟩
  ·have := ready_mono hj hji
   rw [H.1] at this
   cases this
 | succ fuel ih =>
  intro listed a w hfree hr hy hI hS H
  refine ⟨fun h => (by rw [h] at hr; cases hr), fun j hj => ?_⟩
  by_cases hji : j = i
  ·subst hji; exact hy.wpOp hi ⟨listed, (mem_ready.1 hr).1, hI, hS⟩ ⟨(hset _ _).2 hS, H⟩
  ·have h1 := H.2 j (ready_mono hj hji)
   obtain ⟨hjun, oj, hoj, hall⟩ := mem_ready.1 hj
   have hnot : ∀ e ∈ oj.after, Region.binds .any e = true → e.on ≠ i := fun e he hb heq => by
    have h1 := hall e he hb
    have h0 := (mem_ready.1 hr).1
    rw [heq] at h1
    rcases Nat.lt_or_ge i listed.size with h' | h'
    ·simp [h'] at h0 h1; rw [h0] at h1; cases h1
    ·simp [Array.getElem?_eq_none h'] at h1
   have h2 := wpOp_putIf hoj (hfree j oj hoj hji hjun hnot) (fun cs b => hsel i oi cs b hi) (fun cs b => hsel j oj cs b hoj) hQ hy h1
   have hfree' : ∀ k ok, ops[k]? = some ok → k ≠ i → (listed.setIfInBounds j true).getD k true = false →
     (∀ e ∈ ok.after, Region.binds .any e = true → e.on ≠ i) → oi.apart ops ok = true := fun k ok hk hki hun hno => by
    refine hfree k ok hk hki ?_ hno
    by_cases hjk : j = k
    ·subst hjk; exact hjun
    ·rw [getD_set_ne true hjk] at hun; exact hun
   refine wpOp_mono (fun a' w' h3 => ?_) h2
   have hS' : S (listed.setIfInBounds j true) w' := by
    have := h3.2.1
    rw [Array.setIfInBounds_comm _ _ (Ne.symm hji)] at this
    exact (hset _ _).1 this
   refine ⟨hS', ih (listed.setIfInBounds j true) a' w' hfree' (ready_mono hr (Ne.symm hji)) h3.1 (hinv _ _ hI hj) hS' ?_⟩
   rw [Array.setIfInBounds_comm _ _ hji]
   exact h3.2.2
theorem wpAnyG_all {P : Program} {ops : Array Oper} {Q : Exit → Act → World → Prop} {S : Array Bool → World → Prop} {rs : List Nat} {fuel : Nat} {listed : Array Bool} {a : Act} {w : World} (hr : Region.ready .any ops listed = rs) (hne : rs ≠ [])
  (h : ∀ i ∈ rs, wpOp P ops Q i (fun a' w' => S (listed.setIfInBounds i true) w' ∧ wpAnyG P ops Q S fuel (listed.setIfInBounds i true) a' w') a w) : wpAnyG P ops Q S (fuel + 1) listed a w :=
 ⟨fun h0 => absurd (hr ▸ h0) hne, hr ▸ h⟩
theorem wpAnyG_done {P : Program} {ops : Array Oper} {Q : Exit → Act → World → Prop} {S : Array Bool → World → Prop} {listed : Array Bool} {a : Act} {w : World} (hr : Region.ready .any ops listed = []) (h : Q .normal a w) :
  ∀ fuel, wpAnyG P ops Q S fuel listed a w
 | 0 => ⟨hr, h⟩
 | _ + 1 => ⟨fun _ => h, by rw [hr]; simp⟩
def quietM : List Mode → Bool
 | [] => true
 | .rd :: r => quietM r
 | .bw :: r => quietM r
 | _ => false
theorem pass_quiet {H : Heap} : ∀ (ms : List Mode) (xs : List AV) (K : List AV → List Nat → List Nat → Prop), quietM ms = true → passAll H ms xs K → ∃ ys ids bs, K ys ids bs ∧ PassedL H xs ys ids bs ∧ pureL ys = true
 | [], [], K, _, h => by unfold passAll at h; exact ⟨_, _, _, h, .nil, rfl⟩
 | [], _ :: _, K, _, h => by unfold passAll at h; exact h.elim
 | .rd :: ms, x :: xs, K, hq, h => by
  unfold passAll at h
  have hq : quietM ms = true := hq
  unfold passOne at h
  cases x <;> simp only at h
  case nil =>
   obtain ⟨ys, is, bs, h2, p2, p3⟩ := pass_quiet ms xs _ hq h
   exact ⟨_, _, _, h2, .cons passed_nil p2, by simp [pureL, pureV, p3]⟩
  case ro len cs =>
   obtain ⟨ys, is, bs, h2, p2, p3⟩ := pass_quiet ms xs _ hq h.2
   exact ⟨_, _, _, h2, .cons (passed_pure (by simpa [pureV] using h.1)) p2, by simp [pureL, pureV, p3, h.1]⟩
  case agg cs =>
   obtain ⟨ys, is, bs, h2, p2, p3⟩ := pass_quiet ms xs _ hq h.2
   exact ⟨_, _, _, h2, .cons (passed_pure (by simpa [pureV] using h.1)) p2, by simp [pureL, pureV, p3, h.1]⟩
  all_goals
   obtain ⟨ys, is, bs, h2, p2, p3⟩ := pass_quiet ms xs _ hq h.2
   exact ⟨_, _, _, h2, .cons (passed_pure h.1) p2, by simp only [pureL, p3, Bool.and_true]; exact h.1⟩
 | .bw :: ms, x :: xs, K, hq, h => by
  unfold passAll at h
  have hq : quietM ms = true := hq
  unfold passOne at h
  cases x <;> simp only at h
  case nil =>
   obtain ⟨ys, is, bs, h2, p2, p3⟩ := pass_quiet ms xs _ hq h
   exact ⟨_, _, _, h2, .cons passed_nil p2, by simp [pureL, pureV, p3]⟩
  case ro len cs =>
   obtain ⟨ys, is, bs, h2, p2, p3⟩ := pass_quiet ms xs _ hq h.2
   exact ⟨_, _, _, h2, .cons (passed_pure (by simpa [pureV] using h.1)) p2, by simp [pureL, pureV, p3, h.1]⟩
  case sl id off len esz full =>
   split at h
   ·rename_i cs hcs
    obtain ⟨hp, h⟩ := h
    rcases h with ⟨⟨rfl, hl⟩, hk⟩ | hk
    ·obtain ⟨ys, is, bs, h2, p2, p3⟩ := pass_quiet ms xs _ hq hk
     exact ⟨_, _, _, h2, .cons (.bor hcs (by rw [List.drop_zero, List.take_of_length_le (by omega)]) hp) p2, by simp [pureL, pureV, p3, hp]⟩
    ·obtain ⟨ys, is, bs, h2, p2, p3⟩ := pass_quiet ms xs _ hq hk
     exact ⟨_, _, _, h2, .cons (.bor hcs rfl (pureL_take (pureL_drop hp off) _)) p2, by simp only [pureL, pureV, p3, Bool.and_true]; exact pureL_take (pureL_drop hp off) _⟩
   ·exact h.elim
 | .mv _ :: _, _, _, hq, _ => by cases hq
 | .rf _ :: _, _, _, hq, _ => by cases hq
 | .hd :: _, _, _, hq, _ => by cases hq
 | .cmp :: _, _, _, hq, _ => by cases hq
 | .nl :: _, _, _, hq, _ => by cases hq
 | .ag :: _, _, _, hq, _ => by cases hq
 | .rd :: _, [], K, _, h => by unfold passAll at h; exact h.elim
 | .bw :: _, [], K, _, h => by unfold passAll at h; exact h.elim
def Still (w w' : World) : Prop := ∀ b, b < w.heap.size → w'.heap[b]? = w.heap[b]?
theorem ACall.toStill {P : Program} {f : FuncId} {args : List AV} {r : AV} {outs : List AV} (hp : pureL args = true) (h : ACall P f args r outs) : ACallJ P f args r outs (fun _ _ => True) (fun _ w w' => Still w w') := by
 intro Z E vals X h1 h2 h3 h4 _
 obtain ⟨_, rfl⟩ := unborderL_pure args vals X hp h2
 refine (h.2 Z E vals [] h1 h2 h3 h4).mono ?_
 rintro e w' ⟨v, E1, Xr, k1, k2, k3, k4, k5, k6, k7, k8⟩
 exact ⟨v, E1, Xr, k1, k2, k3, k4, k5, k6, k7, k8, fun b hb => k4.same b hb (List.not_mem_nil)⟩
theorem callQ_quiet {P : Program} {Z : Nat → Prop} {E : Env} {H : Heap} {nx : Nat} (hr : HeapRep Z E H nx) {M : List Mode} {f : FuncId} {xs : List AV} {vals : List Value} {K : AV → Heap → Nat → Prop} (hq : quietM M = true)
  (hx : RepL E xs vals) (h : callQ P M f H nx xs K) :
  Calls P f vals.toArray E.w fun e w' => ∃ x H' nx' E' v, e = .returned v ∧ K x H' nx' ∧ E'.w = w' ∧ After Z E H x H' nx' v E' ∧ Still E.w w' := by
 have h : callP P M f H nx xs K := by
  unfold callQ at h
  split at h
  ·cases hq
  ·exact h
 unfold callP at h
 obtain ⟨ys, ids, bs, ⟨hnd, r, outs, hcall, hnoro, hk⟩, hp, hy⟩ := pass_quiet M xs _ hq h
 exact callJ_core hr hx hnd (hcall.toStill hy) trivial hnoro hk hp
def quietOp (M : FuncId → List Mode) : Op → Bool
 | .call c => match c.callee with
  | .value (.func g) => quietM (M g)
  | _ => false
 | _ => false
theorem quiet_notCmp {ms : List Mode} (h : quietM ms = true) : isCmp ms = false := by
 cases ms with
 | nil => rfl
 | cons m r => cases m <;> first | rfl | cases h
def Gq (q : List Nat) (E : Env) (l : Array Bool) (w : World) : Prop := ∃ E', E'.w = w ∧ Later E E' ∧ ((∀ j ∈ q, l.getD j true = false) → Still E.w w)
mutual
def planG (T : Types) (M : FuncId → List Mode) (q ls : List Nat) (ops : Array Oper) : Nat → Array Bool → Plan → Bool
 | fuel, listed, .done => (Region.ready .any ops listed).isEmpty
 | 0, _, .take _ _ => false
 | fuel + 1, listed, .take i p => match ops[i]? with
  | some o => (Region.ready .any ops listed).contains i && Region.free .any ops listed i && !q.contains i && (pureOp T o.op || (isLoad o.op && ls.contains i)) && planG T M q ls ops fuel (listed.setIfInBounds i true) p
  | none => false
 | 0, _, .all _ => false
 | fuel + 1, listed, .all ps => !ps.isEmpty && (Region.ready .any ops listed == ps.map (·.1)) && plansG T M q ls ops fuel listed ps
def plansG (T : Types) (M : FuncId → List Mode) (q ls : List Nat) (ops : Array Oper) : Nat → Array Bool → List (Nat × Plan) → Bool
 | _, _, [] => true
 | fuel, listed, (i, p) :: r => (q.contains i || (match ops[i]? with
  | some o => quietOp M o.op || isLoad o.op
  | none => false)) && planG T M q ls ops fuel (listed.setIfInBounds i true) p && plansG T M q ls ops fuel listed r
end
def behind (ops : Array Oper) : Nat → Nat → Nat → Bool
 | 0, j, i => Nat.beq j i
 | f + 1, j, i => Nat.beq j i || (match ops[j]? with
  | some o => o.after.toList.any fun e => Region.binds .any e && behind ops f e.on i
  | none => false)
def waitsG (q ls : List Nat) (ops : Array Oper) : Bool := q.all fun j => ls.all fun i => behind ops 3 j i
def InvG (ops : Array Oper) (l : Array Bool) : Prop := ∀ j o, ops[j]? = some o → l.getD j true = true → ∀ e ∈ o.after, Region.binds .any e = true → l.getD e.on true = true
theorem behind_ok {ops : Array Oper} {l : Array Bool} (hI : InvG ops l) : ∀ (f j i : Nat), behind ops f j i = true → l.getD j true = true → l.getD i true = true
 | 0, j, i, h, hl => by
  unfold behind at h
  rw [← Nat.eq_of_beq_eq_true h]; exact hl
 | f + 1, j, i, h, hl => by
  unfold behind at h
  rw [Bool.or_eq_true] at h
  rcases h with h | h
  ·rw [← Nat.eq_of_beq_eq_true h]; exact hl
  ·split at h
   ·rename_i o ho
    obtain ⟨e, he, hb⟩ := List.any_eq_true.1 h
    rw [Bool.and_eq_true] at hb
    exact behind_ok hI f e.on i hb.2 (hI j o ho hl e (Array.mem_toList_iff.1 he) hb.1)
   ·cases h
theorem inv_step {ops : Array Oper} (l : Array Bool) (j : Nat) (hI : InvG ops l) (hj : j ∈ Region.ready .any ops l) : InvG ops (l.setIfInBounds j true) := by
 intro k o ho hl e he hb
 by_cases hjk : j = k
 ·subst hjk
  obtain ⟨h0, o', ho', hall⟩ := mem_ready.1 hj
  rw [ho] at ho'
  cases ho'
  have := hall e he hb
  refine Sup.set l j e.on ?_
  rcases Nat.lt_or_ge e.on l.size with h' | h'
  ·simpa [h'] using this
  ·simp [Array.getElem?_eq_none h'] at this
 ·rw [getD_set_ne true hjk] at hl
  exact Sup.set l j e.on (hI k o ho hl e he hb)
theorem Gq.set {q : List Nat} {E : Env} {i : Nat} (hq : q.contains i = false) (l : Array Bool) (w : World) : Gq q E (l.setIfInBounds i true) w ↔ Gq q E l w := by
 have e : (∀ j ∈ q, (l.setIfInBounds i true).getD j true = false) ↔ ∀ j ∈ q, l.getD j true = false := by
  refine forall_congr' fun j => forall_congr' fun hj => ?_
  rw [getD_set_ne true (fun h => by subst h; rw [List.contains_eq_mem] at hq; simp [hj] at hq)]
 unfold Gq
 rw [e]
theorem Gq.here (q : List Nat) (E : Env) (l : Array Bool) : Gq q E l E.w := ⟨E, rfl, Later.refl E, fun _ b _ => rfl⟩
theorem Still.trans {a b c : World} (h : Still a b) (hl : a.heap.size ≤ b.heap.size) (k : Still b c) : Still a c := fun x hx => (k x (by omega)).trans (h x hx)
theorem loadP_lt {P : Program} {T : Types} (hT : TOK P T) {Z : Nat → Prop} {E : Env} {H : Heap} {nx : Nat} (hr : HeapRep Z E H nx) {t : TypeId} {A : AV} {va : Value} {K : AV → Prop}
  (ha : RepV E A va) (h : loadP T H t A K) : ∃ x v, K x ∧ RepV E x v ∧ ((∃ b, b < E.w.heap.size ∧ ∀ w', w'.heap[b]? = E.w.heap[b]? → (Instr.loadAt t va).run P w' = .ok v w') ∨ ∀ w', (Instr.loadAt t va).run P w' = .ok v w') := by
 unfold loadP at h
 split at h
 ·rename_i id off
  simp only [RepV] at ha
  obtain ⟨n, hn, rfl⟩ := ha
  split at h
  ·rename_i cs hcs
   have hm : ∀ (j : Nat) x, (cs.drop off)[j]? = some x → ∃ u, E.w.cell? ⟨n, off + j, none⟩ = some u ∧ RepV E x u := fun j x hx => blk_cells hr hcs hn (off + j) x (by simpa using hx)
   obtain ⟨x, v, h1, h2, h3⟩ := getP_sound (P := P) hT (b := n) (off := off) (E := E) hm h
   exact ⟨x, v, h1, h3, .inl ⟨n, hr.old id n hn, fun w' hs => by simp [Instr.loadAt, Instr.sureAddr, load_cong hT hm h h2 hs]⟩⟩
  ·exact h.elim
 ·rename_i cs
  simp only [RepV] at ha
  obtain ⟨b, off, rfl, hc⟩ := ha
  have e0 : ∀ ds : List AV, ds = [] → getP T t ds K → ∃ x v, K x ∧ RepV E x v ∧ ∀ w', (Instr.loadAt t (.pointer (some ⟨b, off, none⟩))).run P w' = .ok v w' := by
   rintro ds rfl h
   have h' := h
   have hy : getP T t [] (fun x => x = .agg []) ∧ K (.agg []) := by
    unfold getP at h ⊢
    split at h
    ·rename_i i hi
     cases ha : i.d.agg
     case true =>
      simp only [ha] at h ⊢
      obtain ⟨r, hr, h⟩ := h
      obtain ⟨hl, rfl⟩ := takeN_spec _ _ _ hr
      simp only [List.take_nil] at h hr
      exact ⟨⟨_, hr, rfl⟩, h⟩
     case false =>
      simp only [ha] at h
      obtain ⟨x, hx, h⟩ := h
      simp at hx
    ·exact h.elim
   refine ⟨.agg [], .agg #[], hy.2, by simp [RepV, RepL], fun w' => ?_⟩
   have hm : ∀ (j : Nat) x, ([] : List AV)[j]? = some x → ∃ u, w'.cell? ⟨b, off + j, none⟩ = some u ∧ RepV { E with w := w' } x u := fun j x hx => by simp at hx
   obtain ⟨x, v, rfl, h2, h3⟩ := getP_sound (P := P) hT (b := b) (off := off) (E := { E with w := w' }) hm hy.1
   simp only [RepV, RepL] at h3
   obtain ⟨vs, rfl, h3⟩ := h3
   have : vs = #[] := by cases vs; simp_all
   subst this
   simp [Instr.loadAt, Instr.sureAddr, h2]
  rcases hc with rfl | ⟨hV, hm⟩
  ·obtain ⟨x, v, h1, h2, h3⟩ := e0 [] rfl h
   exact ⟨x, v, h1, h2, .inr h3⟩
  ·cases cs with
   | nil =>
    obtain ⟨x, v, h1, h2, h3⟩ := e0 [] rfl h
    exact ⟨x, v, h1, h2, .inr h3⟩
   | cons c cs =>
    have hm' := repM_get (c :: cs) b off hm
    obtain ⟨x, v, h1, h2, h3⟩ := getP_sound (P := P) hT (b := b) (off := off) (E := E) hm' h
    obtain ⟨u, hu, _⟩ := hm' 0 c rfl
    exact ⟨x, v, h1, h3, .inl ⟨b, World.block_lt_of_cell? _ _ hu, fun w' hs => by simp [Instr.loadAt, Instr.sureAddr, load_cong hT hm' h h2 hs]⟩⟩
 ·exact h.elim
theorem yieldsG_of {P : Program} {T : Types} (hT : TOK P T) {M : FuncId → List Mode} {q ls : List Nat} {ops : Array Oper} (hwt : waitsG q ls ops = true) {Z : Nat → Prop} {E : Env} {st : St} {a : Act} (S : Sim Z E st a) {i : Nat} {o : Oper} {K : St → Prop}
  (hw : Region.wanted o (yielded ops a.tmps) = true) (hk : pureOp T o.op = true ∨ (isLoad o.op = true ∧ ls.contains i = true)) (h : runP P T M o st K) :
  ∃ v st', YieldsIf P ops (fun w => ∃ l, l.getD i true = false ∧ InvG ops l ∧ Gq q E l w) o v a ∧ K st' ∧ Sim Z E st' (a.put o.dst v) := by
 rw [runP_eq] at h
 rcases hk with hp | ⟨hl, hin⟩
 ·obtain ⟨y, v, h1, h2, h3⟩ := opP_yields hT S hp h
  obtain ⟨st', k1, k2⟩ := after_sim S (After.pure S.heap h2) h1
  exact ⟨v, st', .inl ⟨hw, fun w _ => h3 w⟩, k1, k2⟩
 ·unfold isLoad at hl
  split at hl
  ·rename_i t A ho
   rw [ho] at h
   simp only [opP, force_eq] at h
   obtain ⟨y, v, h1, h2, h3⟩ := loadP_lt (P := P) hT S.heap (rep_evalO S A) h
   obtain ⟨st', k1, k2⟩ := after_sim S (After.pure S.heap h2) h1
   refine ⟨v, st', .inl ⟨hw, fun w hs => ?_⟩, k1, k2⟩
   obtain ⟨l, hli, hI, E', rfl, L, hx⟩ := hs
   simp only [execOp, ho]
   refine vrun ?_
   rcases h3 with ⟨b, hlt, h3⟩ | h3
   ·refine h3 _ (hx (fun j hj => ?_) b hlt)
    cases hc : l.getD j true with
    | false => rfl
    | true =>
     have := behind_ok hI 3 j i (List.all_eq_true.1 (List.all_eq_true.1 hwt j hj) i (by simpa [List.contains_eq_mem] using hin)) hc
     rw [hli] at this
     cases this
   ·exact h3 _
  ·cases hl
mutual
theorem planG_sound {P : Program} {T : Types} (hT : TOK P T) {M : FuncId → List Mode} {q ls : List Nat} {ops : Array Oper} (hns : Region.noSelect ops = true) (hwt : waitsG q ls ops = true) {Z : Nat → Prop} {E : Env} {H : Heap} {nx : Nat} (h0 : HeapRep Z E H nx) {K : St → Prop} :
  ∀ (p : Plan) (fuel : Nat) (listed : Array Bool) (st : St) (E1 : Env) (a : Act), Sim Z E1 st a → Chain E (Wr E.ρ H) E1 → InvG ops listed → planG T M q ls ops fuel listed p = true → planP P T M true ops p st K →
   wpAnyG P ops (RegPost Z E H K) (Gq q E1) fuel listed a E1.w
 | .done, fuel, listed, st, E1, a, S, c, hI, hok, h => by
  unfold planG at hok
  unfold planP at h
  exact wpAnyG_done (List.isEmpty_iff.1 hok) ⟨st, E1, rfl, h, S, rfl, c⟩ fuel
 | .take i p, 0, listed, st, E1, a, S, c, hI, hok, h => by simp [planG] at hok
 | .take i p, fuel + 1, listed, st, E1, a, S, c, hI, hok, h => by
  unfold planG at hok
  unfold planP at h
  split at hok
  case h_2 => cases hok
  rename_i o ho
  rw [ho] at h
  dsimp only at h
  simp only [Bool.and_eq_true, Bool.or_eq_true, Bool.not_eq_true'] at hok
  obtain ⟨⟨⟨⟨hr, hf⟩, hqi⟩, hk⟩, hok⟩ := hok
  have h : stepP P T M ops o st fun st' => planP P T M true ops p st' K := by simpa using h
  obtain ⟨st1, S1, e1, e2, hh⟩ := step_cases S h
  have hQ : ∀ (v : Value) c a w, RegPost Z E H K (.panic c) (Act.put a o.dst v) w → RegPost Z E H K (.panic c) a w := by
   rintro v c a w ⟨_, _, he, _⟩
   cases he
  have hr' : i ∈ Region.ready .any ops listed := by simpa using hr
  have hI' := inv_step listed i hI hr'
  rcases hh with ⟨hw, hrun⟩ | ⟨hw, hs⟩
  ·obtain ⟨v, st', hy, k1, k2⟩ := yieldsG_of (q := q) (ls := ls) hT hwt S1 hw hk hrun
   exact wpAnyG_first (Inv := InvG ops) ho (Region.noSelect_spec hns) (hQ v) (Gq.set hqi) (inv_step) fuel listed a E1.w (Region.free_spec ho hf) hr' hy hI (Gq.here _ _ _) (planG_sound hT hns hwt h0 p fuel _ st' E1 _ k2 c hI' hok k1)
  ·obtain ⟨st', k1, k2⟩ := skip_sim S1 hs
   exact wpAnyG_first (Inv := InvG ops) ho (Region.noSelect_spec hns) (hQ undef) (Gq.set hqi) (inv_step) fuel listed a E1.w (Region.free_spec ho hf) hr' (.inr ⟨hw, rfl⟩) hI (Gq.here _ _ _) (planG_sound hT hns hwt h0 p fuel _ st' E1 _ k2 c hI' hok k1)
 | .all ps, 0, listed, st, E1, a, S, c, hI, hok, h => by simp [planG] at hok
 | .all ps, fuel + 1, listed, st, E1, a, S, c, hI, hok, h => by
  unfold planG at hok
  unfold planP at h
  simp only [Bool.and_eq_true, Bool.not_eq_true'] at hok
  obtain ⟨⟨hne, hr⟩, hok⟩ := hok
  have hr' : Region.ready .any ops listed = ps.map (·.1) := by simpa using hr
  refine wpAnyG_all hr' (by intro he; simp at he; simp [he] at hne) fun i hi => ?_
  exact plansG_sound hT hns hwt h0 ps fuel listed st E1 a S c hI (fun i hi => by rw [hr']; exact hi) hok h i hi
theorem plansG_sound {P : Program} {T : Types} (hT : TOK P T) {M : FuncId → List Mode} {q ls : List Nat} {ops : Array Oper} (hns : Region.noSelect ops = true) (hwt : waitsG q ls ops = true) {Z : Nat → Prop} {E : Env} {H : Heap} {nx : Nat} (h0 : HeapRep Z E H nx) {K : St → Prop} :
  ∀ (ps : List (Nat × Plan)) (fuel : Nat) (listed : Array Bool) (st : St) (E1 : Env) (a : Act), Sim Z E1 st a → Chain E (Wr E.ρ H) E1 → InvG ops listed → (∀ i ∈ ps.map (·.1), i ∈ Region.ready .any ops listed) → plansG T M q ls ops fuel listed ps = true → plansP P T M true ops ps st K →
   ∀ i ∈ ps.map (·.1), wpOp P ops (RegPost Z E H K) i (fun a' w' => Gq q E1 (listed.setIfInBounds i true) w' ∧ wpAnyG P ops (RegPost Z E H K) (Gq q E1) fuel (listed.setIfInBounds i true) a' w') a E1.w
 | [], fuel, listed, st, E1, a, S, c, hI, hrd, hok, h => by simp
 | (j, p) :: r, fuel, listed, st, E1, a, S, c, hI, hrd, hok, h => by
  unfold plansG at hok
  unfold plansP at h
  simp only [Bool.and_eq_true, Bool.or_eq_true] at hok
  obtain ⟨⟨hqj, hok⟩, hoks⟩ := hok
  split at h
  case h_2 => exact h.elim
  rename_i o ho
  rw [ho] at hqj
  dsimp only at hqj
  have hone : stepP P T M ops o st (fun st' => planP P T M true ops p st' K) ∧ plansP P T M true ops r st K := by
   cases r with
   | nil => exact ⟨h, by simp [plansP]⟩
   | cons _ _ => exact h
  obtain ⟨hstep, hrest⟩ := hone
  intro i hi
  rcases List.mem_cons.1 (by simpa using hi : i ∈ j :: r.map (·.1)) with rfl | hi
  ·have hI' := inv_step listed i hI (hrd i (by simp))
   obtain ⟨st1, S1, e1, e2, hh⟩ := step_cases S hstep
   unfold wpOp
   simp only [ho]
   rcases hh with ⟨hw, hr⟩ | ⟨hw, hs⟩
   ·rw [if_pos hw]
    left
    rw [runP_eq] at hr
    rcases hqj with hqj | hqj
    ·refine opP_sound hT S1 hr _ _ fun y H' nx' E' v hk A => ?_
     obtain ⟨st', hk', S'⟩ := after_sim S1 A hk
     have hno : ∀ l, Sup (listed.setIfInBounds i true) l → ¬ ∀ j ∈ q, l.getD j true = false := fun l hl hh => by
      have h1 := hl i (getD_set_eq listed i)
      have h2 := hh i (by simpa [List.contains_eq_mem] using hqj)
      rw [h1] at h2; cases h2
     refine ⟨⟨E', rfl, A.later, fun hh => absurd hh (hno _ (Sup.refl _))⟩, wpAnyG_mono (S := Gq q E') _ _ _ _ ?_ (planG_sound hT hns hwt h0 p fuel _ st' E' _ S' (c.next h0 S1.heap A.later A.evo) hI' hok hk')⟩
     rintro l w hl ⟨E2, rfl, L2, _⟩
     exact ⟨E2, rfl, A.later.trans L2, fun hh => absurd hh (hno l hl)⟩
    ·rw [Bool.or_eq_true] at hqj
     rcases hqj with hqj | hld
     case inr =>
      unfold isLoad at hld
      split at hld
      case h_2 => cases hld
      rename_i t A ho'
      rw [ho'] at hr
      simp only [opP, force_eq] at hr
      obtain ⟨y, v, h1, h2, h3⟩ := loadP_lt (P := P) hT S1.heap (rep_evalO S1 A) hr
      have hrun : (Instr.loadAt t (a.eval A)).run P E1.w = .ok v E1.w := by
       rcases h3 with ⟨b, hlt, h3⟩ | h3
       ·exact h3 _ rfl
       ·exact h3 _
      obtain ⟨st', hk', S'⟩ := after_sim S1 (After.pure S1.heap h2) h1
      unfold Oper.wp
      rw [show (execOp a.eval o).run P E1.w = .ok (.value v) E1.w by simp only [execOp, ho']; exact vrun hrun]
      exact ⟨Gq.here _ _ _, planG_sound hT hns hwt h0 p fuel _ st' E1 _ S' c hI' hok hk'⟩
     have hcall : ∃ c, o.op = .call c ∧ ∃ g, c.callee = .value (.func g) ∧ quietM (M g) = true := by
      unfold quietOp at hqj
      split at hqj
      ·rename_i c hc
       split at hqj
       ·rename_i g hg
        exact ⟨c, hc, g, hg, hqj⟩
       ·cases hqj
      ·cases hqj
     obtain ⟨cc, hc, g, hg, hq⟩ := hcall
     rw [hc] at hr
     unfold opP at hr
     simp only [hg, evalO, List.append_nil, quiet_notCmp hq, cond_false] at hr
     have hv := rep_evalO S1 (.func g)
     simp only [evalO, RepV] at hv
     obtain ⟨vs, hv, hcaps⟩ := hv
     obtain rfl : vs = #[] := by simp only [RepL] at hcaps; cases vs; simp_all
     have hex : Enters P g := callQ_enters hr
     have hcl := callQ_quiet S1.heap hq (rep_evalL S1 cc.args.toList) hr
     have hrun : (execOp a.eval o).run P E1.w = .ok (.enter g (cc.args.map a.eval)) E1.w := by
      simp only [execOp, hc, resolve, hg, Sem.run_bind, hv, Deferred.ofValue, Sem.run_pure, Result.andThen_ok, invoke]
      rw [Array.empty_append, Array.append_empty]
      exact hex _ _
     unfold Oper.wp
     rw [hrun, Oper.upon_enter]
     rw [toArray_map] at hcl
     refine hcl.mono ?_
     rintro e w' ⟨x', H', nx', E', v, rfl, hk, rfl, A, hst⟩
     obtain ⟨st', hk', S'⟩ := after_sim S1 A hk
     refine ⟨⟨E', rfl, A.later, fun _ => hst⟩, wpAnyG_mono (S := Gq q E') _ _ _ _ ?_ (planG_sound hT hns hwt h0 p fuel _ st' E' _ S' (c.next h0 S1.heap A.later A.evo) hI' hok hk')⟩
     rintro l w hl ⟨E2, rfl, L2, hx⟩
     exact ⟨E2, rfl, A.later.trans L2, fun hh => hst.trans A.later.lt (hx hh)⟩
   ·rw [if_neg (by simp [hw])]
    obtain ⟨st', hk', S'⟩ := skip_sim S1 hs
    have hh := planG_sound hT hns hwt h0 p fuel _ st' E1 _ S' c hI' hok hk'
    exact ⟨Gq.here _ _ _, hh⟩
  ·exact plansG_sound hT hns hwt h0 r fuel listed st E1 a S c hI (fun i hi => hrd i (by simp [hi])) hoks hrest i hi
end
def fitsG (T : Types) (M : FuncId → List Mode) (q ls : List Nat) (ops : Array Oper) (p : Plan) : Bool := Region.noSelect ops && waitsG q ls ops && ls.all (fun i => Nat.blt i ops.size) && q.all (fun i => Nat.blt i ops.size) && planG T M q ls ops ops.size (Array.replicate ops.size false) p
theorem Does.quiet {P : Program} {k : Nat} {T : Types} (hT : TOK P T) (hm : P.follows .mixedOrders = true) {M : FuncId → List Mode} (q ls : List Nat) {id : Nat} {ops : Array Oper} (p : Plan) {Q : AX → St → Prop} {st : St}
  (hp : fitsG T M q ls ops p = true) (h : planP P T M true ops p st (Q .normal)) : Does P k (.region id ops true) Q st := by
 intro Z E a S
 simp only [fitsG, Bool.and_eq_true] at hp
 obtain ⟨⟨⟨⟨h1, h2⟩, h3⟩, h4⟩, h5⟩ := hp
 refine wp_mono (Q := RegPost Z E st.heap (Q .normal)) ?_ fun e a' w' hp => reg_post S hp
 refine wp_region_any hm (wpAny_of_G (S := Gq q (E.drawn (E.w.drawn + 1))) _ _ _ _ ?_)
 refine planG_sound hT h1 h2 S.heap p _ _ st (E.drawn (E.w.drawn + 1)) a (S.drawn _) ⟨later_drawn _ _, Evo.drawn _ _ _⟩ (fun j o ho hl => ?_) h5 h
 have := (Array.getElem?_eq_some_iff.1 ho).1
 simp [this] at hl
end
section
--KR
attribute [local irreducible] ifB fitP Does Weaker
theorem rowsC_set {α : Type} {f : α → List AV} {n : Nat} (hf : ∀ x, (f x).length = n) {l : List α} {j m : Nat} (h : j < l.length) (hm : m = n * j) (x : α) : setN (rowsC f l) m (f x) = rowsC f (l.set j x) := by
 subst hm
 have hl := rowsC_length hf l
 have h2 : n * (j + 1) ≤ n * l.length := Nat.mul_le_mul_left n h
 rw [Nat.mul_succ] at h2
 rw [setN_eq _ _ _ (by rw [hf, hl]; omega), hf, ← Nat.mul_succ, rowsC_take hf, rowsC_drop hf, List.set_eq_take_append_cons_drop, if_pos h, rowsC_append]
 simp [rowsC, List.append_assoc]
def MLh : FuncId → List Mode := orElse [(23, [.ag]), (26, [.ag]), (16, [.rd, .ag]), (25, [.mv 1]), (24, [])] ML
theorem mH_S {hs : List Hd} (h : ∀ x ∈ hs, HdS x) (hl : hs.length ≤ 100) : MsgS (mH hs) := { kind := by simp only [mH]; omega, frm := by simp only [mH]; omega, to := by simp only [mH]; omega, hs := h, ps := fun x hx => absurd hx (List.not_mem_nil), es := fun x hx => absurd hx (List.not_mem_nil), hl := by show hs.length ≤ _; omega, pl := by simp [mH], el := by simp [mH] }
theorem hsW_S (sh : Bool) {n : Nat} (hn : n ≤ 10) : ∀ x ∈ hsW sh n, HdS x := by
 intro x hx
 obtain ⟨i, hi, rfl⟩ := List.mem_map.1 hx
 exact hW_S sh (by have := List.mem_range.1 hi; omega)
theorem mH_args {g : FuncId} {hs : List Hd} {n : Nat} {r : AV} (hn : n = hs.length) (h : ACall Tryd.prog g [.agg (msgC (mH hs))] r []) : ACall Tryd.prog g [.agg (msgV 1 1 0 (.ro n (rowsC hdC hs)) (.ro 0 []) (.ro 0 []))] r [] := by
 subst hn; exact h
theorem mH_args2 {g : FuncId} {hs : List Hd} {n : Nat} {x : AV} {r : AV} (hn : n = hs.length) (h : ACall Tryd.prog g [x, .agg (msgC (mH hs))] r []) : ACall Tryd.prog g [x, .agg (msgV 1 1 0 (.ro n (rowsC hdC hs)) (.ro 0 []) (.ro 0 []))] r [] := by
 subst hn; exact h
set_option maxRecDepth 20000 in
set_option maxHeartbeats 2000000 in
theorem wireHeads_ok (n' a' : Int) (sh : Bool) (hn' : -9223372036854775808 ≤ n' ∧ n' < 9223372036854775808) (ha' : -9223372036854775808 ≤ a' ∧ a' < 9223372036854775808) : ACall Tryd.prog 6 [.int .i64 n', .int .i64 a', .bool sh] (.bool true) [] := by
 obtain ⟨n, hn, hn3⟩ := mod_len n' (n := 10) (by omega)
 have wn := wrap_u64 n'
 refine ACall.of_does TTok Tryd.func6 rfl Tryd.call6 rfl (wpc_sound (M := MLh) (PL := PL0) (CU := cutAt [100010, 100019]) TTok mixed _ _ _ ?_)
 conv => whnf
 refine fit_wrap ?_
 rw [wn]
 conv => whnf
 repeat ((refine And.intro (by first | omega | rfl | (dsimp only; omega)) ?_); conv => whnf)
 rw [show (n' % 18446744073709551616).tmod 10 = (n : Int) from hn]
 conv => whnf
 repeat ((first | (refine fit_i64 ⟨by first | omega | rfl | (dsimp only; omega), by first | omega | rfl | (dsimp only; omega)⟩ ?_) | refine ⟨(⟨by kernel_rfl, by kernel_rfl, Nat.le_of_ble_eq_true (by kernel_rfl)⟩ : AV.ones _ = true ∧ _ ∧ _), ?_⟩ | refine ⟨rfl, ?_⟩); conv => whnf)
 refine Does.loop (fun c : Nat => mkSt [(0, .int .i64 n), (1, .int .i64 a'), (2, .bool sh), (7, .ptr 0 0), (8, .int .i64 c)] [(0, msgV 1 1 0 (.sl 1 0 c 66 false) .nil .nil), (1, rowsC hdC (hsW sh c))] 2 117) (fun c => c ≤ n) (fun c => n - c) ?_ 0 (Nat.zero_le _) ?_
 ·intro c hc
  have hL : (rowsC hdC (hsW sh c)).length = 66 * c := by rw [hds_len, hsW_len]
  have hsu := hsW_succ sh c
  rcases Nat.lt_or_ge c n with c1 | c1
  ·refine wpc_sound (M := MLh) (PL := PL0) (CU := cutAt [100008, 100009]) TTok mixed _ _ _ ?_
   cases sh with
   | false =>
    have hE : hW false c = ⟨((c : Int) + 1) :: List.replicate 31 0, 1 + (c : Int), 9 :: List.replicate 31 0, false⟩ := rfl
    conv => whnf
    repeat ((first | refine ifB_f ?_ | (refine ifB_pos (decide_eq_true (by first | omega | rfl | (dsimp only; omega))) ?_) | (refine fit_i64 ⟨by first | omega | rfl | (dsimp only; omega), by first | omega | rfl | (dsimp only; omega)⟩ ?_) | (refine fit_u8 ⟨by first | omega | rfl | (dsimp only; omega), by first | omega | rfl | (dsimp only; omega)⟩ ?_) | refine ⟨(⟨by kernel_rfl, by kernel_rfl, Nat.le_of_ble_eq_true (by kernel_rfl)⟩ : AV.ones _ = true ∧ _ ∧ _), ?_⟩ | refine ⟨rfl, ?_⟩ | refine ⟨⟨rfl, rfl⟩, ?_⟩); conv => whnf)
    refine Does.tidy [(0, .int .i64 n), (1, .int .i64 a'), (2, .bool false), (7, .ptr 0 0), (8, .int .i64 c), (9, .ptr 2 0)] [(0, msgV 1 1 0 (.sl 1 0 c 66 false) .nil .nil), (1, rowsC hdC (hsW false c)), (2, hdC ⟨((c : Int) + 1) :: List.replicate 31 0, 1 + (c : Int), 9 :: List.replicate 31 0, false⟩)] 3 117 rfl rfl rfl (by kernel_rfl) (by kernel_rfl) ?_
    rw [← hE]
    clear hE
    generalize hW false c = X at hsu ⊢
    refine wpc_sound (M := MLh) (PL := PL0) (CU := noCut) TTok mixed _ _ _ ?_
    conv => whnf
    repeat ((first | (refine fit_i64 ⟨by first | omega | rfl | (dsimp only; omega), by first | omega | rfl | (dsimp only; omega)⟩ ?_) | refine ⟨(⟨by kernel_rfl, by kernel_rfl, Nat.le_of_ble_eq_true (by kernel_rfl)⟩ : AV.ones _ = true ∧ _ ∧ _), ?_⟩ | (refine Or.inl ⟨⟨rfl, ?_⟩, ?_⟩; (focus (first | rfl | (simp; done) | (rw [toksC_length]; omega)))) | refine ⟨rfl, ?_⟩ | refine ⟨_, rfl, ?_⟩ | refine ⟨⟨rfl, rfl⟩, ?_⟩ | (refine And.intro ?_ ?_; (focus (first | (simp [limB, lenB, offB]; done) | (simp [limB, lenB, offB]; omega))))); conv => whnf)
    refine ⟨c + 1, by omega, by omega, weaker_of [(0, 0), (1, 4)] rfl rfl ⟨⟨rfl, rfl⟩, ⟨rfl, rfl⟩, rfl, ⟨rfl, rfl⟩, ⟨rfl, rfl⟩, trivial⟩ ⟨⟨⟨rfl, rfl⟩, ⟨rfl, rfl⟩, ⟨rfl, rfl⟩, ⟨rfl, rfl, rfl, rfl, fun h => h⟩, trivial, trivial, trivial⟩, ?_, trivial⟩⟩
    rw [hsu, rowsC_append]
    refine lesP_app'' (rowsC_les hdC_les rfl) (rowsC_les hdC_les ?_)
    simp only [rowsC, List.append_nil]
    rfl
   | true =>
    have ht : (c : Int).tmod 2 = ((c % 2 : Nat) : Int) := by rw [show (2 : Int) = ((2 : Nat) : Int) from rfl, Int.ofNat_tmod]
    by_cases he : c % 2 = 0
    ·have hE : hW true c = ⟨((c : Int) + 1) :: List.replicate 31 0, 0, z32, true⟩ := by unfold hW; rw [if_pos (by simp [he])]
     conv => whnf
     repeat ((first | refine ifB_t ?_ | (refine ifB_pos (decide_eq_true (by first | omega | rfl | (dsimp only; omega))) ?_) | (refine fit_i64 ⟨by first | omega | rfl | (dsimp only; omega), by first | omega | rfl | (dsimp only; omega)⟩ ?_) | (refine fit_u8 ⟨by first | omega | rfl | (dsimp only; omega), by first | omega | rfl | (dsimp only; omega)⟩ ?_) | refine ⟨(⟨by kernel_rfl, by kernel_rfl, Nat.le_of_ble_eq_true (by kernel_rfl)⟩ : AV.ones _ = true ∧ _ ∧ _), ?_⟩ | refine ⟨rfl, ?_⟩ | refine ⟨⟨rfl, rfl⟩, ?_⟩ | (refine And.intro (by first | omega | rfl | (dsimp only; omega)) ?_)); conv => whnf)
     rw [ht]
     conv => whnf
     refine Does.tidy [(0, .int .i64 n), (1, .int .i64 a'), (2, .bool true), (7, .ptr 0 0), (8, .int .i64 c), (9, .ptr 2 0)] [(0, msgV 1 1 0 (.sl 1 0 c 66 false) .nil .nil), (1, rowsC hdC (hsW true c)), (2, hdC ⟨((c : Int) + 1) :: List.replicate 31 0, 1 + (c : Int), 9 :: List.replicate 31 0, false⟩)] 3 117 rfl rfl rfl (by kernel_rfl) (by kernel_rfl) ?_
     refine wpc_sound (M := MLh) (PL := PL0) (CU := noCut) TTok mixed _ _ _ ?_
     conv => whnf
     repeat ((first | refine ⟨(⟨by kernel_rfl, by kernel_rfl, Nat.le_of_ble_eq_true (by kernel_rfl)⟩ : AV.ones _ = true ∧ _ ∧ _), ?_⟩ | refine ⟨_, rfl, ?_⟩ | refine ⟨⟨rfl, rfl⟩, ?_⟩); conv => whnf)
     refine Does.tidy [(0, .int .i64 n), (1, .int .i64 a'), (2, .bool true), (7, .ptr 0 0), (8, .int .i64 c), (9, .ptr 2 0)] [(0, msgV 1 1 0 (.sl 1 0 c 66 false) .nil .nil), (1, rowsC hdC (hsW true c)), (2, hdC ⟨((c : Int) + 1) :: List.replicate 31 0, 0, z32, true⟩)] 3 117 rfl rfl rfl (by kernel_rfl) (by kernel_rfl) ?_
     rw [← hE]
     clear hE
     generalize hW true c = X at hsu ⊢
     refine wpc_sound (M := MLh) (PL := PL0) (CU := noCut) TTok mixed _ _ _ ?_
     conv => whnf
     repeat ((first | (refine fit_i64 ⟨by first | omega | rfl | (dsimp only; omega), by first | omega | rfl | (dsimp only; omega)⟩ ?_) | refine ⟨(⟨by kernel_rfl, by kernel_rfl, Nat.le_of_ble_eq_true (by kernel_rfl)⟩ : AV.ones _ = true ∧ _ ∧ _), ?_⟩ | (refine Or.inl ⟨⟨rfl, ?_⟩, ?_⟩; (focus (first | rfl | (simp; done) | (rw [toksC_length]; omega)))) | refine ⟨rfl, ?_⟩ | refine ⟨_, rfl, ?_⟩ | refine ⟨⟨rfl, rfl⟩, ?_⟩ | (refine And.intro ?_ ?_; (focus (first | (simp [limB, lenB, offB]; done) | (simp [limB, lenB, offB]; omega))))); conv => whnf)
     refine ⟨c + 1, by omega, by omega, weaker_of [(0, 0), (1, 4)] rfl rfl ⟨⟨rfl, rfl⟩, ⟨rfl, rfl⟩, rfl, ⟨rfl, rfl⟩, ⟨rfl, rfl⟩, trivial⟩ ⟨⟨⟨rfl, rfl⟩, ⟨rfl, rfl⟩, ⟨rfl, rfl⟩, ⟨rfl, rfl, rfl, rfl, fun h => h⟩, trivial, trivial, trivial⟩, ?_, trivial⟩⟩
     rw [hsu, rowsC_append]
     refine lesP_app'' (rowsC_les hdC_les rfl) (rowsC_les hdC_les ?_)
     simp only [rowsC, List.append_nil]
     rfl
    ·have hE : hW true c = ⟨((c : Int) + 1) :: List.replicate 31 0, 1 + (c : Int), 9 :: List.replicate 31 0, false⟩ := by unfold hW; rw [if_neg (by simp [he])]
     conv => whnf
     repeat ((first | refine ifB_t ?_ | (refine ifB_neg (decide_eq_false (by first | omega | rfl | (dsimp only; omega))) ?_) | (refine ifB_pos (decide_eq_true (by first | omega | rfl | (dsimp only; omega))) ?_) | (refine fit_i64 ⟨by first | omega | rfl | (dsimp only; omega), by first | omega | rfl | (dsimp only; omega)⟩ ?_) | (refine fit_u8 ⟨by first | omega | rfl | (dsimp only; omega), by first | omega | rfl | (dsimp only; omega)⟩ ?_) | refine ⟨(⟨by kernel_rfl, by kernel_rfl, Nat.le_of_ble_eq_true (by kernel_rfl)⟩ : AV.ones _ = true ∧ _ ∧ _), ?_⟩ | refine ⟨rfl, ?_⟩ | refine ⟨⟨rfl, rfl⟩, ?_⟩ | (refine And.intro (by first | omega | rfl | (dsimp only; omega)) ?_)); conv => whnf)
     rw [ht]
     conv => whnf
     refine Does.tidy [(0, .int .i64 n), (1, .int .i64 a'), (2, .bool true), (7, .ptr 0 0), (8, .int .i64 c), (9, .ptr 2 0)] [(0, msgV 1 1 0 (.sl 1 0 c 66 false) .nil .nil), (1, rowsC hdC (hsW true c)), (2, hdC ⟨((c : Int) + 1) :: List.replicate 31 0, 1 + (c : Int), 9 :: List.replicate 31 0, false⟩)] 3 117 rfl rfl rfl (by kernel_rfl) (by kernel_rfl) ?_
     rw [← hE]
     clear hE
     generalize hW true c = X at hsu ⊢
     refine wpc_sound (M := MLh) (PL := PL0) (CU := noCut) TTok mixed _ _ _ ?_
     conv => whnf
     repeat ((first | (refine fit_i64 ⟨by first | omega | rfl | (dsimp only; omega), by first | omega | rfl | (dsimp only; omega)⟩ ?_) | refine ⟨(⟨by kernel_rfl, by kernel_rfl, Nat.le_of_ble_eq_true (by kernel_rfl)⟩ : AV.ones _ = true ∧ _ ∧ _), ?_⟩ | (refine Or.inl ⟨⟨rfl, ?_⟩, ?_⟩; (focus (first | rfl | (simp; done) | (rw [toksC_length]; omega)))) | refine ⟨rfl, ?_⟩ | refine ⟨_, rfl, ?_⟩ | refine ⟨⟨rfl, rfl⟩, ?_⟩ | (refine And.intro ?_ ?_; (focus (first | (simp [limB, lenB, offB]; done) | (simp [limB, lenB, offB]; omega))))); conv => whnf)
     refine ⟨c + 1, by omega, by omega, weaker_of [(0, 0), (1, 4)] rfl rfl ⟨⟨rfl, rfl⟩, ⟨rfl, rfl⟩, rfl, ⟨rfl, rfl⟩, ⟨rfl, rfl⟩, trivial⟩ ⟨⟨⟨rfl, rfl⟩, ⟨rfl, rfl⟩, ⟨rfl, rfl⟩, ⟨rfl, rfl, rfl, rfl, fun h => h⟩, trivial, trivial, trivial⟩, ?_, trivial⟩⟩
     rw [hsu, rowsC_append]
     refine lesP_app'' (rowsC_les hdC_les rfl) (rowsC_les hdC_les ?_)
     simp only [rowsC, List.append_nil]
     rfl
  obtain rfl : c = n := by omega
  refine wpc_sound (M := MLh) (PL := PL0) (CU := noCut) TTok mixed _ _ _ ?_
  conv => whnf
  repeat ((refine ifB_neg (decide_eq_false (by first | omega | rfl | (dsimp only; omega))) ?_); conv => whnf)
  refine Does.tidy [(0, .int .i64 c), (1, .int .i64 a'), (2, .bool sh), (7, .ptr 0 0)] [(0, msgV 1 1 0 (.sl 1 0 c 66 false) .nil .nil), (1, rowsC hdC (hsW sh c))] 2 117 rfl rfl rfl (by kernel_rfl) (by kernel_rfl) ?_
  have hSS := hsW_S sh (n := c) (by omega)
  have hlen := hsW_len sh c
  have hm := mH_S hSS (by omega)
  have hb := mH_args (n := c) hlen.symm (msg_bytes_ok _ hm)
  have hR := mH_R (hsW sh c)
  have hw := wakes13_ok
  have hp : pureL (rowsC hdC (hsW sh c)) = true := hds_pure _
  by_cases h9 : c ≤ 8
  ·rw [hsW_R sh h9] at hR
   have hsp : ∀ i, i + 1 < c → headsR (swp (hsW sh c) i) = false := fun i h => swp_no sh h
   have hz : (msgB (mH (hsW sh c))).2 = 0 := by have := msgB_err hm; rw [hR] at this; exact of_decide_eq_true this
   have hB := rdMsg_bytes hm hz
   have y1 := msgB_byt hm
   have hrd := (mread_ok (msgB (mH (hsW sh c))).1 y1.1 (by omega)).ownArg (esz := 1)
   rw [hB.2] at hrd
   have kk := kmsg_ok _ _ hm hm
   rw [dt rfl] at kk
   have kk := mH_args2 (n := c) hlen.symm kk
   clear hB y1 hsu
   generalize hsW sh c = hs at *
   generalize msgB (mH hs) = o at hb hrd hz
   obtain ⟨b, e⟩ := o
   dsimp only at hb hrd hz
   subst hz
   refine wpc_sound (M := MLh) (PL := PL0) (CU := noCut) TTok mixed _ _ _ ?_
   conv => whnf
   repeat ((first | refine ⟨rfl, ?_⟩ | refine ⟨_, rfl, ?_⟩); conv => whnf)
   refine ⟨⟨rfl, by rw [hL, Nat.mul_comm], hp⟩, ?_⟩
   conv => whnf
   repeat ((refine ⟨rfl, ?_⟩); conv => whnf)
   refine ⟨_, _, hb, by first | rfl | simp [noRoIf, noRoL, noRoV, noRoL_bys], ?_⟩
   conv => whnf
   repeat ((first | (refine ifB_neg (decide_eq_false (by first | omega | rfl | (dsimp only; omega))) ?_) | refine ⟨rfl, ?_⟩ | (refine ⟨⟨rfl, rfl, ?_, pureL_bys _⟩, ?_⟩; (focus (simp; done)))); conv => whnf)
   refine ⟨_, _, hrd, by first | rfl | simp [noRoIf, noRoL, noRoV, noRoL_bys], ?_⟩
   conv => whnf
   repeat ((first | refine ifB_f ?_ | refine ⟨(⟨by kernel_rfl, by kernel_rfl, Nat.le_of_ble_eq_true (by kernel_rfl)⟩ : AV.ones _ = true ∧ _ ∧ _), ?_⟩ | refine ⟨rfl, ?_⟩ | refine ⟨_, rfl, ?_⟩ | refine ⟨(show pureL _ = true from by first | exact prfC_pure _ | exact hdC_pure _ | exact msgC_pure _ | exact letC_pure _), ?_⟩); conv => whnf)
   refine ⟨⟨rfl, by rw [hL, Nat.mul_comm], hp⟩, ?_⟩
   conv => whnf
   repeat ((refine ⟨rfl, ?_⟩); conv => whnf)
   refine ⟨_, _, kk, by first | rfl | simp [noRoIf, noRoL, noRoV, noRoL_bys], ?_⟩
   conv => whnf
   repeat ((refine ifB_f ?_); conv => whnf)
   by_cases c2 : c < 2
   ·conv => whnf
    repeat ((first | (refine ifB_pos (decide_eq_true (by first | omega | rfl | (dsimp only; omega))) ?_) | refine ⟨rfl, ?_⟩); conv => whnf)
    refine ⟨_, _, hw, by first | rfl | simp [noRoIf, noRoL, noRoV, noRoL_bys], ?_⟩
    conv => whnf
    repeat ((refine ⟨rfl, ?_⟩); conv => whnf)
    rfl
   obtain ⟨i, hi, hi3⟩ := mod_len a' (n := c - 1) (by omega)
   have e1 : ((c - 1 : Nat) : Int) = (c : Int) - 1 := by omega
   rw [e1] at hi
   have wa := wrap_u64 a'
   conv => whnf
   repeat ((refine ifB_neg (decide_eq_false (by first | omega | rfl | (dsimp only; omega))) ?_); conv => whnf)
   refine fit_wrap ?_
   rw [wa]
   conv => whnf
   repeat ((first | (refine fit_i64 ⟨by first | omega | rfl | (dsimp only; omega), by first | omega | rfl | (dsimp only; omega)⟩ ?_) | (refine fit_u64 ⟨by first | omega | rfl | (dsimp only; omega), by first | omega | rfl | (dsimp only; omega)⟩ ?_) | (refine And.intro (by first | omega | rfl | (dsimp only; omega)) ?_)); conv => whnf)
   rw [hi]
   conv => whnf
   have hg : ∀ j (h : j < hs.length), hs[j] = hs.getD j hd0 := fun j h => by rw [List.getD_eq_getElem?_getD, List.getElem?_eq_getElem h]; rfl
   have hsw := hsp i (by omega)
   have hc1 := check_msg_ok (mH (swp hs i)) (mH_S (fun x hx => by
    unfold swp at hx
    rcases List.mem_or_eq_of_mem_set hx with hx | rfl
    ·rcases List.mem_or_eq_of_mem_set hx with hx | rfl
     ·exact hSS x hx
     ·rw [← hg (i + 1) (by omega)]; exact hSS _ (List.getElem_mem _)
    ·rw [← hg i (by omega)]; exact hSS _ (List.getElem_mem _)) (by simp [swp]; omega))
   rw [mH_R, hsw] at hc1
   have hc1 := mH_args (n := c) (by simp [swp, hlen]) hc1
   refine Does.quiet TTok mixed (M := MLh) [19, 21] [1, 8, 12, 14, 17] (takesTo [0, 1, 2, 3, 5, 6, 7, 8, 9, 10, 11, 12, 13, 14, 15, 16, 17, 18] (.all [(4, .all [(19, takesTo [20] (.all [(21, .done)]))]), (19, .all [(4, takesTo [20] (.all [(21, .done)]))])])) (by kernel_rfl) ?_
   conv => whnf
   repeat ((first | (refine fit_i64 ⟨by first | omega | rfl | (dsimp only; omega), by first | omega | rfl | (dsimp only; omega)⟩ ?_) | refine ⟨_, rfl, ?_⟩ | (refine And.intro (by first | omega | rfl | (dsimp only; omega)) ?_)); conv => whnf)
   refine ⟨_, takeN_row hdC_length (j := i + 1) (by omega) (by simp; omega) rfl, ?_⟩
   conv => whnf
   repeat ((first | refine ⟨_, rfl, ?_⟩ | (refine And.intro (by first | omega | rfl | (dsimp only; omega)) ?_)); conv => whnf)
   refine ⟨_, takeN_row hdC_length (j := i) (by omega) (by simp; omega) rfl, ?_⟩
   conv => whnf
   repeat ((refine And.intro (by first | omega | rfl | (dsimp only; omega)) ?_); conv => whnf)
   have hs1 : swp hs i = (hs.set i hs[i + 1]).set (i + 1) hs[i] := by unfold swp; rw [← hg i (by omega), ← hg (i + 1) (by omega)]
   have hset := rowsC_set hdC_length (l := hs) (j := i) (m := i * 66) (by omega) (by omega) hs[i + 1]
   have hset2 := rowsC_set hdC_length (l := hs.set i hs[i + 1]) (j := i + 1) (m := (i + 1) * 66) (by simp; omega) (by omega) hs[i]
   rw [← hset, ← hs1] at hset2
   have hSl : (setN (rowsC hdC hs) (i * 66) (hdC hs[i + 1])).length = 66 * c := by rw [hset, hds_len, List.length_set, hlen]
   generalize hs[i + 1] = U at *
   generalize hs[i] = V at *
   have hcells : ∀ o1 o2, o1 = i * 66 → o2 = (i + 1) * 66 → setN (setN (rowsC hdC hs) o1 (hdC U)) o2 (hdC V) = rowsC hdC (swp hs i) := by
    rintro _ _ rfl rfl
    exact hset2
   refine ⟨?_, ?_⟩
   ·conv => whnf
    refine ⟨_, rfl, ?_⟩
    conv => whnf
    refine ⟨⟨hdC_one U, hdC_length U, by rw [hL]; simp; omega⟩, ?_⟩
    conv => whnf
    refine ⟨⟨by omega, by omega⟩, ?_⟩
    conv => whnf
    refine ⟨⟨hdC_one V, hdC_length V, by rw [setN_length, hL]; simp; omega⟩, ?_⟩
    conv => whnf
    refine ⟨_, rfl, ?_⟩
    conv => whnf
    refine ⟨rfl, ?_⟩
    conv => whnf
    refine ⟨rfl, ?_⟩
    conv => whnf
    refine ⟨rfl, ?_⟩
    conv => whnf
    refine ⟨⟨rfl, by rw [setN_length, setN_length, hL, Nat.mul_comm], (congrArg pureL (hcells _ _ (by first | (simp; done) | (simp; omega)) (by first | (simp; done) | (simp; omega)))).trans (hds_pure _)⟩, ?_⟩
    conv => whnf
    refine ⟨rfl, ?_⟩
    conv => whnf
    refine ⟨_, _, hc1.args (congrArg (fun x => [AV.agg (msgV 1 1 0 (.ro c x) (.ro 0 []) (.ro 0 []))]) (hcells _ _ (by first | (simp; done) | (simp; omega)) (by first | (simp; done) | (simp; omega)))), by simp [noRoIf, noRoL, noRoV], ?_⟩
    conv => whnf
    repeat ((first | refine ifB_t ?_ | refine ⟨rfl, ?_⟩); conv => whnf)
    refine ⟨_, _, hw, by first | rfl | simp [noRoIf, noRoL, noRoV, noRoL_bys], ?_⟩
    conv => whnf
    repeat ((first | refine ifB_t ?_ | refine ⟨rfl, ?_⟩); conv => whnf)
    rfl
   ·conv => whnf
    refine ⟨⟨hdC_one U, hdC_length U, by rw [hL]; simp; omega⟩, ?_⟩
    conv => whnf
    refine ⟨_, rfl, ?_⟩
    conv => whnf
    refine ⟨⟨by omega, by omega⟩, ?_⟩
    conv => whnf
    refine ⟨⟨hdC_one V, hdC_length V, by rw [setN_length, hL]; simp; omega⟩, ?_⟩
    conv => whnf
    refine ⟨_, rfl, ?_⟩
    conv => whnf
    refine ⟨rfl, ?_⟩
    conv => whnf
    refine ⟨rfl, ?_⟩
    conv => whnf
    refine ⟨rfl, ?_⟩
    conv => whnf
    refine ⟨⟨rfl, by rw [setN_length, setN_length, hL, Nat.mul_comm], (congrArg pureL (hcells _ _ (by first | (simp; done) | (simp; omega)) (by first | (simp; done) | (simp; omega)))).trans (hds_pure _)⟩, ?_⟩
    conv => whnf
    refine ⟨rfl, ?_⟩
    conv => whnf
    refine ⟨_, _, hc1.args (congrArg (fun x => [AV.agg (msgV 1 1 0 (.ro c x) (.ro 0 []) (.ro 0 []))]) (hcells _ _ (by first | (simp; done) | (simp; omega)) (by first | (simp; done) | (simp; omega)))), by simp [noRoIf, noRoL, noRoV], ?_⟩
    conv => whnf
    repeat ((first | refine ifB_t ?_ | refine ⟨rfl, ?_⟩); conv => whnf)
    refine ⟨_, _, hw, by first | rfl | simp [noRoIf, noRoL, noRoV, noRoL_bys], ?_⟩
    conv => whnf
    repeat ((first | refine ifB_t ?_ | refine ⟨rfl, ?_⟩); conv => whnf)
    rfl
  ·have h9 : c = 9 := by omega
   have hf : headsR (hsW sh c) = false := by
    unfold headsR
    rw [hlen, Bool.and_eq_false_iff]
    exact .inl (by simp; omega)
   rw [hf] at hR
   have hz : msgB (mH (hsW sh c)) = ([], 1) := by unfold msgB; rw [hR]; rfl
   rw [hz] at hb
   refine wpc_sound (M := MLh) (PL := PL0) (CU := noCut) TTok mixed _ _ _ ?_
   conv => whnf
   repeat ((first | refine ⟨rfl, ?_⟩ | refine ⟨_, rfl, ?_⟩); conv => whnf)
   refine ⟨⟨rfl, by rw [hL, Nat.mul_comm], hp⟩, ?_⟩
   conv => whnf
   repeat ((refine ⟨rfl, ?_⟩); conv => whnf)
   refine ⟨_, _, hb, by first | rfl | simp [noRoIf, noRoL, noRoV, noRoL_bys], ?_⟩
   conv => whnf
   repeat ((first | refine ifB_t ?_ | (refine ifB_pos (decide_eq_true (by first | omega | rfl | (dsimp only; omega))) ?_) | refine ⟨rfl, ?_⟩); conv => whnf)
   refine ⟨_, _, hw, by first | rfl | simp [noRoIf, noRoL, noRoV, noRoL_bys], ?_⟩
   conv => whnf
   repeat ((first | refine ifB_t ?_ | refine ⟨rfl, ?_⟩); conv => whnf)
   rfl
 ·exact weaker_of [(0, 0)] rfl rfl ⟨⟨rfl, rfl⟩, ⟨rfl, rfl⟩, rfl, ⟨rfl, rfl⟩, ⟨rfl, rfl⟩, trivial⟩ ⟨⟨⟨rfl, rfl⟩, ⟨rfl, rfl⟩, ⟨rfl, rfl⟩, rfl, trivial, trivial, trivial⟩, rfl, trivial⟩
end
end Go.Proofs.YtbpdbajcmagomaaDoor.Abs
