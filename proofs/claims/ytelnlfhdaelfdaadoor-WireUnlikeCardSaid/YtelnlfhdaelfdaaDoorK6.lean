/- Texts FA7 to X2, merged. -/
import Derived.Test.YtelnlfhdaelfdaaDoorRows
import Derived.Test.YtelnlfhdaelfdaaDoorProg
import Derived.Lib.LaidU8T
import Derived.PinnedBridge
import Derived.Test.YtelnlfhdaelfdaaDoorCards
import Derived.Test.YtelnlfhdaelfdaaDoorTie
import Derived.WalkKit
import Derived.ProofKit
import Derived.OpenShut
import Derived.ShutString
import Derived.ChangeOld
import Derived.Below
import Derived.SizedLaws
import Derived.Carry
import Derived.ChangeSlices
import Derived.LaidMore
import Derived.Stop.Joined
import Derived.SevenTiedAt
import Derived.Lay
import Derived.Test.YtelnlfhdaelfdaaDoorK5
section
--KR
set_option linter.unusedVariables false
set_option linter.unusedSimpArgs false
namespace Go.Proofs.YtelnlfhdaelfdaaDoor.Abs
open Go
attribute [local irreducible] ifB fitP Does Weaker
def heavyP (p : Prf) : Bool := heavyEs [p.a, p.b]
def heavyM (m : Msg) : Bool := decide (60 < m.hs.length) || decide (60 < m.ps.length) || decide (60 < m.es.length) || heavyEs m.es || m.ps.any heavyP
theorem heavyM_no {m : Msg} (h : heavyM m = false) : m.hs.length ≤ 60 ∧ m.ps.length ≤ 60 ∧ m.es.length ≤ 60 ∧ (∀ e ∈ m.es, e.key.length ≤ 100 ∧ e.val.length ≤ 300) ∧ ∀ p ∈ m.ps, (p.a.key.length ≤ 100 ∧ p.a.val.length ≤ 300) ∧ (p.b.key.length ≤ 100 ∧ p.b.val.length ≤ 300) := by
  unfold heavyM at h
  simp only [Bool.or_eq_false_iff, decide_eq_false_iff_not, Nat.not_lt, List.any_eq_false] at h
  obtain ⟨⟨⟨⟨h1, h2⟩, h3⟩, h4⟩, h5⟩ := h
  refine ⟨h1, h2, h3, (heavyEs_no h4).2, fun p hp => ?_⟩
  have := (heavyEs_no (l := [p.a, p.b]) (by have := h5 p hp; unfold heavyP at this; simpa using this)).2
  exact ⟨this p.a (by simp), this p.b (by simp)⟩
theorem prf_a {l : List Prf} {j m s : Nat} (h : j < l.length) (hm : m = 266 * j) (hs : s = 133) : takeN s (List.drop 0 (List.drop m (rowsC prfC l))) = some (entC l[j].a) := by
  rw [List.drop_zero, rowsC_at prfC_length h hm]
  unfold prfC
  rw [List.append_assoc]
  exact takeN_app (by rw [entC_length, hs])
theorem prf_b {l : List Prf} {j m s : Nat} (h : j < l.length) (hm : m = 266 * j) (hs : s = 133) : takeN s (List.drop 133 (List.drop m (rowsC prfC l))) = some (entC l[j].b) := by
  rw [rowsC_at prfC_length h hm]
  unfold prfC
  rw [List.append_assoc, List.drop_append, List.drop_eq_nil_of_le (by rw [entC_length]; exact Nat.le_refl _), List.nil_append, entC_length]
  exact takeN_app (by rw [entC_length, hs])
def MK2 : FuncId → List Mode := orElse [(39, [.bw]), (16, [.rd]), (32, [])] MK
def PLhv : Nat → Bool × Plan := plans [(6, (false, (takesTo [0, 1, 2, 3, 4, 5, 6, 7, 8, 9, 10, 11] (.all [(12, (.all [(13, .done)]))]))))]
set_option maxRecDepth 20000 in
set_option maxHeartbeats 2000000 in
theorem heavy13_ok (m : Msg) : ACall Tryd.prog 16 [.agg (msgC m)] (.bool (heavyM m)) [] := by
  have h := heavy11_ok m.es
  unfold heavyM
  refine ACall.of_does TTok Tryd.func16 rfl Tryd.call16 rfl (wpc_sound (M := MK2) (PL := PLhv) (CU := cutAt [100001]) TTok mixed _ _ _ ?_)
  conv => whnf
  repeat ((refine ⟨rfl, ?_⟩); conv => whnf)
  refine Does.freeze 0 rfl (Does.tidy [(1, .rop (msgC m))] [] 1 46 rfl rfl rfl (by kernel_rfl) (by kernel_rfl) ?_)
  refine wpc_sound (M := MK2) (PL := PLhv) (CU := noCut) TTok mixed _ _ _ ?_
  by_cases c1 : 60 < m.hs.length
  · rw [dt c1]
    conv => whnf
    repeat ((first | refine ifB_t ?_ | (refine ifB_pos (decide_eq_true (by first | omega | rfl | (dsimp only; omega))) ?_) | refine ⟨rfl, ?_⟩ | refine ⟨_, rfl, ?_⟩); conv => whnf)
    rfl
  rw [df c1]
  by_cases c2 : 60 < m.ps.length
  · rw [dt c2]
    conv => whnf
    repeat ((first | refine ifB_t ?_ | refine ifB_f ?_ | (refine ifB_neg (decide_eq_false (by first | omega | rfl | (dsimp only; omega))) ?_) | (refine ifB_pos (decide_eq_true (by first | omega | rfl | (dsimp only; omega))) ?_) | refine ⟨rfl, ?_⟩ | refine ⟨_, rfl, ?_⟩); conv => whnf)
    rfl
  rw [df c2]
  by_cases c3 : 60 < m.es.length
  · rw [dt c3]
    conv => whnf
    repeat ((first | refine ifB_t ?_ | refine ifB_f ?_ | (refine ifB_neg (decide_eq_false (by first | omega | rfl | (dsimp only; omega))) ?_) | (refine ifB_pos (decide_eq_true (by first | omega | rfl | (dsimp only; omega))) ?_) | refine ⟨rfl, ?_⟩ | refine ⟨_, rfl, ?_⟩); conv => whnf)
    rfl
  rw [df c3]
  cases c4 : heavyEs m.es <;> rw [c4] at h
  case true =>
    conv => whnf
    repeat ((first | refine ifB_f ?_ | (refine ifB_neg (decide_eq_false (by first | omega | rfl | (dsimp only; omega))) ?_) | refine ⟨rfl, ?_⟩ | refine ⟨_, rfl, ?_⟩ | refine ⟨(show pureL (rowsC _ _) = true from by first | exact prfs_pure _ | exact ents_pure _ | exact hds_pure _ | exact lets_pure _), ?_⟩); conv => whnf)
    refine ⟨_, _, h, by first | rfl | simp [noRoIf, noRoL, noRoV, noRoL_bys], ?_⟩
    conv => whnf
    repeat ((first | refine ifB_t ?_ | refine ifB_f ?_ | refine ⟨rfl, ?_⟩); conv => whnf)
    rfl
  conv => whnf
  repeat ((first | refine ifB_f ?_ | (refine ifB_neg (decide_eq_false (by first | omega | rfl | (dsimp only; omega))) ?_) | refine ⟨rfl, ?_⟩ | refine ⟨_, rfl, ?_⟩ | refine ⟨(show pureL (rowsC _ _) = true from by first | exact prfs_pure _ | exact ents_pure _ | exact hds_pure _ | exact lets_pure _), ?_⟩); conv => whnf)
  refine ⟨_, _, h, by first | rfl | simp [noRoIf, noRoL, noRoV, noRoL_bys], ?_⟩
  conv => whnf
  repeat ((refine ifB_f ?_); conv => whnf)
  refine Does.loop (fun c : Nat => mkSt [(1, .rop (msgC m)), (3, .int .i64 c)] [] 0 46)
    (fun c => c ≤ m.ps.length ∧ (m.ps.drop c).any heavyP = m.ps.any heavyP) (fun c => m.ps.length - c) ?_ 0 ⟨Nat.zero_le _, by rw [List.drop_zero]⟩ ?_
  · rintro c ⟨hc, hx⟩
    rcases Nat.lt_or_ge c m.ps.length with k1 | k1
    · have ga : ∀ i, i = 266 * c → takeN 133 (List.drop 0 (List.drop i (rowsC prfC m.ps))) = some (entC m.ps[c].a) := fun i hi => prf_a k1 hi rfl
      have gb : ∀ i, i = 266 * c → takeN 133 (List.drop 133 (List.drop i (rowsC prfC m.ps))) = some (entC m.ps[c].b) := fun i hi => prf_b k1 hi rfl
      have hz : ∀ i, i = 266 * c → (List.drop i (rowsC prfC m.ps)).length ≠ 0 := fun i hi => by rw [List.length_drop, prfs_len]; omega
      have tk : ∀ {ops : Array Oper} {st : St} {dst : Option Tmp} {ty : TypeId} {pos : String} {af : Array Edge} {t : TypeId} {a : Operand} {cs : List AV}, evalO st.env a = .rop cs → cs.length ≠ 0 → takeOk ops ⟨dst, .load t a, ty, pos, af, none⟩ st = true := by
        intro ops st dst ty pos af t a cs he hne
        show roLoad st (.load t a) = true
        simp only [roLoad, he]
        cases cs with
        | nil => simp at hne
        | cons x r => rfl
      have h2 := heavy11_ok [m.ps[c].a, m.ps[c].b]
      rw [List.drop_eq_getElem_cons k1, List.any_cons] at hx
      rw [show heavyP m.ps[c] = heavyEs [m.ps[c].a, m.ps[c].b] from rfl] at hx
      refine wpc_sound (M := MK2) (PL := PLhv) (CU := noCut) TTok mixed _ _ _ ?_
      conv => whnf
      repeat ((first | (refine ifB_pos (decide_eq_true (by first | omega | rfl | (dsimp only; omega))) ?_) | refine ⟨_, rfl, ?_⟩); conv => whnf)
      refine ⟨by kernel_rfl, ?_⟩
      conv => whnf
      repeat ((first | refine ⟨rfl, ?_⟩ | refine ⟨_, rfl, ?_⟩ | (refine ⟨⟨?_, ?_, ?_⟩, ?_⟩; (focus omega); (focus (first | omega | (simp; done) | (simp; omega))); (focus (first | (rw [prfs_len]; simp; omega) | (rw [ents_len]; simp; omega) | (rw [hds_len]; simp; omega) | (rw [lets_len]; simp; omega))))); conv => whnf)
      refine ⟨tk rfl (by rw [List.drop_zero]; exact hz _ (by simp; omega)), ?_⟩
      conv => whnf
      refine ⟨_, ga _ (by simp; omega), ?_⟩
      conv => whnf
      repeat ((first | refine ⟨rfl, ?_⟩ | refine ⟨_, rfl, ?_⟩ | (refine ⟨⟨?_, ?_, ?_⟩, ?_⟩; (focus omega); (focus (first | omega | (simp; done) | (simp; omega))); (focus (first | (rw [prfs_len]; simp; omega) | (rw [ents_len]; simp; omega) | (rw [hds_len]; simp; omega) | (rw [lets_len]; simp; omega))))); conv => whnf)
      refine ⟨tk rfl (by rw [List.length_drop]; have := rowsC_at prfC_length k1 (rfl : 266 * c = 266 * c); have e : (List.drop (266 * c) (rowsC prfC m.ps)).length = 266 * (m.ps.length - c) := (by rw [List.length_drop, prfs_len]; omega); rw [List.length_drop, prfs_len]; simp; omega), ?_⟩
      conv => whnf
      refine ⟨_, gb _ (by simp; omega), ?_⟩
      conv => whnf
      repeat ((first | (refine Or.inl ⟨⟨rfl, ?_⟩, ?_⟩; (focus (first | rfl | (simp; done) | (rw [toksC_length]; omega)))) | refine ⟨rfl, ?_⟩ | refine ⟨⟨rfl, rfl⟩, ?_⟩ | (refine And.intro ?_ ?_; (focus (first | (simp only [pureL, pureV, pureL_bys, Bool.and_true, Bool.and_self]; done) | (simp only [pureL, pureV, pureL_bys, pureL_toks, Bool.and_true, Bool.and_self]; done))))); conv => whnf)
      cases c5 : heavyEs [m.ps[c].a, m.ps[c].b] <;> rw [c5] at h2 hx
      · rw [Bool.false_or] at hx
        refine ⟨_, _, h2.arg1 rfl (by simp [rowsC]; rfl), by first | rfl | simp [noRoIf, noRoL, noRoV, noRoL_bys], ?_⟩
        conv => whnf
        repeat ((first | refine ifB_f ?_ | (refine fit_i64 ⟨by first | omega | rfl | (dsimp only; omega), by first | omega | rfl | (dsimp only; omega)⟩ ?_)); conv => whnf)
        exact ⟨c + 1, ⟨by omega, hx⟩, by omega, weaker_of [] rfl rfl ⟨⟨rfl, msgC_pure m⟩, ⟨rfl, rfl⟩, trivial⟩ trivial⟩
      · rw [Bool.true_or] at hx
        rw [← hx]
        refine ⟨_, _, h2.arg1 rfl (by simp [rowsC]; rfl), by first | rfl | simp [noRoIf, noRoL, noRoV, noRoL_bys], ?_⟩
        conv => whnf
        repeat ((first | refine ifB_t ?_ | refine ⟨rfl, ?_⟩); conv => whnf)
        rfl
    · obtain rfl : c = m.ps.length := by omega
      rw [List.drop_length] at hx
      rw [← hx]
      refine wpc_sound (M := MK2) (PL := PLhv) (CU := noCut) TTok mixed _ _ _ ?_
      conv => whnf
      repeat ((first | (refine ifB_neg (decide_eq_false (by first | omega | rfl | (dsimp only; omega))) ?_) | refine ⟨rfl, ?_⟩ | refine ⟨_, rfl, ?_⟩); conv => whnf)
      rfl
  · exact weaker_of [] rfl rfl ⟨⟨rfl, msgC_pure m⟩, ⟨rfl, rfl⟩, trivial⟩ trivial
end Go.Proofs.YtelnlfhdaelfdaaDoor.Abs
end
section
set_option linter.unusedVariables false
set_option linter.unusedSimpArgs false
namespace Go.Proofs.YtelnlfhdaelfdaaDoor.Abs
open Go
theorem arr32_of_ty {n : Nat} {y : List AV} (h : TyL TT (n + 2) 63 y) : ∃ l : List Int, y = bys l ∧ Byt l ∧ l.length = 32 := by
  obtain ⟨es, rfl, hl, he⟩ := h
  obtain ⟨l, h1, h2, h3⟩ := bytes_of_ty ⟨_, show TT 5 = some _ from rfl, rfl⟩ es he
  exact ⟨l, h1, h3, by rw [h2, hl]⟩
theorem arr64_of_ty {n : Nat} {y : List AV} (h : TyL TT (n + 2) 64 y) : ∃ l : List Int, y = bys l ∧ Byt l ∧ l.length = 64 := by
  obtain ⟨es, rfl, hl, he⟩ := h
  obtain ⟨l, h1, h2, h3⟩ := bytes_of_ty ⟨_, show TT 5 = some _ from rfl, rfl⟩ es he
  exact ⟨l, h1, h3, by rw [h2, hl]⟩
theorem ent_of_ty {n : Nat} {y : List AV} (h : TyL TT (n + 4) 66 y) : ∃ e : Ent, y = entC e ∧ EntOk e := by
  obtain ⟨ys, rfl, a, r, rfl, ha, b, r', rfl, ⟨sq, rfl, s1, s2⟩, c, r2, rfl, hc, d, r3, rfl, ⟨st, rfl, t1, t2⟩, o, r4, rfl, ⟨os, rfl, o1, q1, rfl, ⟨kd, rfl, k1, k2⟩, o2, q2, rfl, ⟨ky, rfl, y1, y2⟩, o3, q3, rfl, hv, rfl⟩, g, r5, rfl, hg, rfl⟩ := h
  obtain ⟨au, rfl, u1, u2⟩ := arr32_of_ty ha
  obtain ⟨pv, rfl, v1, v2⟩ := arr32_of_ty hc
  obtain ⟨sg, rfl, g1, g2⟩ := arr64_of_ty hg
  obtain ⟨vl, rfl, w1, w2⟩ := bytes_of_slice hv
  simp only [IntKind.lo, IntKind.hi] at s1 s2 t1 t2 k1 k2
  refine ⟨⟨au, sq, pv, st, kd, ky, vl, sg⟩, ?_, { au := ⟨u1, u2⟩, seq := ⟨s1, by dsimp only; omega⟩, prev := ⟨v1, v2⟩, stamp := ⟨t1, by dsimp only; omega⟩, kind := ⟨k1, by dsimp only; omega⟩, key := ⟨y1, y2⟩, val := ⟨w1, w2⟩, sig := ⟨g1, g2⟩ }⟩
  unfold entC
  rw [c32_eq u2, c32_eq v2, c64_eq g2]
  simp
theorem hd_of_ty {n : Nat} {y : List AV} (h : TyL TT (n + 4) 68 y) : ∃ e : Hd, y = hdC e ∧ HdS e := by
  obtain ⟨ys, rfl, a, r, rfl, ha, b, r', rfl, ⟨sq, rfl, s1, s2⟩, c, r2, rfl, hc, d, r3, rfl, ⟨st, rfl⟩, rfl⟩ := h
  obtain ⟨au, rfl, u1, u2⟩ := arr32_of_ty ha
  obtain ⟨pv, rfl, v1, v2⟩ := arr32_of_ty hc
  simp only [IntKind.lo, IntKind.hi] at s1 s2
  refine ⟨⟨au, sq, pv, st⟩, ?_, { au := ⟨u1, u2⟩, len := ⟨s1, by dsimp only; omega⟩, id := ⟨v1, v2⟩ }⟩
  unfold hdC
  rw [c32_eq u2, c32_eq v2]
  simp
def PrfO (p : Prf) : Prop := EntOk p.a ∧ EntOk p.b
theorem prf_of_ty {n : Nat} {y : List AV} (h : TyL TT (n + 5) 71 y) : ∃ e : Prf, y = prfC e ∧ PrfO e := by
  obtain ⟨ys, rfl, a, r, rfl, ha, b, r', rfl, hb, rfl⟩ := h
  obtain ⟨e, rfl, h1⟩ := ent_of_ty ha
  obtain ⟨f, rfl, h2⟩ := ent_of_ty hb
  exact ⟨⟨e, f⟩, by simp [prfC], h1, h2⟩
theorem rows_of_ty {α : Type} {n : Nat} {t : TypeId} {f : α → List AV} {ok : α → Prop} (H : ∀ y, TyL TT n t y → ∃ e : α, y = f e ∧ ok e) : ∀ es : List (List AV), (∀ y ∈ es, TyL TT n t y) → ∃ l : List α, es.flatten = rowsC f l ∧ l.length = es.length ∧ ∀ x ∈ l, ok x
  | [], _ => ⟨[], rfl, rfl, by simp⟩
  | y :: es, h => by
    obtain ⟨l, h1, h2, h3⟩ := rows_of_ty H es fun z hz => h z (by simp [hz])
    obtain ⟨e, rfl, k⟩ := H y (h y (by simp))
    refine ⟨e :: l, by simp [h1, rowsC], by simp [h2], fun x hx => ?_⟩
    rcases List.mem_cons.1 hx with rfl | hx
    · exact k
    · exact h3 x hx
structure MsgO (m : Msg) : Prop where
  kind : -9223372036854775808 ≤ m.kind ∧ m.kind < 9223372036854775808
  frm : -9223372036854775808 ≤ m.frm ∧ m.frm < 9223372036854775808
  to : -9223372036854775808 ≤ m.to ∧ m.to < 9223372036854775808
  hs : ∀ h ∈ m.hs, HdS h
  ps : ∀ p ∈ m.ps, PrfO p
  es : ∀ e ∈ m.es, EntOk e
theorem msg_of_ty {n : Nat} {y : List AV} (h : TyL TT (n + 7) 27 y) : ∃ m : Msg, y = msgC m ∧ MsgO m := by
  obtain ⟨ys, rfl, a, r, rfl, ⟨kd, rfl, s1, s2⟩, b, r', rfl, ⟨fr, rfl, f1, f2⟩, c, r2, rfl, ⟨tw, rfl, t1, t2⟩, d, r3, rfl, ⟨hs, rfl, _, hh⟩, o, r4, rfl, ⟨ps, rfl, _, hp⟩, g, r5, rfl, ⟨es, rfl, _, he⟩, rfl⟩ := h
  obtain ⟨hs', e1, e2, e3⟩ := rows_of_ty (fun y h => hd_of_ty h) hs hh
  obtain ⟨ps', e4, e5, e6⟩ := rows_of_ty (fun y h => prf_of_ty h) ps hp
  obtain ⟨es', e7, e8, e9⟩ := rows_of_ty (fun y h => ent_of_ty h) es he
  simp only [IntKind.lo, IntKind.hi] at s1 s2 t1 t2 f1 f2
  exact ⟨⟨kd, fr, tw, hs', ps', es'⟩, by simp [msgC, e1, e2, e4, e5, e7, e8], { kind := ⟨s1, by dsimp only; omega⟩, frm := ⟨f1, by dsimp only; omega⟩, to := ⟨t1, by dsimp only; omega⟩, hs := e3, ps := e6, es := e9 }⟩
/-- What is not heavy may be walked. -/
theorem msgS_of {m : Msg} (h : MsgO m) (hv : heavyM m = false) : MsgS m := by
  obtain ⟨h1, h2, h3, h4, h5⟩ := heavyM_no hv
  refine { kind := h.kind, frm := h.frm, to := h.to, hs := h.hs, ps := fun p hp => ?_, es := fun e he => ?_, hl := by omega, pl := by omega, el := by omega }
  · have := h5 p hp
    have k := h.ps p hp
    exact ⟨{ k.1 with key' := by omega, val' := by omega }, { k.2 with key' := by omega, val' := by omega }⟩
  · have := h4 e he
    exact { h.es e he with key' := by omega, val' := by omega }
end Go.Proofs.YtelnlfhdaelfdaaDoor.Abs
end
section
set_option linter.unusedVariables false
set_option linter.unusedSimpArgs false
namespace Go.Proofs.YtelnlfhdaelfdaaDoor.Abs
open Go
theorem ACall.ownArg {P : Program} {f : FuncId} {len esz : Nat} {cs : List AV} {r : AV} (h : ACall P f [.ro len cs] r []) : ACall P f [.own len esz cs] r [] := by
  refine ⟨h.1, fun Z E vals X hh hr hn hz => ?_⟩
  simp only [RepBL] at hr
  obtain ⟨u, us, Y, Y', e1, e2, h1, rfl, rfl⟩ := hr
  subst e1
  rw [List.append_nil] at e2
  subst e2
  have hro := roOf_own (Z := Z) (fun b hb => (hh.V b).2 (.inl (.inl hb))) hz h1
  have hW : ∀ b, ¬ Wr E.ρ noHeap b := fun b ⟨id, c, k, _⟩ => by cases k
  have H1 : HeapRep (fun b => Z b ∨ b ∈ ([] : List Nat)) ⟨E.η, E.ρ, Z, E.w⟩ noHeap 0 := {
    blk := fun id c k => by cases k
    inj := fun id id' n k => (k rfl).elim
    V := fun b => ⟨fun k => .inl (.inl k), fun k => by
      rcases k with (k | k) | k
      · exact k
      · exact absurd k (List.not_mem_nil)
      · exact (hW b k).elim⟩
    apart := fun id n k => (k rfl).elim
    fresh := hh.fresh
    one := hh.one
    old := hh.old
    zold := fun b k => by
      rcases k with k | k
      · exact hh.zold b (.inl k)
      · exact absurd k (List.not_mem_nil)
    tab := fun g k l hg => by
      obtain ⟨t1, t2, t3⟩ := hh.tab g k l hg
      exact ⟨t1, fun hv => t2 ((hh.V g).2 (.inl (.inl hv))), t3⟩ }
  have hb : RepBL ⟨E.η, E.ρ, Z, E.w⟩ [.ro len cs] [u] [] := by
    simp only [RepBL]
    exact ⟨u, [], [], [], rfl, rfl, hro, rfl, rfl⟩
  refine (h.2 Z ⟨E.η, E.ρ, Z, E.w⟩ [u] [] H1 hb List.nodup_nil (fun b hb => absurd hb (List.not_mem_nil))).mono ?_
  rintro e w' ⟨v, E', Xr, he, hw, hη, hev, hV, hB, hnd, hX⟩
  exact ⟨v, E', Xr, he, hw, hη, hev.mono (fun x hx => absurd hx (List.not_mem_nil)), hV, hB, hnd, fun b hb => ⟨(hX b hb).1, fun k => absurd ((hX b hb).2.1 k) (List.not_mem_nil), (hX b hb).2.2⟩⟩
mutual
theorem unborder_pure {E : Env} : ∀ (x : AV) (v : Value) (X : List Nat), pureV x = true → RepB E x v X → RepV E x v ∧ X = []
  | .own _ _ _, v, X, hp, _ => by simp [pureV] at hp
  | .ref _, v, X, hp, _ => by simp [pureV] at hp
  | .sl _ _ _ _ _, v, X, hp, _ => by simp [pureV] at hp
  | .ptr _ _, v, X, hp, _ => by simp [pureV] at hp
  | .agg cs, v, X, hp, h => by
    simp only [RepB] at h
    obtain ⟨vs, rfl, hl⟩ := h
    have := unborderL_pure cs _ X (by simpa [pureV] using hp) hl
    simp only [RepV]
    exact ⟨⟨vs, rfl, this.1⟩, this.2⟩
  | .tuple cs, v, X, hp, h => by
    simp only [RepB] at h
    obtain ⟨vs, rfl, hl⟩ := h
    have := unborderL_pure cs _ X (by simpa [pureV] using hp) hl
    simp only [RepV]
    exact ⟨⟨vs, rfl, this.1⟩, this.2⟩
  | .top, v, X, hp, h => by simp only [RepB] at h; exact ⟨h.2.1, h.2.2⟩
  | .int k n, v, X, hp, h => by simp only [RepB] at h; exact ⟨h.2.1, h.2.2⟩
  | .bool b, v, X, hp, h => by simp only [RepB] at h; exact ⟨h.2.1, h.2.2⟩
  | .anyb, v, X, hp, h => by simp only [RepB] at h; exact ⟨h.2.1, h.2.2⟩
  | .str s, v, X, hp, h => by simp only [RepB] at h; exact ⟨h.2.1, h.2.2⟩
  | .nil, v, X, hp, h => by simp only [RepB] at h; exact ⟨h.2.1, h.2.2⟩
  | .ro len cs, v, X, hp, h => by simp only [RepB] at h; exact ⟨h.2.1, h.2.2⟩
  | .rop cs, v, X, hp, h => by simp only [RepB] at h; exact ⟨h.2.1, h.2.2⟩
  | .nilp, v, X, hp, h => by simp only [RepB] at h; exact ⟨h.2.1, h.2.2⟩
  | .hid i, v, X, hp, h => by simp only [RepB] at h; exact ⟨h.2.1, h.2.2⟩
  | .fn f cs, v, X, hp, h => by simp only [RepB] at h; exact ⟨h.2.1, h.2.2⟩
theorem unborderL_pure {E : Env} : ∀ (cs : List AV) (vs : List Value) (X : List Nat), pureL cs = true → RepBL E cs vs X → RepL E cs vs ∧ X = []
  | [], vs, X, _, h => by
    simp only [RepBL] at h
    simp only [RepL]
    exact h
  | c :: cs, vs, X, hp, h => by
    simp only [pureL, Bool.and_eq_true] at hp
    simp only [RepBL] at h
    obtain ⟨u, us, Y, Y', rfl, rfl, h1, h2⟩ := h
    have a := unborder_pure c u Y hp.1 h1
    have b := unborderL_pure cs us Y' hp.2 h2
    simp only [RepL]
    exact ⟨⟨u, us, rfl, a.1, b.1⟩, by rw [a.2, b.2]; rfl⟩
end
/-- Arguments that tell more than the contract asks. -/
theorem ACall.les {P : Program} {f : FuncId} {xs ys : List AV} {r : AV} (h : ACall P f ys r []) (hx : pureL xs = true) (hy : pureL ys = true) (hl : lesP (fun _ => none) ys xs) : ACall P f xs r [] := by
  refine ⟨h.1, fun Z E vals X hh hr hn hz => ?_⟩
  obtain ⟨k1, rfl⟩ := unborderL_pure xs vals X hx hr
  have k2 := lesP_ok (E := E) (E' := E) ⟨rfl, rfl⟩ (fun b hb => hb) (fun i j n hi => by cases hi) ys xs _ hl k1
  have k3 := borderL_pure ys vals hy k2
  have := h.2 Z E vals [] hh k3 hn hz
  rw [refVals_pure ys vals hy] at this
  rw [refVals_pure xs vals hx]
  exact this
end Go.Proofs.YtelnlfhdaelfdaaDoor.Abs
end
section
--KR
set_option linter.unusedVariables false
set_option linter.unusedSimpArgs false
namespace Go.Proofs.YtelnlfhdaelfdaaDoor.Abs
open Go
attribute [local irreducible] ifB fitP Does Weaker
def ML : FuncId → List Mode := orElse [(34, [.bw, .bw])] MK2
/-- A message without heads, entries, proofs. -/
def msgE (k f t : Int) : Msg := ⟨k, f, t, [], [], []⟩
theorem msgE_S {k f t : Int} (h1 : -9223372036854775808 ≤ k ∧ k < 9223372036854775808) (h2 : -9223372036854775808 ≤ f ∧ f < 9223372036854775808) (h3 : -9223372036854775808 ≤ t ∧ t < 9223372036854775808) : MsgS (msgE k f t) where
  kind := h1
  frm := h2
  to := h3
  hs := fun h hh => absurd hh (List.not_mem_nil)
  ps := fun h hh => absurd hh (List.not_mem_nil)
  es := fun h hh => absurd hh (List.not_mem_nil)
  hl := by simp [msgE]
  pl := by simp [msgE]
  el := by simp [msgE]
theorem wakeB : msgB (msgE 1 0 1) = ([132, 3, 0, 1, 128], 0) := by
  have hr : msgR (msgE 1 0 1) = true := by decide
  unfold msgB
  rw [if_pos hr]
  unfold msgT
  rw [if_pos (show (msgE 1 0 1).kind = 1 from rfl), fr_yes (by decide) (by decide) (by decide) (fun h hh => absurd hh (List.not_mem_nil))]
  decide
theorem msgB_byt {m : Msg} (hm : MsgS m) : Byt (msgB m).1 ∧ (msgB m).1.length ≤ 32768 := by
  rcases msgB_or m with h | ⟨a, h⟩
  · rw [h]; exact ⟨fun x hx => absurd hx (List.not_mem_nil), by simp⟩
  · have := msgB_toks (m := m) (by rw [h])
    refine ⟨by have k := encR_byt _ (msgT_toks hm); rwa [this.2] at k, ?_⟩
    exact encR_len this.2
theorem e_args {g : FuncId} {k f t : Int} {r : AV} (h : ACall Tryd.prog g [.agg (msgC (msgE k f t))] r []) : ACall Tryd.prog g [.agg (msgV k f t .nil .nil .nil)] r [] := h.les rfl rfl ⟨⟨⟨rfl, rfl⟩, ⟨rfl, rfl⟩, ⟨rfl, rfl⟩, ⟨rfl, rfl⟩, ⟨rfl, rfl⟩, ⟨rfl, rfl⟩, trivial⟩, trivial⟩
theorem msgC_les {o : Nat → Option Nat} (m : Msg) : lesP o (msgC m) (msgC m) := ⟨⟨rfl, rfl⟩, ⟨rfl, rfl⟩, ⟨rfl, rfl⟩, ⟨rfl, rfl, hds_pure _⟩, ⟨rfl, rfl, prfs_pure _⟩, ⟨rfl, rfl, ents_pure _⟩, trivial⟩
theorem e_args2 {g : FuncId} {k f t : Int} {m : Msg} {r : AV} (h : ACall Tryd.prog g [.agg (msgC m), .agg (msgC (msgE k f t))] r []) : ACall Tryd.prog g [.agg (msgC m), .agg (msgV k f t .nil .nil .nil)] r [] :=
  h.les (by simp only [pureL, pureV, msgC_pure]; rfl) (by simp only [pureL, pureV, msgC_pure]; rfl) ⟨msgC_les m, ⟨⟨rfl, rfl⟩, ⟨rfl, rfl⟩, ⟨rfl, rfl⟩, ⟨rfl, rfl⟩, ⟨rfl, rfl⟩, ⟨rfl, rfl⟩, trivial⟩, trivial⟩
set_option maxHeartbeats 1000000 in
theorem wakes13_ok : ACall Tryd.prog 32 [] (.bool true) [] := by
  have hm : MsgS (msgE 1 0 1) := msgE_S (by omega) (by omega) (by omega)
  have hb := (msg_bytes_ok _ hm).roRes2 (.inl ⟨_, _, rfl⟩)
  have hy := msgB_byt hm
  have hr := rdMsg_bytes hm (by rw [wakeB])
  have hc := check_msg_ok _ hm
  have ho := mread_ok _ hy.1 (by omega)
  have hk := kmsg_ok _ _ hm hm
  rw [hr.2] at ho
  rw [hr.1] at hc
  rw [wakeB] at hb ho
  dsimp only at hb ho
  rw [dt rfl] at hk
  have he := bytes_ok [132, 3, 0, 1, 128] [132, 3, 0, 1, 128] (by simp)
  refine ACall.of_does TTok Tryd.func32 rfl Tryd.call32 rfl (wpc_sound (M := ML) (PL := PL0) (CU := noCut) TTok mixed _ _ _ ?_)
  conv => whnf
  repeat ((first | refine ⟨(⟨by kernel_rfl, by kernel_rfl, Nat.le_of_ble_eq_true (by kernel_rfl)⟩ : AV.ones _ = true ∧ _ ∧ _), ?_⟩ | refine ⟨rfl, ?_⟩ | refine ⟨_, rfl, ?_⟩); conv => whnf)
  refine ⟨_, _, e_args hb, by first | rfl | simp [noRoIf, noRoL, noRoV, noRoL_bys], ?_⟩
  conv => whnf
  repeat ((first | refine ⟨pureL_bys _, ?_⟩ | refine ⟨rfl, ?_⟩); conv => whnf)
  refine ⟨_, _, ho, by first | rfl | simp [noRoIf, noRoL, noRoV, noRoL_bys], ?_⟩
  conv => whnf
  repeat ((first | refine ifB_t ?_ | refine ⟨pureL_bys _, ?_⟩ | refine ⟨(⟨by kernel_rfl, by kernel_rfl, Nat.le_of_ble_eq_true (by kernel_rfl)⟩ : AV.ones _ = true ∧ _ ∧ _), ?_⟩ | (refine Or.inl ⟨⟨rfl, ?_⟩, ?_⟩; (focus (first | rfl | (simp; done) | (rw [toksC_length]; omega)))) | refine ⟨rfl, ?_⟩); conv => whnf)
  refine ⟨_, _, he, by first | rfl | simp [noRoIf, noRoL, noRoV, noRoL_bys], ?_⟩
  conv => whnf
  repeat ((first | refine ifB_t ?_ | refine ⟨rfl, ?_⟩ | refine ⟨_, rfl, ?_⟩); conv => whnf)
  refine ⟨_, _, e_args2 hk, by first | rfl | simp [noRoIf, noRoL, noRoV, noRoL_bys], ?_⟩
  conv => whnf
  repeat ((first | refine ifB_t ?_ | refine ⟨rfl, ?_⟩ | refine ⟨_, rfl, ?_⟩); conv => whnf)
  refine ⟨_, _, e_args hc, by first | rfl | simp [noRoIf, noRoL, noRoV, noRoL_bys], ?_⟩
  conv => whnf
  repeat ((first | refine ifB_t ?_ | refine ⟨rfl, ?_⟩); conv => whnf)
  rfl
end Go.Proofs.YtelnlfhdaelfdaaDoor.Abs
end
section
--KR
set_option linter.unusedVariables false
set_option linter.unusedSimpArgs false
namespace Go.Proofs.YtelnlfhdaelfdaaDoor.Abs
open Go
attribute [local irreducible] ifB fitP Does Weaker
theorem msgE_R {k f t : Int} (hk : k = 1 ∨ k = 2) : msgR (msgE k f t) = (decide (0 ≤ f) && decide (f < 8) && decide (0 ≤ t) && decide (t < 8) && decide (f ≠ t)) := by
  unfold msgR msgE whoR
  dsimp only
  rcases hk with rfl | rfl
  · rw [if_pos rfl, show headsR [] = true by decide]; simp
  · rw [if_neg (by omega), if_pos rfl]; simp
theorem mod2_ok (k : Int) : ∃ c : Int, (k % 18446744073709551616).tmod 2 = c ∧ (c = 0 ∨ c = 1) := by
  have h0 : 0 ≤ k % 18446744073709551616 := by omega
  have a := Int.tmod_nonneg 2 h0
  have b := Int.tmod_lt_of_pos (k % 18446744073709551616) (show (0 : Int) < 2 by omega)
  exact ⟨_, rfl, by omega⟩
set_option maxHeartbeats 1000000 in
theorem wireWho_ok (f t k : Int) (hf : -9223372036854775808 ≤ f ∧ f < 9223372036854775808) (ht : -9223372036854775808 ≤ t ∧ t < 9223372036854775808) (hk : -9223372036854775808 ≤ k ∧ k < 9223372036854775808) :
    ACall Tryd.prog 12 [.int .i64 f, .int .i64 t, .int .i64 k] (.bool true) [] := by
  obtain ⟨c, hc, hc2⟩ := mod2_ok k
  have w := wrap_u64 k
  have hm : MsgS (msgE (1 + c) f t) := msgE_S (by omega) hf ht
  have hR := msgE_R (k := 1 + c) (f := f) (t := t) (by omega)
  have hb := (msg_bytes_ok _ hm).roRes2 (.inl ⟨_, _, rfl⟩)
  have hch := check_msg_ok _ hm
  refine ACall.of_does TTok Tryd.func12 rfl Tryd.call12 rfl (wpc_sound (M := ML) (PL := PL0) (CU := cutAt [200002]) TTok mixed _ _ _ ?_)
  conv => whnf
  refine fit_wrap ?_
  rw [w]
  conv => whnf
  repeat ((first | (refine fit_i64 ⟨by first | omega | rfl | (dsimp only; omega), by first | omega | rfl | (dsimp only; omega)⟩ ?_) | refine ⟨(⟨by kernel_rfl, by kernel_rfl, Nat.le_of_ble_eq_true (by kernel_rfl)⟩ : AV.ones _ = true ∧ _ ∧ _), ?_⟩ | refine ⟨rfl, ?_⟩ | (refine And.intro (by first | omega | rfl | (dsimp only; omega)) ?_)); conv => whnf)
  rw [hc]
  conv => whnf
  refine Does.seqCut (fun ok : Bool => mkSt [(7, .ptr 0 0), (8, .bool ok)] [(0, msgV (1 + c) f t .nil .nil .nil)] 1 86) (fun ok => ok = msgR (msgE (1 + c) f t)) ?_ ?_
  · rw [hR]
    refine wpc_sound (M := ML) (PL := PL0) (CU := noCut) TTok mixed _ _ _ ?_
    by_cases a1 : 0 ≤ f
    · rw [dt a1]
      by_cases a2 : f < 8
      · rw [dt a2]
        by_cases a3 : 0 ≤ t
        · rw [dt a3]
          by_cases a4 : t < 8
          · rw [dt a4]
            conv => whnf
            repeat ((first | refine ifB_t ?_ | (refine ifB_pos (decide_eq_true (by first | omega | rfl | (dsimp only; omega))) ?_) | refine ⟨_, rfl, ?_⟩); conv => whnf)
            exact Weaker.tidy _ _ _ _ rfl rfl rfl (by kernel_rfl) (by kernel_rfl)
          · rw [df a4]
            conv => whnf
            repeat ((first | refine ifB_t ?_ | refine ifB_f ?_ | (refine ifB_neg (decide_eq_false (by first | omega | rfl | (dsimp only; omega))) ?_) | (refine ifB_pos (decide_eq_true (by first | omega | rfl | (dsimp only; omega))) ?_) | refine ⟨_, rfl, ?_⟩); conv => whnf)
            exact Weaker.tidy _ _ _ _ rfl rfl rfl (by kernel_rfl) (by kernel_rfl)
        · rw [df a3]
          conv => whnf
          repeat ((first | refine ifB_t ?_ | refine ifB_f ?_ | (refine ifB_neg (decide_eq_false (by first | omega | rfl | (dsimp only; omega))) ?_) | (refine ifB_pos (decide_eq_true (by first | omega | rfl | (dsimp only; omega))) ?_) | refine ⟨_, rfl, ?_⟩); conv => whnf)
          exact Weaker.tidy _ _ _ _ rfl rfl rfl (by kernel_rfl) (by kernel_rfl)
      · rw [df a2]
        conv => whnf
        repeat ((first | refine ifB_t ?_ | refine ifB_f ?_ | (refine ifB_neg (decide_eq_false (by first | omega | rfl | (dsimp only; omega))) ?_) | (refine ifB_pos (decide_eq_true (by first | omega | rfl | (dsimp only; omega))) ?_) | refine ⟨_, rfl, ?_⟩); conv => whnf)
        exact Weaker.tidy _ _ _ _ rfl rfl rfl (by kernel_rfl) (by kernel_rfl)
    · rw [df a1]
      conv => whnf
      repeat ((first | refine ifB_f ?_ | (refine ifB_neg (decide_eq_false (by first | omega | rfl | (dsimp only; omega))) ?_) | refine ⟨_, rfl, ?_⟩); conv => whnf)
      exact Weaker.tidy _ _ _ _ rfl rfl rfl (by kernel_rfl) (by kernel_rfl)
  · rintro ok rfl
    clear hR
    cases hr : msgR (msgE (1 + c) f t) <;> rw [hr] at hch
    · have hz : msgB (msgE (1 + c) f t) = ([], 1) := by unfold msgB; rw [hr]; rfl
      rw [hz] at hb
      refine wpc_sound (M := ML) (PL := PL0) (CU := noCut) TTok mixed _ _ _ ?_
      conv => whnf
      repeat ((first | refine ⟨rfl, ?_⟩ | refine ⟨_, rfl, ?_⟩); conv => whnf)
      refine ⟨_, _, e_args hb, by first | rfl | simp [noRoIf, noRoL, noRoV, noRoL_bys], ?_⟩
      conv => whnf
      repeat ((first | refine ifB_t ?_ | refine ⟨rfl, ?_⟩ | refine ⟨_, rfl, ?_⟩); conv => whnf)
      refine ⟨_, _, e_args hch, by first | rfl | simp [noRoIf, noRoL, noRoV, noRoL_bys], ?_⟩
      conv => whnf
      repeat ((first | refine ifB_t ?_ | refine ⟨rfl, ?_⟩); conv => whnf)
      refine ⟨_, _, wakes13_ok, by first | rfl | simp [noRoIf, noRoL, noRoV, noRoL_bys], ?_⟩
      conv => whnf
      repeat ((first | refine ifB_t ?_ | refine ⟨rfl, ?_⟩); conv => whnf)
      rfl
    · have hB := rdMsg_bytes hm (by have := msgB_err hm; rw [hr] at this; exact of_decide_eq_true this)
      have hy := msgB_byt hm
      have hz : (msgB (msgE (1 + c) f t)).2 = 0 := by have := msgB_err hm; rw [hr] at this; exact of_decide_eq_true this
      have ho := mread_ok _ hy.1 (by omega)
      have hkk := kmsg_ok _ _ hm hm
      rw [hB.2] at ho
      rw [dt rfl] at hkk
      generalize msgB (msgE (1 + c) f t) = o at hb ho hz
      obtain ⟨a, e⟩ := o
      dsimp only at hz hb ho
      subst hz
      refine wpc_sound (M := ML) (PL := PL0) (CU := noCut) TTok mixed _ _ _ ?_
      conv => whnf
      repeat ((first | refine ⟨rfl, ?_⟩ | refine ⟨_, rfl, ?_⟩); conv => whnf)
      refine ⟨_, _, e_args hb, by first | rfl | simp [noRoIf, noRoL, noRoV, noRoL_bys], ?_⟩
      conv => whnf
      repeat ((first | refine ifB_f ?_ | refine ⟨pureL_bys _, ?_⟩ | refine ⟨rfl, ?_⟩); conv => whnf)
      refine ⟨_, _, ho, by first | rfl | simp [noRoIf, noRoL, noRoV, noRoL_bys], ?_⟩
      conv => whnf
      repeat ((first | refine ⟨(⟨by kernel_rfl, by kernel_rfl, Nat.le_of_ble_eq_true (by kernel_rfl)⟩ : AV.ones _ = true ∧ _ ∧ _), ?_⟩ | refine ⟨rfl, ?_⟩ | refine ⟨_, rfl, ?_⟩); conv => whnf)
      refine ⟨_, _, e_args hch, by first | rfl | simp [noRoIf, noRoL, noRoV, noRoL_bys], ?_⟩
      conv => whnf
      repeat ((first | refine ifB_t ?_ | refine ⟨rfl, ?_⟩ | refine ⟨_, rfl, ?_⟩); conv => whnf)
      refine ⟨_, _, e_args2 hkk, by first | rfl | simp [noRoIf, noRoL, noRoV, noRoL_bys], ?_⟩
      conv => whnf
      repeat ((first | refine ifB_t ?_ | refine ⟨rfl, ?_⟩); conv => whnf)
      refine ⟨_, _, wakes13_ok, by first | rfl | simp [noRoIf, noRoL, noRoV, noRoL_bys], ?_⟩
      conv => whnf
      repeat ((first | refine ifB_t ?_ | refine ⟨rfl, ?_⟩); conv => whnf)
      rfl
end Go.Proofs.YtelnlfhdaelfdaaDoor.Abs
end
section
--KR
set_option linter.unusedVariables false
set_option linter.unusedSimpArgs false
namespace Go.Proofs.YtelnlfhdaelfdaaDoor.Abs
open Go
attribute [local irreducible] ifB fitP Does Weaker
theorem mod_len (cut : Int) {n : Nat} (hn : 0 < n) : ∃ c : Nat, (cut % 18446744073709551616).tmod (n : Int) = c ∧ c < n := by
  have h0 : 0 ≤ cut % 18446744073709551616 := by omega
  have a := Int.tmod_nonneg (n : Int) h0
  have b := Int.tmod_lt_of_pos (cut % 18446744073709551616) (show (0 : Int) < n by omega)
  exact ⟨((cut % 18446744073709551616).tmod (n : Int)).toNat, by omega, by omega⟩
theorem msgC_frz (i : Nat) (zs : List AV) (m : Msg) : frzL i zs (msgC m) = msgC m := by simp [msgC, frzL, frzV]
def ML2 : FuncId → List Mode := orElse [(33, [.mv 1])] ML
def PLun : Nat → Bool × Plan := plans [(7, (false, (takesTo [0, 1, 2, 3, 4, 5, 7, 8] (.all [(6, (.all [(9, (takes [10, 11]))]))]))))]
theorem msg0_S : MsgS msg0 := msgE_S (k := 0) (f := 0) (t := 0) (by omega) (by omega) (by omega)
set_option maxRecDepth 20000 in
set_option maxHeartbeats 2000000 in
theorem wireUnlike_ok (m k : Msg) (cut more : Int) (om : MsgO m) (ok : MsgO k) (hcut : -9223372036854775808 ≤ cut ∧ cut < 9223372036854775808) (hmore : 0 ≤ more ∧ more < 256) :
    ACall Tryd.prog 8 [.agg (msgC m), .agg (msgC k), .int .i64 cut, .int .u8 more] (.bool true) [] := by
  have v1 := heavy13_ok m
  have v2 := heavy13_ok k
  refine ACall.of_does TTok Tryd.func8 rfl Tryd.call8 rfl (wpc_sound (M := ML) (PL := PLun) (CU := cutAt [100001, 100010]) TTok mixed _ _ _ ?_)
  conv => whnf
  repeat ((refine ⟨rfl, ?_⟩); conv => whnf)
  refine Does.freeze 0 rfl (Does.tidy [(2, .int .i64 cut), (3, .int .u8 more), (4, .rop (msgC m)), (5, .ptr 1 0)] [(1, frzL 0 (msgC m) (msgC k))] 2 103 rfl rfl rfl (by kernel_rfl) (by kernel_rfl) ?_)
  rw [msgC_frz]
  refine Does.freeze 1 rfl (Does.tidy [(2, .int .i64 cut), (3, .int .u8 more), (4, .rop (msgC m)), (5, .rop (msgC k))] [] 2 103 rfl rfl rfl (by kernel_rfl) (by kernel_rfl) ?_)
  refine wpc_sound (M := ML) (PL := PLun) (CU := noCut) TTok mixed _ _ _ ?_
  conv => whnf
  repeat ((first | refine ⟨rfl, ?_⟩ | refine ⟨_, rfl, ?_⟩ | refine ⟨(show pureL _ = true from by first | exact prfC_pure _ | exact hdC_pure _ | exact msgC_pure _ | exact letC_pure _), ?_⟩); conv => whnf)
  cases hv1 : heavyM m <;> rw [hv1] at v1
  case true =>
    refine ⟨_, _, v1, by first | rfl | simp [noRoIf, noRoL, noRoV, noRoL_bys], ?_⟩
    conv => whnf
    repeat ((first | refine ifB_t ?_ | refine ⟨rfl, ?_⟩); conv => whnf)
    rfl
  refine ⟨_, _, v1, by first | rfl | simp [noRoIf, noRoL, noRoV, noRoL_bys], ?_⟩
  conv => whnf
  repeat ((first | refine ifB_f ?_ | refine ⟨rfl, ?_⟩ | refine ⟨_, rfl, ?_⟩ | refine ⟨(show pureL _ = true from by first | exact prfC_pure _ | exact hdC_pure _ | exact msgC_pure _ | exact letC_pure _), ?_⟩); conv => whnf)
  cases hv2 : heavyM k <;> rw [hv2] at v2
  case true =>
    refine ⟨_, _, v2, by first | rfl | simp [noRoIf, noRoL, noRoV, noRoL_bys], ?_⟩
    conv => whnf
    repeat ((first | refine ifB_t ?_ | refine ifB_f ?_ | refine ⟨rfl, ?_⟩); conv => whnf)
    rfl
  refine ⟨_, _, v2, by first | rfl | simp [noRoIf, noRoL, noRoV, noRoL_bys], ?_⟩
  conv => whnf
  repeat ((first | refine ifB_f ?_ | refine ⟨rfl, ?_⟩ | refine ⟨_, rfl, ?_⟩ | refine ⟨(show pureL _ = true from by first | exact prfC_pure _ | exact hdC_pure _ | exact msgC_pure _ | exact letC_pure _), ?_⟩); conv => whnf)
  have hm := msgS_of om hv1
  have hk := msgS_of ok hv2
  have e1 := (msg_bytes_ok _ hm).roRes2 (.inl ⟨_, _, rfl⟩)
  have e2 := (msg_bytes_ok _ hk).roRes2 (.inl ⟨_, _, rfl⟩)
  have y1 := msgB_byt hm
  have y2 := msgB_byt hk
  rcases msgB_or m with q1 | ⟨a, q1⟩
  · rw [q1] at e1
    refine ⟨_, _, e1, by first | rfl | simp [noRoIf, noRoL, noRoV, noRoL_bys], ?_⟩
    conv => whnf
    repeat ((first | refine ⟨rfl, ?_⟩ | refine ⟨_, rfl, ?_⟩ | refine ⟨(show pureL _ = true from by first | exact prfC_pure _ | exact hdC_pure _ | exact msgC_pure _ | exact letC_pure _), ?_⟩); conv => whnf)
    rcases msgB_or k with q2 | ⟨b, q2⟩
    · rw [q2] at e2
      refine ⟨_, _, e2, by first | rfl | simp [noRoIf, noRoL, noRoV, noRoL_bys], ?_⟩
      conv => whnf
      repeat ((first | refine ifB_t ?_ | refine ifB_f ?_ | refine ⟨rfl, ?_⟩); conv => whnf)
      refine ⟨_, _, wakes13_ok, by first | rfl | simp [noRoIf, noRoL, noRoV, noRoL_bys], ?_⟩
      conv => whnf
      repeat ((first | refine ifB_t ?_ | refine ⟨rfl, ?_⟩); conv => whnf)
      rfl
    · rw [q2] at e2
      refine ⟨_, _, e2, by first | rfl | simp [noRoIf, noRoL, noRoV, noRoL_bys], ?_⟩
      conv => whnf
      repeat ((first | refine ifB_t ?_ | refine ifB_f ?_ | refine ⟨rfl, ?_⟩); conv => whnf)
      refine ⟨_, _, wakes13_ok, by first | rfl | simp [noRoIf, noRoL, noRoV, noRoL_bys], ?_⟩
      conv => whnf
      repeat ((first | refine ifB_t ?_ | refine ⟨rfl, ?_⟩); conv => whnf)
      rfl
  have z1 : (msgB m).2 = 0 := by rw [q1]
  have p1 := msgB_pos hm z1
  have rc := rdMsg_cut hm z1
  have rm := rdMsg_more hm z1 more
  rcases msgB_or k with q2 | ⟨b, q2⟩
  · rw [q1] at e1
    rw [q2] at e2
    refine ⟨_, _, e1, by first | rfl | simp [noRoIf, noRoL, noRoV, noRoL_bys], ?_⟩
    conv => whnf
    repeat ((first | refine ⟨rfl, ?_⟩ | refine ⟨_, rfl, ?_⟩ | refine ⟨(show pureL _ = true from by first | exact prfC_pure _ | exact hdC_pure _ | exact msgC_pure _ | exact letC_pure _), ?_⟩); conv => whnf)
    refine ⟨_, _, e2, by first | rfl | simp [noRoIf, noRoL, noRoV, noRoL_bys], ?_⟩
    conv => whnf
    repeat ((first | refine ifB_t ?_ | refine ifB_f ?_ | refine ⟨rfl, ?_⟩); conv => whnf)
    refine ⟨_, _, wakes13_ok, by first | rfl | simp [noRoIf, noRoL, noRoV, noRoL_bys], ?_⟩
    conv => whnf
    repeat ((first | refine ifB_t ?_ | refine ⟨rfl, ?_⟩); conv => whnf)
    rfl
  have z2 : (msgB k).2 = 0 := by rw [q2]
  have inj := msgB_inj hm hk z1 z2
  rw [q1] at e1 y1 p1 rc rm inj
  rw [q2] at e2 y2 inj
  dsimp only at e1 e2 y1 y2 p1 rc rm inj
  clear z1 z2 q1 q2
  refine ⟨_, _, e1, by first | rfl | simp [noRoIf, noRoL, noRoV, noRoL_bys], ?_⟩
  conv => whnf
  repeat ((first | refine ⟨rfl, ?_⟩ | refine ⟨_, rfl, ?_⟩ | refine ⟨(show pureL _ = true from by first | exact prfC_pure _ | exact hdC_pure _ | exact msgC_pure _ | exact letC_pure _), ?_⟩); conv => whnf)
  refine ⟨_, _, e2, by first | rfl | simp [noRoIf, noRoL, noRoV, noRoL_bys], ?_⟩
  conv => whnf
  repeat ((refine ifB_f ?_); conv => whnf)
  have b1 := bytes_ok a b (by omega)
  have b2 := kmsg_ok m k hm hk
  rw [inj] at b1
  clear inj
  have w64 : IntKind.u64.wrap cut = cut % 18446744073709551616 := wrap_u64 cut
  obtain ⟨c, hc, hca⟩ := mod_len cut p1
  have d1 := mread_ok (a.take c) (fun x hx => y1.1 x (List.mem_of_mem_take hx)) (by simp; omega)
  rw [rc c hca] at d1
  have d2 := mread_ok (a ++ [more]) (fun x hx => by
    rcases List.mem_append.1 hx with h | h
    · exact y1.1 x h
    · simp at h; subst h; exact hmore) (by simp; omega)
  rw [rm] at d2
  dsimp only at d1 d2
  have t1 := twin_ok a (by omega)
  have k0 := kmsg_ok msg0 msg0 msg0_S msg0_S
  rw [dt rfl] at k0
  generalize decide (m = k) = z at b1 b2
  conv => whnf
  refine ⟨by kernel_rfl, ?_⟩
  conv => whnf
  repeat ((first | refine ifB_f ?_ | (refine ifB_neg (decide_eq_false (by first | omega | rfl | (dsimp only; omega))) ?_) | refine ⟨pureL_bys _, ?_⟩ | refine ⟨rfl, ?_⟩ | refine ⟨_, rfl, ?_⟩); conv => whnf)
  cases z
  all_goals
    refine ⟨_, _, b1, by first | rfl | simp [noRoIf, noRoL, noRoV, noRoL_bys], ?_⟩
    conv => whnf
    repeat ((first | refine ifB_f ?_ | refine ⟨rfl, ?_⟩ | refine ⟨(show pureL _ = true from by first | exact prfC_pure _ | exact hdC_pure _ | exact msgC_pure _ | exact letC_pure _), ?_⟩); conv => whnf)
    refine ⟨_, _, b2, by first | rfl | simp [noRoIf, noRoL, noRoV, noRoL_bys], ?_⟩
    conv => whnf
    repeat ((refine ifB_f ?_); conv => whnf)
    refine fit_wrap ?_
    rw [w64]
    conv => whnf
    repeat ((first | (refine fit_i64 ⟨by first | omega | rfl | (dsimp only; omega), by first | omega | rfl | (dsimp only; omega)⟩ ?_) | (refine fit_u64 ⟨by first | omega | rfl | (dsimp only; omega), by first | omega | rfl | (dsimp only; omega)⟩ ?_) | refine ⟨pureL_cutB _ _ _ _, ?_⟩ | refine ⟨rfl, ?_⟩ | (refine And.intro (by first | omega | rfl | (dsimp only; omega)) ?_) | (refine ⟨⟨?_, ?_⟩, ?_⟩; (focus (simp; done)); (focus (first | (simp only [okB]; omega) | (simp [okB]; omega))))); conv => whnf)
    rw [hc]
    conv => whnf
    refine ⟨_, _, ACall.arg1 d1 (by simp [lenB]; omega) (by simp [cutB, offB, lenB, endB, bys_take]), by first | rfl | simp [noRoIf, noRoL, noRoV, noRoL_bys], ?_⟩
    conv => whnf
    repeat ((first | refine ⟨(⟨by kernel_rfl, by kernel_rfl, Nat.le_of_ble_eq_true (by kernel_rfl)⟩ : AV.ones _ = true ∧ _ ∧ _), ?_⟩ | refine ⟨rfl, ?_⟩); conv => whnf)
    refine wpc_sound (M := ML2) (PL := PL0) (CU := noCut) TTok mixed _ _ _ ?_
    conv => whnf
    repeat ((first | refine ⟨pureL_bys _, ?_⟩ | refine ⟨rfl, ?_⟩); conv => whnf)
    refine ⟨_, _, t1, by first | rfl | simp [noRoIf, noRoL, noRoV, noRoL_bys], ?_⟩
    conv => whnf
    repeat ((first | (refine Or.inl ⟨⟨rfl, ?_⟩, ?_⟩; (focus (first | rfl | (simp; done) | (rw [toksC_length]; omega)))) | refine ⟨rfl, ?_⟩ | (refine ⟨⟨rfl, rfl, ?_, ?_⟩, ?_⟩; (focus (first | (simp [lenB, offB]; done) | (simp [lenB, offB]; omega))); (focus (first | (simp [limB, lenB, offB]; done) | (simp [limB, lenB, offB]; omega)))) | (refine And.intro ?_ ?_; (focus (simp [pureL, pureV, pureL_bys, pureL_toks, pureL_app]; done)))); conv => whnf)
    conv => whnf
    refine ⟨_, _, (ACall.arg1 d2 (by simp) (by simp [bys])).ownArg, by first | rfl | simp [noRoIf, noRoL, noRoV, noRoL_bys], ?_⟩
    conv => whnf
    repeat ((first | refine ifB_t ?_ | refine ⟨rfl, ?_⟩ | refine ⟨_, rfl, ?_⟩); conv => whnf)
    refine ⟨_, _, e_args2 (m := msg0) (k := 0) (f := 0) (t := 0) k0, by first | rfl | simp [noRoIf, noRoL, noRoV, noRoL_bys], ?_⟩
    conv => whnf
    repeat ((first | refine ifB_t ?_ | refine ⟨rfl, ?_⟩); conv => whnf)
    refine ⟨_, _, wakes13_ok, by first | rfl | simp [noRoIf, noRoL, noRoV, noRoL_bys], ?_⟩
    conv => whnf
    repeat ((first | refine ifB_t ?_ | refine ⟨rfl, ?_⟩); conv => whnf)
    rfl
end Go.Proofs.YtelnlfhdaelfdaaDoor.Abs
end
section
set_option linter.unusedVariables false
namespace Go.Proofs.YtelnlfhdaelfdaaDoor.Abs
open Go Go.Shelf Go.Lib
theorem first_eq : ∀ c : Fin 256, firstT c.val = utf8First.getD c.val 0 := by decide +kernel
theorem acc_eq : ∀ i : Fin 16, accLo i.val = utf8Ranges.getD (2 * i.val) 0 ∧ accHi i.val = utf8Ranges.getD (2 * i.val + 1) 0 := by decide +kernel
theorem tabOk_of {W : World} (h : Lib.Utf8Tabs 1 2 W) : TabOk (env0 W) := by
  obtain ⟨h1, h2⟩ := h
  have l1 : utf8First.length = 256 := by decide +kernel
  have l2 : utf8Ranges.length = 32 := by decide +kernel
  have s0 : 1 < W.heap.size := World.block_lt_of_cell? _ _ (h1 0 (by omega))
  have s1 : 2 < W.heap.size := World.block_lt_of_cell? _ _ (h2 0 (by omega)).1
  intro g k l hg
  unfold tabs at hg
  by_cases g0 : g = 1
  · subst g0
    simp only [Nat.beq_refl, cond_true, Option.some.injEq, Prod.mk.injEq] at hg
    obtain ⟨rfl, rfl⟩ := hg
    refine ⟨s0, fun hv => hv, fun j x hx => ?_⟩
    have hj : j < 256 := by rw [← l1]; exact (List.getElem?_eq_some_iff.1 hx).1
    have := h1 j hj
    have e := first_eq ⟨j, hj⟩
    simp only at e
    rw [e, List.getD_eq_getElem?_getD, hx] at this
    exact this
  · have hb : Nat.beq g 1 = false := by
      cases hh : Nat.beq g 1
      · rfl
      · exact absurd (Nat.eq_of_beq_eq_true hh) g0
    rw [hb, cond_false] at hg
    by_cases g1 : g = 2
    · subst g1
      simp only [Nat.beq_refl, cond_true, Option.some.injEq, Prod.mk.injEq] at hg
      obtain ⟨rfl, rfl⟩ := hg
      refine ⟨s1, fun hv => hv, fun j x hx => ?_⟩
      have hj : j < 32 := by rw [← l2]; exact (List.getElem?_eq_some_iff.1 hx).1
      have e := acc_eq ⟨j / 2, by omega⟩
      obtain ⟨q1, q2⟩ := h2 (j / 2) (by omega)
      simp only at e
      rw [e.1] at q1
      rw [e.2] at q2
      rcases Nat.mod_two_eq_zero_or_one j with hm | hm
      · have ej : 2 * (j / 2) = j := by omega
        rw [ej, List.getD_eq_getElem?_getD, hx] at q1
        exact q1
      · have ej : 2 * (j / 2) + 1 = j := by omega
        rw [ej, List.getD_eq_getElem?_getD, hx] at q2
        exact q2
    · have hb : Nat.beq g 2 = false := by
        cases hh : Nat.beq g 2
        · rfl
        · exact absurd (Nat.eq_of_beq_eq_true hh) g1
      rw [hb, cond_false] at hg
      cases hg
/-- The numbers of this program's types and tables. -/
def utRen : Ren := ⟨fun x => x, fun n => if n = 5 then 5 else if n = 119 then 170 else if n = 138 then 172 else 173, fun n => if n = 3 then 1 else 2⟩
theorem tabOk_of_laid {W : World} (hL : laidMet Tryd.prog [("unicode/utf8.acceptRanges", Rows.laid_unicode_utf8_acceptRanges), ("unicode/utf8.first", Rows.laid_unicode_utf8_first)] W) : TabOk (env0 W) := by
  have e1 : Rows.laid_unicode_utf8_first = Lib.firstData := Pinned.utf8First_eq
  have e2 : (Rows.laid_unicode_utf8_acceptRanges : DataW Unit) = Lib.acceptData := by kernel_rfl
  rw [e1, e2] at hL
  exact tabOk_of (utf8Tabs_of_readsT (P := Tryd.prog) (ρ := utRen) ⟨by kernel_rfl, by kernel_rfl, by kernel_rfl, by kernel_rfl⟩ ⟨by kernel_rfl, by kernel_rfl, by kernel_rfl, by kernel_rfl, by kernel_rfl, by kernel_rfl, by kernel_rfl⟩
    (Lib.laidMet.reads hL (.tail _ (.head _))) (Lib.laidMet.reads hL (.head _)))
end Go.Proofs.YtelnlfhdaelfdaaDoor.Abs
end
section
namespace Go.Proofs.YtelnlfhdaelfdaaDoor.wireUnlike
open Go Go.ChangeShapes Go.WideShapes Go.ChangeAt Go.RowKit Go.Proofs.YtelnlfhdaelfdaaDoor.Abs
set_option linter.unusedVariables false
set_option linter.unusedSimpArgs false
theorem own : ownKnob Tryd.prog.godebug = none := by kernel_rfl
theorem laidOut : laidOutB Tryd.prog = true := by kernel_rfl
noncomputable def laidWorld (os : Os) : World := World.laidAll Tryd.prog os Rows.wireUnlikeRow.laid
theorem laid_met (os : Os) (args : Array Value) : laidMetH Tryd.prog Rows.wireUnlikeRow.laid ((laidWorld os).forCall (fun _ _ => 0) ⟨#[], args, []⟩).memory := by
  rw [MakeChecks.laidMetH_plain _ _ _ (by kernel_rfl)]
  exact laidMet_laidAll args (by kernel_rfl) (by kernel_rfl)
set_option maxRecDepth 100000 in
theorem lifted (os : Os) (started : os.Started) (H : Type) (enc : TypeId × Value → H) :
    ReturnsInHanded {} Tryd.checked os 8 .any (fun w args => (Rows.wireUnlikeSpec.pre enc Tryd.prog Tryd.f8 [] false w args ∧ laidMetH Tryd.prog Rows.wireUnlikeRow.laid w) ∧ sizedMet enc Tryd.prog Tryd.f8 (OpenSpec.ofChange Rows.wireUnlikeSpec) false w args)
      (Rows.wireUnlikeSpec.post enc Tryd.prog Tryd.f8 false true false false) := by
  refine returnsInHanded_of_change_and (C := Tryd.checked) (X := fun w _ => laidMetH Tryd.prog Rows.wireUnlikeRow.laid w) (fun _ _ _ hh h => h.of_heap hh) own started (by kernel_rfl) Tryd.func8
    (ChangeSpec.witness_shaped (enc := enc) (C := Tryd.checked) (os := os) (X := fun w _ => laidMetH Tryd.prog Rows.wireUnlikeRow.laid w) false (laidWorld os) #[.agg #[.int .i64 0, .int .i64 0, .int .i64 0, .slice none 0 0, .slice none 0 0, .slice none 0 0], .agg #[.int .i64 0, .int .i64 0, .int .i64 0, .slice none 0 0, .slice none 0 0, .slice none 0 0], .int .i64 0, .int .u8 0] 8 (World.laidAll_os _ _ _) (World.shaped_of_RefB (by kernel_rfl) (by kernel_rfl)) (by kernel_rfl) (by kernel_rfl) (by kernel_rfl) (laid_met os _)) ?_
  intro W base args ds gs before hval0 hW _ _ hL _
  have hval : ∀ (j : Nat) t v, Tryd.f8.params[j]? = some t → args[j]? = some v → Value.okWide Tryd.prog W .any base t v := hval0
  have hW' := hW
  obtain ⟨p, q, hA0, hV, rfl, hfz, hnd⟩ := hW
  have hA : DataW.TrodAll enc Tryd.prog W 0 (fun _ => true) true Tryd.f8.params.toList args.toList ds p := hA0
  rw [Tryd.params8] at hA hval
  rw [MakeChecks.laidMetH_plain _ _ _ (by kernel_rfl)] at hL
  have htab : TabOk (env0 W) := tabOk_of_laid hL
  obtain ⟨v0, vs0, d0, ds0, p0, q0, hargs, rfl, rfl, h0, r0⟩ := trodAll_cons hA
  obtain ⟨v1, vs1, d1, ds1, p1, q1, rfl, rfl, rfl, h1, r1⟩ := trodAll_cons r0
  obtain ⟨v2, vs2, d2, ds2, p2, q2, rfl, rfl, rfl, h2, r2⟩ := trodAll_cons r1
  obtain ⟨v3, vs3, d3, ds3, p3, q3, rfl, rfl, rfl, h3, r3⟩ := trodAll_cons r2
  obtain ⟨rfl, rfl, rfl⟩ := trodAll_nil r3
  obtain rfl : args = #[v0, v1, v2, v3] := by cases args; simp_all
  obtain ⟨rfl, rfl⟩ := trodVars_none hV
  obtain ⟨a0, rfl, _⟩ := okWide_struct Tryd.underlying27 (hval 0 27 v0 rfl rfl)
  have k0 := h0
  have lt0 : ∀ x ∈ p0, x.block < W.heap.size := by obtain ⟨m, hm⟩ := k0; exact DataW.trod_lt m _ _ _ hm
  obtain ⟨x0, w0, t0⟩ := (by obtain ⟨fuel, hf⟩ := h0; exact open_any TTok 9 fuel 27 _ _ (by kernel_rfl) hf : ∃ xs, RepL (env0 W) xs (Value.cells _).toList ∧ TyL TT 9 27 xs)
  obtain ⟨l0, rfl, b0⟩ := msg_of_ty t0
  have w0 := rep_agg w0
  obtain ⟨a1, rfl, _⟩ := okWide_struct Tryd.underlying27 (hval 1 27 v1 rfl rfl)
  have k1 := h1
  have lt1 : ∀ x ∈ p1, x.block < W.heap.size := by obtain ⟨m, hm⟩ := k1; exact DataW.trod_lt m _ _ _ hm
  obtain ⟨x1, w1, t1⟩ := (by obtain ⟨fuel, hf⟩ := h1; exact open_any TTok 9 fuel 27 _ _ (by kernel_rfl) hf : ∃ xs, RepL (env0 W) xs (Value.cells _).toList ∧ TyL TT 9 27 xs)
  obtain ⟨l1, rfl, b1⟩ := msg_of_ty t1
  have w1 := rep_agg w1
  obtain ⟨a2, rfl, rfl, rfl, w2⟩ := open_int Tryd.underlying3 (hval 2 3 v2 rfl rfl) h2
  obtain ⟨a3, rfl, rfl, rfl, w3⟩ := open_int Tryd.underlying5 (hval 3 5 v3 rfl rfl) h3
  clear hA0 hval0
  refine (ACall.row (wireUnlike_ok l0 l1 a2 a3 b0 b1 (wf_i64 w2) (wf_u8 w3)) (by simp [pureL, pureV, pureL_bys, pureL_ints, pureL_toks, msgC_pure]) (W := W) (vals := [.agg a0, .agg a1, .int .i64 a2, .int .u8 a3]) (by simp only [RepL]; exact ⟨_, _, rfl, w0, ⟨_, _, rfl, w1, ⟨_, _, rfl, rep_int _ _ _, ⟨_, _, rfl, rep_int _ _ _, rfl⟩⟩⟩⟩) htab).mono fun e W' ⟨he, bel⟩ => ?_
  subst he
  exact ⟨_, rfl, _, _, _, [], _, [], hW', trodAll_mk1 (shut_bool Tryd.underlying4 _), (trodAll_cons_mk (Below.trod laidOut (by kernel_rfl) (of_decide_eq_true (by kernel_rfl)) k0 bel lt0) (trodAll_cons_mk (Below.trod laidOut (by kernel_rfl) (of_decide_eq_true (by kernel_rfl)) k1 bel lt1) (trodAll_cons_mk (shut_int Tryd.underlying3 w2) (trodAll_cons_mk (shut_int Tryd.underlying5 w3) trodAll_mk0)))), rfl, bel.frame _, fun h => by cases h⟩
theorem over : Rows.wireUnlikeRow.holds Tryd.pinned (OpenSpec.ofChange Rows.wireUnlikeSpec) :=
  OpenClaim.holds_of_wide 8 Tryd.f8 rfl rfl rfl rfl rfl rfl rfl ⟨rfl, rfl, rfl, rfl, rfl⟩ rfl rfl rfl rfl rfl (by kernel_rfl) Tryd.func8 (by kernel_rfl)
    (of_decide_eq_true (by kernel_rfl)) (by unfold Func.isWrapper; first | (rw [if_pos (by decide +kernel)]; kernel_rfl) | (rw [if_neg (by decide +kernel)]; exact ⟨rfl, rfl⟩))
    (fun os started H enc _ => lifted os started H enc)
/-- The tied card. -/
theorem card : Claim7.holds Tryd.pinned (.plain (OpenSpec.ofChange Rows.wireUnlikeSpec)) Rows.wireUnlikeCard :=
  Claim7.holds_tied_plain_at .later [] [.data, .pinned] true (true, "891155d96ca261d6dec426f9a893f0765c918b26fb9e2bfab3eb0523fb6b23ea") false
    over (fun _ h => by cases h) (by kernel_rfl) (fun _ h => by cases h) wireUnlike_row_tie rfl ⟨rfl, rfl⟩ (by kernel_rfl) rfl
    (fun f fn hf hfn => by
      obtain rfl : f = 8 := Option.some.inj ((show Tryd.prog.funcNamed "codicil/codicillaw13.WireUnlike" = some 8 by kernel_rfl).symm.trans hf) |>.symm
      obtain rfl : fn = Tryd.f8 := (Option.some.inj (Tryd.func8.symm.trans hfn)).symm
      exact ⟨by kernel_rfl, fun j t ht => by
        rw [Tryd.params8] at ht
        have hm : t ∈ [27, 27, 3, 5] := by simpa using Array.mem_of_getElem? ht
        have hall : ([27, 27, 3, 5].all fun u => !Tryd.prog.wantsStandIn u) = true := by kernel_rfl
        exact (show Tryd.prog.wantsStandIn t = false by simpa using List.all_eq_true.1 hall t hm)⟩)
    (by kernel_rfl)
end Go.Proofs.YtelnlfhdaelfdaaDoor.wireUnlike
namespace Go.Proofs.YtelnlfhdaelfdaaDoor
/-- The law WireUnlike. -/
theorem wireUnlike_holds : Rows.WireUnlikeCardSaid := wireUnlike.card
end Go.Proofs.YtelnlfhdaelfdaaDoor
end
