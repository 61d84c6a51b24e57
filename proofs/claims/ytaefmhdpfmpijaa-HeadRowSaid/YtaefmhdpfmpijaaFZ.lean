/- A region whose order is drawn: the plan is sound. -/
import Derived.Test.YtaefmhdpfmpijaaFY
set_option linter.unusedVariables false
set_option linter.unusedSimpArgs false
namespace Go.Proofs.Ytaefmhdpfmpijaa.Abs
open Go

theorem wpAnyH_mono {P : Program} {md : Region.Mode} {ops : Array Oper} {Q : Exit → Act → World → Prop} {S S' : World → Prop} (hS : ∀ w, S w → S' w) :
    ∀ (fuel : Nat) (listed : Array Bool) (a : Act) (w : World), wpAnyH P md ops Q S fuel listed a w → wpAnyH P md ops Q S' fuel listed a w
  | 0, _, _, _, h => h
  | fuel + 1, _, _, _, h => ⟨h.1, fun i hi => wpOp_mono (fun a' w' h' => ⟨hS _ h'.1, wpAnyH_mono hS fuel _ a' w' h'.2⟩) (h.2 i hi)⟩

def Sw (x : Bool) (E : Env) (w : World) : Prop := ∃ E', E'.w = w ∧ Later E E' ∧ (x = true → w.heap = E.w.heap)

theorem Sw.refl (x : Bool) (E : Env) : Sw x E E.w := ⟨E, rfl, Later.refl E, fun _ => rfl⟩

/-- What may be taken first yields the same wherever. -/
theorem yields_of {P : Program} {T : Types} (hT : TOK P T) {M : FuncId → List Mode} {x : Bool} {ops : Array Oper} {Z : Nat → Prop} {E : Env} {st : St} {a : Act} (S : Sim Z E st a) {o : Oper} {K : St → Prop}
    (hw : Region.wanted o (yielded ops a.tmps) = true) (hk : pureOp T o.op = true ∨ (isLoad o.op = true ∧ (x = false → roLoad st o.op = true))) (h : runP P T M o st K) :
    ∃ v st', YieldsIf P ops (Sw x E) o v a ∧ K st' ∧ Sim Z E st' (a.put o.dst v) := by
  rw [runP_eq] at h
  rcases hk with hp | ⟨hl, hro⟩
  · obtain ⟨y, v, h1, h2, h3⟩ := opP_yields hT S hp h
    obtain ⟨st', k1, k2⟩ := after_sim S (After.pure S.heap h2) h1
    exact ⟨v, st', .inl ⟨hw, fun w _ => h3 w⟩, k1, k2⟩
  · unfold isLoad at hl
    split at hl
    · rename_i t A ho
      rw [ho] at h
      simp only [opP, force_eq] at h
      obtain ⟨y, v, b, h1, h2, h3, h4⟩ := loadP_at (P := P) hT S.heap (rep_evalO S A) h
      obtain ⟨st', k1, k2⟩ := after_sim S (After.pure S.heap h2) h1
      refine ⟨v, st', .inl ⟨hw, fun w hs => ?_⟩, k1, k2⟩
      obtain ⟨E', rfl, L, hx⟩ := hs
      simp only [execOp, ho]
      refine vrun (h3 _ ?_)
      cases x with
      | true => rw [hx rfl]
      | false =>
        have hr := hro rfl
        unfold roLoad at hr
        rw [ho] at hr
        simp only at hr
        split at hr
        · rename_i c cs hA
          obtain ⟨k3, k4⟩ := h4 c cs hA
          exact L.same b k4 k3
        · cases hr
    · cases hl

mutual
theorem planP_sound {P : Program} {T : Types} (hT : TOK P T) {M : FuncId → List Mode} {x : Bool} {ops : Array Oper} (hns : Region.noSelect ops = true) {Z : Nat → Prop} {E : Env} {H : Heap} {nx : Nat} (h0 : HeapRep Z E H nx) {K : St → Prop} :
    ∀ (p : Plan) (fuel : Nat) (listed : Array Bool) (st : St) (E1 : Env) (a : Act), Sim Z E1 st a → Chain E (Wr E.ρ H) E1 → planOk T x ops fuel listed p = true → planP P T M x ops p st K →
      wpAnyH P .any ops (RegPost Z E H K) (Sw x E1) fuel listed a E1.w
  | .done, fuel, listed, st, E1, a, S, c, hok, h => by
    unfold planOk at hok
    unfold planP at h
    exact wpAnyH_done (List.isEmpty_iff.1 hok) ⟨st, E1, rfl, h, S, rfl, c⟩ fuel
  | .take i p, 0, listed, st, E1, a, S, c, hok, h => by simp [planOk] at hok
  | .take i p, fuel + 1, listed, st, E1, a, S, c, hok, h => by
    unfold planOk at hok
    unfold planP at h
    split at hok
    case h_2 => cases hok
    rename_i o ho
    rw [ho] at h
    dsimp only at h
    simp only [Bool.and_eq_true, Bool.or_eq_true] at hok
    obtain ⟨⟨⟨hr, hf⟩, hk⟩, hok⟩ := hok
    have hro : isLoad o.op = true → x = false → roLoad st o.op = true := by
      intro h1 h2
      rw [h1, h2] at h
      exact h.1
    have h : stepP P T M ops o st fun st' => planP P T M x ops p st' K := by
      cases hc : isLoad o.op && !x with
      | true => rw [hc] at h; exact h.2
      | false => rw [hc] at h; exact h
    obtain ⟨st1, S1, e1, e2, hh⟩ := step_cases S h
    have hQ : ∀ (v : Value) c a w, RegPost Z E H K (.panic c) (Act.put a o.dst v) w → RegPost Z E H K (.panic c) a w := by
      rintro v c a w ⟨_, _, he, _⟩
      cases he
    rcases hh with ⟨hw, hrun⟩ | ⟨hw, hs⟩
    · have hk' : pureOp T o.op = true ∨ (isLoad o.op = true ∧ (x = false → roLoad st1 o.op = true)) := by
        rcases hk with hk | ⟨hl, hg⟩
        · exact .inl hk
        · refine .inr ⟨hl, fun hx => ?_⟩
          subst hx
          simp only [Bool.false_eq_true, false_or, Option.isNone_iff_eq_none] at hg
          rw [e2 hg]
          exact hro hl rfl
      obtain ⟨v, st', hy, k1, k2⟩ := yields_of hT S1 hw hk' hrun
      exact wpAnyH_take ho hns hf hr (hQ v) hy (Sw.refl _ _) (planP_sound hT hns h0 p fuel _ st' E1 _ k2 c hok k1)
    · obtain ⟨st', k1, k2⟩ := skip_sim S1 hs
      exact wpAnyH_take ho hns hf hr (hQ undef) (.inr ⟨hw, rfl⟩) (Sw.refl _ _) (planP_sound hT hns h0 p fuel _ st' E1 _ k2 c hok k1)
  | .all ps, 0, listed, st, E1, a, S, c, hok, h => by simp [planOk] at hok
  | .all ps, fuel + 1, listed, st, E1, a, S, c, hok, h => by
    unfold planOk at hok
    unfold planP at h
    simp only [Bool.and_eq_true, Bool.not_eq_true'] at hok
    obtain ⟨⟨⟨hx, hne⟩, hr⟩, hok⟩ := hok
    have hr' : Region.ready .any ops listed = ps.map (·.1) := by simpa using hr
    refine wpAnyH_all hr' (by intro he; simp at he; simp [he] at hne) fun i hi => ?_
    exact plansP_sound hT hns h0 ps fuel listed st E1 a S c hx hok h i hi
theorem plansP_sound {P : Program} {T : Types} (hT : TOK P T) {M : FuncId → List Mode} {x : Bool} {ops : Array Oper} (hns : Region.noSelect ops = true) {Z : Nat → Prop} {E : Env} {H : Heap} {nx : Nat} (h0 : HeapRep Z E H nx) {K : St → Prop} :
    ∀ (ps : List (Nat × Plan)) (fuel : Nat) (listed : Array Bool) (st : St) (E1 : Env) (a : Act), Sim Z E1 st a → Chain E (Wr E.ρ H) E1 → x = false → planOks T x ops fuel listed ps = true → plansP P T M x ops ps st K →
      ∀ i ∈ ps.map (·.1), wpOp P ops (RegPost Z E H K) i (fun a' w' => Sw x E1 w' ∧ wpAnyH P .any ops (RegPost Z E H K) (Sw x E1) fuel (listed.setIfInBounds i true) a' w') a E1.w
  | [], fuel, listed, st, E1, a, S, c, hx, hok, h => by simp
  | (j, p) :: r, fuel, listed, st, E1, a, S, c, hx, hok, h => by
    unfold planOks at hok
    unfold plansP at h
    simp only [Bool.and_eq_true] at hok
    obtain ⟨hok, hoks⟩ := hok
    split at h
    case h_2 => exact h.elim
    rename_i o ho
    have hone : stepP P T M ops o st (fun st' => planP P T M x ops p st' K) ∧ plansP P T M x ops r st K := by
      cases r with
      | nil => exact ⟨h, by simp [plansP]⟩
      | cons _ _ => exact h
    obtain ⟨hstep, hrest⟩ := hone
    intro i hi
    rcases List.mem_cons.1 (by simpa using hi : i ∈ j :: r.map (·.1)) with rfl | hi
    · obtain ⟨st1, S1, e1, e2, hh⟩ := step_cases S hstep
      unfold wpOp
      simp only [ho]
      rcases hh with ⟨hw, hr⟩ | ⟨hw, hs⟩
      · rw [if_pos hw]
        left
        rw [runP_eq] at hr
        refine opP_sound hT S1 hr _ _ fun y H' nx' E' v hk A => ?_
        obtain ⟨st', hk', S'⟩ := after_sim S1 A hk
        subst hx
        refine ⟨⟨E', rfl, A.later, nofun⟩, wpAnyH_mono (S := Sw false E') ?_ _ _ _ _ (planP_sound hT hns h0 p fuel _ st' E' _ S' (c.next h0 S1.heap A.later A.evo) hok hk')⟩
        rintro w ⟨E2, rfl, L2, _⟩
        exact ⟨E2, rfl, A.later.trans L2, nofun⟩
      · rw [if_neg (by simp [hw])]
        obtain ⟨st', hk', S'⟩ := skip_sim S1 hs
        exact ⟨Sw.refl _ _, planP_sound hT hns h0 p fuel _ st' E1 _ S' c hok hk'⟩
    · exact plansP_sound hT hns h0 r fuel listed st E1 a S c hx hoks hrest i hi
end

/-- What must hold of a region and its plan: to be checked once. -/
def planFits (T : Types) (x : Bool) (ops : Array Oper) (p : Plan) : Bool := Region.noSelect ops && planOk T x ops ops.size (Array.replicate ops.size false) p

theorem draw_sound {P : Program} {T : Types} (hT : TOK P T) (hm : P.follows .mixedOrders = true) {M : FuncId → List Mode} {x : Bool} {id : Nat} {ops : Array Oper} {p : Plan} (hp : planFits T x ops p = true)
    {Z : Nat → Prop} {E : Env} {st : St} {a : Act} (S : Sim Z E st a) {K : St → Prop} (h : planP P T M x ops p st K) :
    (Code.region id ops true).wp P (RegPost Z E st.heap K) a E.w := by
  simp only [planFits, Bool.and_eq_true] at hp
  refine wp_region_held (S := Sw x (E.drawn (E.w.drawn + 1))) hm ?_
  exact planP_sound hT hp.1 S.heap p _ _ st (E.drawn (E.w.drawn + 1)) a (S.drawn _) ⟨later_drawn _ _, Evo.drawn _ _ _⟩ hp.2 h

theorem text_sound {P : Program} {T : Types} (hT : TOK P T) {M : FuncId → List Mode} {id : Nat} {ops : Array Oper}
    {Z : Nat → Prop} {E : Env} {st : St} {a : Act} (S : Sim Z E st a) {K : St → Prop} (h : opsP P T M ops ops.toList st K) :
    (Code.region id ops false).wp P (RegPost Z E st.heap K) a E.w :=
  wp_region_list (opsP_sound hT S.heap ops.toList st E a S (Chain.refl _ _) h)

end Go.Proofs.Ytaefmhdpfmpijaa.Abs
