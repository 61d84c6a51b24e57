/- What code does to abstract states: the rules, and a function that reckons the condition. -/
import Derived.Test.YtaefmhdpfmpijaaFZ
set_option linter.unusedVariables false
set_option linter.unusedSimpArgs false
namespace Go.Proofs.Ytaefmhdpfmpijaa.Abs
open Go

inductive AX where
  | normal
  | exit (id : Nat)
  | ret

def AX.out : AX → Exit
  | .normal => .normal
  | .exit id => .exit id
  | .ret => .ret

/-- From one state to a later one, of which another description may be given. -/
structure Flow (k : Nat) (E : Env) (H : Heap) (E' : Env) (H' : Heap) : Prop where
  η : E'.η = E.η
  evo : Evo (Wr E.ρ H) E.w E'.w
  back : ∀ b, b < E.w.heap.size → Wr E'.ρ H' b → Wr E.ρ H b
  keep : ∀ id n, id < k → E.ρ id = some n → E'.ρ id = some n

theorem Flow.refl {k : Nat} (E : Env) (H : Heap) : Flow k E H E H := ⟨rfl, Evo.refl _ _, fun _ _ h => h, fun _ _ _ h => h⟩

theorem Flow.trans {m : Nat} {E E' E'' : Env} {H H' H'' : Heap} (h : Flow m E H E' H') (k : Flow m E' H' E'' H'') : Flow m E H E'' H'' :=
  ⟨k.η.trans h.η, h.evo.trans k.evo h.back, fun b hb hw => h.back b hb (k.back b (Nat.lt_of_lt_of_le hb h.evo.size) hw), fun id n hi hn => k.keep id n hi (h.keep id n hi hn)⟩

theorem Chain.flow {k : Nat} {Z : Nat → Prop} {E E' : Env} {H H' : Heap} {nx nx' : Nat} (h : HeapRep Z E H nx) (c : Chain E (Wr E.ρ H) E') (h' : HeapRep Z E' H' nx') : Flow k E H E' H' :=
  ⟨c.later.η, c.evo, wr_back h c.later h', fun id n _ hn => c.later.ρ id n hn⟩

def SPost (k : Nat) (Z : Nat → Prop) (E : Env) (H : Heap) (Q : AX → St → Prop) (e : Exit) (a : Act) (w : World) : Prop :=
  ∃ x st' E', e = x.out ∧ Q x st' ∧ Sim Z E' st' a ∧ E'.w = w ∧ Flow k E H E' st'.heap

/-- From whatever state that is as st says the code comes to an end, and Q holds of it. -/
def Does (P : Program) (k : Nat) (c : Code) (Q : AX → St → Prop) (st : St) : Prop :=
  ∀ (Z : Nat → Prop) (E : Env) (a : Act), Sim Z E st a → c.wp P (SPost k Z E st.heap Q) a E.w

theorem SPost.flow {k : Nat} {Z : Nat → Prop} {E E' : Env} {H H' : Heap} {Q : AX → St → Prop} {e : Exit} {a : Act} {w : World} (f : Flow k E H E' H') (h : SPost k Z E' H' Q e a w) : SPost k Z E H Q e a w := by
  obtain ⟨x, st', E2, h1, h2, h3, h4, h5⟩ := h
  exact ⟨x, st', E2, h1, h2, h3, h4, f.trans h5⟩

theorem Does.mono {P : Program} {k : Nat} {c : Code} {Q Q' : AX → St → Prop} {st : St} (h : Does P k c Q st) (hq : ∀ x st, Q x st → Q' x st) : Does P k c Q' st :=
  fun Z E a S => wp_mono (h Z E a S) fun e a' w' ⟨x, st', E', h1, h2, h3, h4, h5⟩ => ⟨x, st', E', h1, hq _ _ h2, h3, h4, h5⟩

/-- What stands behind: the rest, if the end is reached. -/
def thenQ (K : St → Prop) (Q : AX → St → Prop) : AX → St → Prop
  | .normal, st => K st
  | x, st => Q x st

def blockQ (id : Nat) (Q : AX → St → Prop) : AX → St → Prop
  | .exit i, st => cond (Nat.beq i id) (Q .normal st) (Q (.exit i) st)
  | x, st => Q x st

theorem Does.skip {P : Program} {k : Nat} {Q : AX → St → Prop} {st : St} (h : Q .normal st) : Does P k .skip Q st :=
  fun Z E a S => wp_skip ⟨.normal, st, E, rfl, h, S, rfl, Flow.refl _ _⟩
theorem Does.exit {P : Program} {k : Nat} {Q : AX → St → Prop} {id : Nat} {st : St} (h : Q (.exit id) st) : Does P k (.exit id) Q st :=
  fun Z E a S => wp_exit ⟨.exit id, st, E, rfl, h, S, rfl, Flow.refl _ _⟩
theorem Does.ret {P : Program} {k : Nat} {Q : AX → St → Prop} {st : St} (h : Q .ret st) : Does P k .ret Q st :=
  fun Z E a S => wp_ret ⟨.ret, st, E, rfl, h, S, rfl, Flow.refl _ _⟩

theorem Does.seq {P : Program} {k : Nat} {x y : Code} {Q : AX → St → Prop} {st : St} (h : Does P k x (thenQ (Does P k y Q) Q) st) : Does P k (.seq x y) Q st := by
  intro Z E a S
  refine wp_seq (wp_mono (h Z E a S) ?_)
  rintro e a' w' ⟨x, st', E', rfl, h2, h3, rfl, h5⟩
  cases x with
  | normal => exact wp_mono (h2 Z E' a' h3) fun e a'' w'' hp => hp.flow h5
  | exit id => exact ⟨.exit id, st', E', rfl, h2, h3, rfl, h5⟩
  | ret => exact ⟨.ret, st', E', rfl, h2, h3, rfl, h5⟩

theorem Does.block {P : Program} {k : Nat} {id : Nat} {c : Code} {Q : AX → St → Prop} {st : St} (h : Does P k c (blockQ id Q) st) : Does P k (.block id c) Q st := by
  intro Z E a S
  refine wp_block (wp_mono (h Z E a S) ?_)
  rintro e a' w' ⟨x, st', E', rfl, h2, h3, rfl, h5⟩
  cases x with
  | normal => exact ⟨.normal, st', E', rfl, h2, h3, rfl, h5⟩
  | exit i =>
    simp only [AX.out, Exit.inBlock]
    simp only [blockQ] at h2
    by_cases hi : i = id
    · subst hi
      rw [if_pos rfl]
      have : Nat.beq i i = true := by simp
      rw [this] at h2
      exact ⟨.normal, st', E', rfl, h2, h3, rfl, h5⟩
    · rw [if_neg hi]
      have : Nat.beq i id = false := by
        cases hh : Nat.beq i id
        · rfl
        · exact absurd (Nat.eq_of_beq_eq_true hh) hi
      rw [this] at h2
      exact ⟨.exit i, st', E', rfl, h2, h3, rfl, h5⟩
  | ret => exact ⟨.ret, st', E', rfl, h2, h3, rfl, h5⟩

theorem reg_post {k : Nat} {Z : Nat → Prop} {E : Env} {st : St} {a : Act} (S : Sim Z E st a) {Q : AX → St → Prop} {e : Exit} {a' : Act} {w' : World} (h : RegPost Z E st.heap (Q .normal) e a' w') : SPost k Z E st.heap Q e a' w' := by
  obtain ⟨st', E', rfl, h2, h3, h4, h5⟩ := h
  exact ⟨.normal, st', E', rfl, h2, h3, h4, h5.flow S.heap h3.heap⟩

theorem Does.text {P : Program} {k : Nat} {T : Types} (hT : TOK P T) {M : FuncId → List Mode} {id : Nat} {ops : Array Oper} {Q : AX → St → Prop} {st : St} (h : opsP P T M ops ops.toList st (Q .normal)) : Does P k (.region id ops false) Q st :=
  fun Z E a S => wp_mono (text_sound hT S h) fun e a' w' hp => reg_post S hp

theorem Does.draw {P : Program} {k : Nat} {T : Types} (hT : TOK P T) (hm : P.follows .mixedOrders = true) {M : FuncId → List Mode} {x : Bool} {id : Nat} {ops : Array Oper} {p : Plan} {Q : AX → St → Prop} {st : St}
    (hp : planFits T x ops p = true) (h : planP P T M x ops p st (Q .normal)) : Does P k (.region id ops true) Q st :=
  fun Z E a S => wp_mono (draw_sound hT hm hp S h) fun e a' w' hp => reg_post S hp

theorem Does.ofSim {P : Program} {k : Nat} {c : Code} {Q : AX → St → Prop} {st : St} (h : ∀ (Z : Nat → Prop) (E : Env) (a : Act), Sim Z E st a → ∃ st1, Sim Z E st1 a ∧ st1.heap = st.heap ∧ c.wp P (SPost k Z E st1.heap Q) a E.w) : Does P k c Q st := by
  intro Z E a S
  obtain ⟨st1, S1, e1, h1⟩ := h Z E a S
  rw [e1] at h1
  exact h1

/-- A test of a temporary. -/
theorem Does.cond {P : Program} {k : Nat} {d : Tmp} {x y : Code} {Q : AX → St → Prop} {st : St}
    (h : match st.env d with
      | .bool t => ifB t (Does P k x Q (st.lit d true)) (Does P k y Q (st.lit d false))
      | .anyb => Does P k x Q (st.lit d true) ∧ Does P k y Q (st.lit d false)
      | _ => False) : Does P k (.cond (.tmp d) x y) Q st := by
  intro Z E a S
  have key : ∀ b, a.tmps.getD d undef = .bool b → (b = true → Does P k x Q (st.lit d true)) → (b = false → Does P k y Q (st.lit d false)) → (Code.cond (.tmp d) x y).wp P (SPost k Z E st.heap Q) a E.w := by
    intro b hv h1 h2
    refine wp_cond_split (t := b) hv (fun hb => ?_) (fun hb => ?_)
    · subst hb; exact h1 rfl Z E a (S.lit hv)
    · subst hb; exact h2 rfl Z E a (S.lit hv)
  have hv := S.env d
  split at h
  · rename_i b he
    rw [he] at hv
    simp only [RepV] at hv
    exact key b hv h.1 h.2
  · rename_i he
    rw [he] at hv
    simp only [RepV] at hv
    obtain ⟨b, hv⟩ := hv
    exact key b hv (fun _ => h.1) (fun _ => h.2)
  · exact h.elim

theorem least_of {p : Nat → Prop} (h : ∃ n, p n) : ∃ n, p n ∧ ∀ m, p m → n ≤ m := by
  obtain ⟨n, hn⟩ := h
  induction n using Nat.strongRecOn with
  | _ n ih =>
    by_cases hh : ∃ m, m < n ∧ p m
    · obtain ⟨m, hm, hp⟩ := hh
      exact ih m hm hp
    · exact ⟨n, hn, fun m hm => Nat.le_of_not_lt fun hlt => hh ⟨m, hlt, hm⟩⟩

theorem wp_loop_n {P : Program} {Q : Exit → Act → World → Prop} {c : Code} (I : Nat → Act → World → Prop)
    (round : ∀ n a w, I n a w → c.wp P (Exit.then (fun a' w' => ∃ m, m < n ∧ I m a' w') Q) a w) {n : Nat} {a : Act} {w : World} (h₀ : I n a w) : (Code.loop c).wp P Q a w := by
  classical
  let μ : Act → World → Nat := fun a w => if h : ∃ n, I n a w then Classical.choose (least_of h) else 0
  refine wp_loop (fun a w => ∃ n, I n a w) μ ⟨n, h₀⟩ fun a w hI => ?_
  have hμ : μ a w = Classical.choose (least_of hI) := by simp only [μ, dif_pos hI]
  refine wp_mono (round _ a w (Classical.choose_spec (least_of hI)).1) fun e a' w' hp => ?_
  cases e with
  | normal =>
    obtain ⟨m, hm, hI'⟩ := hp
    refine ⟨⟨m, hI'⟩, ?_⟩
    have : μ a' w' ≤ m := by
      simp only [μ, dif_pos (⟨m, hI'⟩ : ∃ n, I n a' w')]
      exact (Classical.choose_spec (least_of (⟨m, hI'⟩ : ∃ n, I n a' w'))).2 m hI'
    rw [hμ]
    omega
  | _ => exact hp

theorem Does.loopN {P : Program} {k : Nat} {c : Code} {Q : AX → St → Prop} (J : Nat → St → Prop)
    (h : ∀ n st, J n st → Does P k c (thenQ (fun st' => ∃ m, m < n ∧ J m st') Q) st) {n : Nat} {st : St} (h0 : J n st) : Does P k (.loop c) Q st := by
  intro Z E a S
  refine wp_loop_n (fun n a w => ∃ st1 E1, J n st1 ∧ Sim Z E1 st1 a ∧ E1.w = w ∧ Flow k E st.heap E1 st1.heap) ?_ ⟨st, E, h0, S, rfl, Flow.refl _ _⟩
  rintro n a w ⟨st1, E1, hJ, S1, rfl, f⟩
  refine wp_mono (h n st1 hJ Z E1 a S1) ?_
  rintro e a' w' ⟨x, st', E', rfl, h2, h3, rfl, h5⟩
  cases x with
  | normal =>
    obtain ⟨m, hm, hJ'⟩ := h2
    exact ⟨m, hm, st', E', hJ', h3, rfl, f.trans h5⟩
  | exit id => exact ⟨.exit id, st', E', rfl, h2, h3, rfl, f.trans h5⟩
  | ret => exact ⟨.ret, st', E', rfl, h2, h3, rfl, f.trans h5⟩

/-- st' says less than st: another description of the same. -/
def Weaker (k : Nat) (st st' : St) : Prop := ∀ (Z : Nat → Prop) (E : Env) (a : Act), Sim Z E st a → ∃ E', Sim Z E' st' a ∧ E'.w = E.w ∧ Flow k E st.heap E' st'.heap

theorem Weaker.refl {k : Nat} (st : St) : Weaker k st st := fun Z E a S => ⟨E, S, rfl, Flow.refl _ _⟩

theorem Does.weaker {P : Program} {k : Nat} {c : Code} {Q : AX → St → Prop} {st st' : St} (w : Weaker k st st') (h : Does P k c Q st') : Does P k c Q st := by
  intro Z E a S
  obtain ⟨E', S', e, f⟩ := w Z E a S
  rw [← e]
  exact wp_mono (h Z E' a S') fun _ _ _ hp => hp.flow f

/-- A loop, by states of a form that is kept. -/
theorem Does.loop {P : Program} {k : Nat} {c : Code} {Q : AX → St → Prop} {α : Type} (I : α → St) (φ : α → Prop) (μ : α → Nat)
    (h : ∀ g, φ g → Does P k c (thenQ (fun st' => ∃ g', φ g' ∧ μ g' < μ g ∧ Weaker k st' (I g')) Q) (I g)) (g : α) {st : St} (hg : φ g) (hw : Weaker k st (I g)) : Does P k (.loop c) Q st := by
  refine Does.loopN (fun n st => ∃ g, φ g ∧ μ g = n ∧ Weaker k st (I g)) ?_ ⟨g, hg, rfl, hw⟩
  rintro n st1 ⟨g1, hg1, rfl, hw1⟩
  refine Does.weaker hw1 ((h g1 hg1).mono ?_)
  intro x st' hq
  cases x with
  | normal =>
    obtain ⟨g', k1, k2, k3⟩ := hq
    exact ⟨μ g', k2, g', k1, rfl, k3⟩
  | exit id => exact hq
  | ret => exact hq

/-- A cut: the first part comes to states of a form. -/
theorem Does.seqCut {P : Program} {k : Nat} {x y : Code} {Q : AX → St → Prop} {st : St} {α : Type} (I : α → St) (φ : α → Prop)
    (h : Does P k x (thenQ (fun st' => ∃ g, φ g ∧ Weaker k st' (I g)) Q) st) (hy : ∀ g, φ g → Does P k y Q (I g)) : Does P k (.seq x y) Q st := by
  refine Does.seq (h.mono ?_)
  intro e st' hq
  cases e with
  | normal =>
    obtain ⟨g, k1, k2⟩ := hq
    exact Does.weaker k2 (hy g k1)
  | exit id => exact hq
  | ret => exact hq

/-- The first region of a code: its name for a cut. -/
def firstReg : Code → Nat
  | .region id _ _ => id
  | .seq a _ => firstReg a
  | .cond _ a _ => firstReg a
  | .block _ a => firstReg a
  | .loop a => firstReg a
  | _ => 1000000

/-- Does a code end in a branching? Then its name. -/
def lastCut : Code → Option Nat
  | .cond _ x _ => some (firstReg x)
  | .block _ x => some (firstReg x)
  | .seq _ y => lastCut y
  | _ => none

/-- What must hold ahead of the code; `CU`: where the prover wants to cut. -/
def wpc (P : Program) (k : Nat) (T : Types) (M : FuncId → List Mode) (PL : Nat → Bool × Plan) (CU : Nat → Bool) : Code → (AX → St → Prop) → St → Prop
  | .skip, Q, st => Q .normal st
  | .region id ops draw, Q, st => cond (CU (100000 + id)) (Does P k (.region id ops draw) Q st) (match draw with
    | false => opsP P T M ops ops.toList st (Q .normal)
    | true => match PL id with
      | (x, p) => planFits T x ops p = true ∧ planP P T M x ops p st (Q .normal))
  | .seq a b, Q, st => match lastCut a with
    | some r => cond (CU r) (Does P k (.seq a b) Q st) (wpc P k T M PL CU a (thenQ (wpc P k T M PL CU b Q) Q) st)
    | none => wpc P k T M PL CU a (thenQ (wpc P k T M PL CU b Q) Q) st
  | .cond c a b, Q, st => match c with
    | .tmp d => match st.env d with
      | .bool t => ifB t (wpc P k T M PL CU a Q (st.lit d true)) (wpc P k T M PL CU b Q (st.lit d false))
      | .anyb => wpc P k T M PL CU a Q (st.lit d true) ∧ wpc P k T M PL CU b Q (st.lit d false)
      | _ => False
    | _ => False
  | .block id b, Q, st => wpc P k T M PL CU b (blockQ id Q) st
  | .loop b, Q, st => Does P k (.loop b) Q st
  | .exit id, Q, st => Q (.exit id) st
  | .ret, Q, st => cond (CU 99999) (Does P k .ret Q st) (Q .ret st)
  | _, _, _ => False

theorem wpc_sound {P : Program} {k : Nat} {T : Types} (hT : TOK P T) (hm : P.follows .mixedOrders = true) {M : FuncId → List Mode} {PL : Nat → Bool × Plan} {CU : Nat → Bool} : ∀ (c : Code) (Q : AX → St → Prop) (st : St), wpc P k T M PL CU c Q st → Does P k c Q st
  | .skip, Q, st, h => by unfold wpc at h; exact Does.skip h
  | .region id ops draw, Q, st, h => by
    unfold wpc at h
    cases hc : CU (100000 + id) with
    | true => rw [hc] at h; exact h
    | false =>
      rw [hc] at h
      cases draw with
      | false => exact Does.text hT h
      | true => exact Does.draw hT hm h.1 h.2
  | .seq a b, Q, st, h => by
    have go : wpc P k T M PL CU a (thenQ (wpc P k T M PL CU b Q) Q) st → Does P k (.seq a b) Q st := by
      intro h
      refine Does.seq ((wpc_sound hT hm a _ st h).mono ?_)
      intro x st' hq
      cases x with
      | normal => exact wpc_sound hT hm b Q st' hq
      | exit id => exact hq
      | ret => exact hq
    unfold wpc at h
    split at h
    · rename_i r hr
      cases hc : CU r with
      | true => rw [hc] at h; exact h
      | false => rw [hc] at h; exact go h
    · exact go h
  | .cond c a b, Q, st, h => by
    unfold wpc at h
    split at h
    · rename_i d
      refine Does.cond ?_
      split at h
      · rename_i t he
        exact ⟨fun ht => wpc_sound hT hm a Q _ (h.1 ht), fun ht => wpc_sound hT hm b Q _ (h.2 ht)⟩
      · rename_i he
        exact ⟨wpc_sound hT hm a Q _ h.1, wpc_sound hT hm b Q _ h.2⟩
      · exact h.elim
    · exact h.elim
  | .block id b, Q, st, h => by unfold wpc at h; exact Does.block (wpc_sound hT hm b _ st h)
  | .loop b, Q, st, h => by unfold wpc at h; exact h
  | .exit id, Q, st, h => by unfold wpc at h; exact Does.exit h
  | .ret, Q, st, h => by
    unfold wpc at h
    cases hc : CU 99999 with
    | true => rw [hc] at h; exact h
    | false => rw [hc] at h; exact Does.ret h
  | .rangeFunc .., Q, st, h => by simp [wpc] at h
  | .scope .., Q, st, h => by simp [wpc] at h
  | .label .., Q, st, h => by simp [wpc] at h
  | .goto .., Q, st, h => by simp [wpc] at h
  | .refuse .., Q, st, h => by simp [wpc] at h

end Go.Proofs.Ytaefmhdpfmpijaa.Abs
