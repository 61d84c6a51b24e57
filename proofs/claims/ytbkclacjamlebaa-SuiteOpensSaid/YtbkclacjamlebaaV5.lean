/- Texts GA to CY, merged. -/
import Derived.Laws.Sem
import Derived.Test.YtbkclacjamlebaaProg
import Derived.Laws.BitsLemmas
import Derived.Lib.EndianBits
import Derived.ChangeShapes
import Derived.ChangeArms
import Derived.OpenShut
import Derived.WideShapes
import Derived.Test.YtbkclacjamlebaaV4
set_option linter.unusedVariables false
set_option linter.unusedSimpArgs false
namespace Go.Proofs.Ytbkclacjamlebaa.Abs
open Go
section

inductive AX where
 | normal
 | exit (id : Nat)
 | ret
def AX.out : AX → Exit
 | .normal => .normal
 | .exit id => .exit id
 | .ret => .ret
structure Flow (k : Nat) (E : Env) (H : Heap) (E' : Env) (H' : Heap) : Prop where
 η : E'.η = E.η
 evo : Evo (Wr E.ρ H) E.w E'.w
 back : ∀ b, b < E.w.heap.size → Wr E'.ρ H' b → Wr E.ρ H b
 keep : ∀ id n, id < k → E.ρ id = some n → E'.ρ id = some n
theorem Flow.refl {k : Nat} (E : Env) (H : Heap) : Flow k E H E H := ⟨rfl, Evo.refl _ _, fun _ _ h => h, fun _ _ _ h => h⟩
theorem Flow.trans {m : Nat} {E E' E'' : Env} {H H' H'' : Heap} (h : Flow m E H E' H') (k : Flow m E' H' E'' H'') : Flow m E H E'' H'' :=
 ⟨k.η.trans h.η, h.evo.trans k.evo h.back, fun b hb hw => h.back b hb (k.back b (Nat.lt_of_lt_of_le hb h.evo.size) hw), fun id n hi hn => k.keep id n hi (h.keep id n hi hn)⟩
theorem Chain.flow {k : Nat} {Z : Nat → Prop} {E E' : Env} {H H' : Heap} {nx nx' : Nat} (h : HeapRep Z E H nx) (c : Chain E (Wr E.ρ H) E') (h' : HeapRep Z E' H' nx') : Flow k E H E' H' :=
 ⟨c.later.η, c.evo, wr_back h c.later h', fun id n _ hn => c.later.ρ id n hn⟩
def SPost (k : Nat) (Z : Nat → Prop) (E : Env) (H : Heap) (Q : AX → St → Prop) (e : Exit) (a : Act) (w : World) : Prop :=
 ∃ x st' E', e = x.out ∧ Q x st' ∧ Sim Z E' st' a ∧ E'.w = w ∧ Flow k E H E' st'.heap
def Does (P : Program) (k : Nat) (c : Code) (Q : AX → St → Prop) (st : St) : Prop :=
 ∀ (Z : Nat → Prop) (E : Env) (a : Act), Sim Z E st a → c.wp P (SPost k Z E st.heap Q) a E.w
theorem SPost.flow {k : Nat} {Z : Nat → Prop} {E E' : Env} {H H' : Heap} {Q : AX → St → Prop} {e : Exit} {a : Act} {w : World} (f : Flow k E H E' H') (h : SPost k Z E' H' Q e a w) : SPost k Z E H Q e a w := by
 obtain ⟨x, st', E2, h1, h2, h3, h4, h5⟩ := h
 exact ⟨x, st', E2, h1, h2, h3, h4, f.trans h5⟩
theorem Does.mono {P : Program} {k : Nat} {c : Code} {Q Q' : AX → St → Prop} {st : St} (h : Does P k c Q st) (hq : ∀ x st, Q x st → Q' x st) : Does P k c Q' st :=
 fun Z E a S => wp_mono (h Z E a S) fun e a' w' ⟨x, st', E', h1, h2, h3, h4, h5⟩ => ⟨x, st', E', h1, hq _ _ h2, h3, h4, h5⟩
def thenQ (K : St → Prop) (Q : AX → St → Prop) : AX → St → Prop
 | .normal, st => K st
 | x, st => Q x st
def blockQ (id : Nat) (Q : AX → St → Prop) : AX → St → Prop
 | .exit i, st => cond (Nat.beq i id) (Q .normal st) (Q (.exit i) st)
 | x, st => Q x st
theorem Does.skip {P : Program} {k : Nat} {Q : AX → St → Prop} {st : St} (h : Q .normal st) : Does P k .skip Q st :=
 fun Z E a S => wp_skip ⟨.normal, st, E, rfl, h, S, rfl, Flow.refl _ _⟩
theorem Does.exit {P : Program} {k : Nat} {Q : AX → St → Prop} {id : Nat} {st : St} (h : Q (.exit id) st) : Does P k (.exit id) Q st :=
 fun Z E a S => wp_exit ⟨.exit id, st, E, rfl, h, S, rfl, Flow.refl _ _⟩
theorem Does.ret {P : Program} {k : Nat} {Q : AX → St → Prop} {st : St} (h : Q .ret st) : Does P k .ret Q st :=
 fun Z E a S => wp_ret ⟨.ret, st, E, rfl, h, S, rfl, Flow.refl _ _⟩
theorem Does.seq {P : Program} {k : Nat} {x y : Code} {Q : AX → St → Prop} {st : St} (h : Does P k x (thenQ (Does P k y Q) Q) st) : Does P k (.seq x y) Q st := by
 intro Z E a S
 refine wp_seq (wp_mono (h Z E a S) ?_)
 rintro e a' w' ⟨x, st', E', rfl, h2, h3, rfl, h5⟩
 cases x with
 | normal => exact wp_mono (h2 Z E' a' h3) fun e a'' w'' hp => hp.flow h5
 | exit id => exact ⟨.exit id, st', E', rfl, h2, h3, rfl, h5⟩
 | ret => exact ⟨.ret, st', E', rfl, h2, h3, rfl, h5⟩
theorem Does.block {P : Program} {k : Nat} {id : Nat} {c : Code} {Q : AX → St → Prop} {st : St} (h : Does P k c (blockQ id Q) st) : Does P k (.block id c) Q st := by
 intro Z E a S
 refine wp_block (wp_mono (h Z E a S) ?_)
 rintro e a' w' ⟨x, st', E', rfl, h2, h3, rfl, h5⟩
 cases x with
 | normal => exact ⟨.normal, st', E', rfl, h2, h3, rfl, h5⟩
 | exit i =>
  simp only [AX.out, Exit.inBlock]
  simp only [blockQ] at h2
  by_cases hi : i = id
  ·subst hi
   rw [if_pos rfl]
   have : Nat.beq i i = true := by simp
   rw [this] at h2
   exact ⟨.normal, st', E', rfl, h2, h3, rfl, h5⟩
  ·rw [if_neg hi]
   have : Nat.beq i id = false := by
    cases hh : Nat.beq i id
    ·rfl
    ·exact absurd (Nat.eq_of_beq_eq_true hh) hi
   rw [this] at h2
   exact ⟨.exit i, st', E', rfl, h2, h3, rfl, h5⟩
 | ret => exact ⟨.ret, st', E', rfl, h2, h3, rfl, h5⟩
theorem reg_post {k : Nat} {Z : Nat → Prop} {E : Env} {st : St} {a : Act} (S : Sim Z E st a) {Q : AX → St → Prop} {e : Exit} {a' : Act} {w' : World} (h : RegPost Z E st.heap (Q .normal) e a' w') : SPost k Z E st.heap Q e a' w' := by
 obtain ⟨st', E', rfl, h2, h3, h4, h5⟩ := h
 exact ⟨.normal, st', E', rfl, h2, h3, h4, h5.flow S.heap h3.heap⟩
theorem Does.text {P : Program} {k : Nat} {T : Types} (hT : TOK P T) {M : FuncId → List Mode} {id : Nat} {ops : Array Oper} {Q : AX → St → Prop} {st : St} (h : opsP P T M ops ops.toList st (Q .normal)) : Does P k (.region id ops false) Q st :=
 fun Z E a S => wp_mono (text_sound hT S h) fun e a' w' hp => reg_post S hp
theorem Does.draw {P : Program} {k : Nat} {T : Types} (hT : TOK P T) (hm : P.follows .mixedOrders = true) {M : FuncId → List Mode} {x : Bool} {id : Nat} {ops : Array Oper} {p : Plan} {Q : AX → St → Prop} {st : St}
  (hp : planFits T x ops p = true) (h : planP P T M x ops p st (Q .normal)) : Does P k (.region id ops true) Q st :=
 fun Z E a S => wp_mono (draw_sound hT hm hp S h) fun e a' w' hp => reg_post S hp
theorem Does.cond {P : Program} {k : Nat} {d : Tmp} {x y : Code} {Q : AX → St → Prop} {st : St}
  (h : match st.env d with
   | .bool t => ifB t (Does P k x Q (st.lit d true)) (Does P k y Q (st.lit d false))
   | .anyb => Does P k x Q (st.lit d true) ∧ Does P k y Q (st.lit d false)
   | _ => False) : Does P k (.cond (.tmp d) x y) Q st := by
 intro Z E a S
 have key : ∀ b, a.tmps.getD d undef = .bool b → (b = true → Does P k x Q (st.lit d true)) → (b = false → Does P k y Q (st.lit d false)) → (Code.cond (.tmp d) x y).wp P (SPost k Z E st.heap Q) a E.w := by
  intro b hv h1 h2
  refine wp_cond_split (t := b) hv (fun hb => ?_) (fun hb => ?_)
  ·subst hb; exact h1 rfl Z E a (S.lit hv)
  ·subst hb; exact h2 rfl Z E a (S.lit hv)
 have hv := S.env d
 split at h
 ·rename_i b he
  rw [he] at hv
  simp only [RepV] at hv
  exact key b hv h.1 h.2
 ·rename_i he
  rw [he] at hv
  simp only [RepV] at hv
  obtain ⟨b, hv⟩ := hv
  exact key b hv (fun _ => h.1) (fun _ => h.2)
 ·exact h.elim
theorem least_of {p : Nat → Prop} (h : ∃ n, p n) : ∃ n, p n ∧ ∀ m, p m → n ≤ m := by
 obtain ⟨n, hn⟩ := h
 induction n using Nat.strongRecOn with
 | _ n ih =>
  by_cases hh : ∃ m, m < n ∧ p m
  ·obtain ⟨m, hm, hp⟩ := hh
   exact ih m hm hp
  ·exact ⟨n, hn, fun m hm => Nat.le_of_not_lt fun hlt => hh ⟨m, hlt, hm⟩⟩
theorem wp_loop_n {P : Program} {Q : Exit → Act → World → Prop} {c : Code} (I : Nat → Act → World → Prop)
  (round : ∀ n a w, I n a w → c.wp P (Exit.then (fun a' w' => ∃ m, m < n ∧ I m a' w') Q) a w) {n : Nat} {a : Act} {w : World} (h₀ : I n a w) : (Code.loop c).wp P Q a w := by
 classical
 let μ : Act → World → Nat := fun a w => if h : ∃ n, I n a w then Classical.choose (least_of h) else 0
 refine wp_loop (fun a w => ∃ n, I n a w) μ ⟨n, h₀⟩ fun a w hI => ?_
 have hμ : μ a w = Classical.choose (least_of hI) := by simp only [μ, dif_pos hI]
 refine wp_mono (round _ a w (Classical.choose_spec (least_of hI)).1) fun e a' w' hp => ?_
 cases e with
 | normal =>
  obtain ⟨m, hm, hI'⟩ := hp
  refine ⟨⟨m, hI'⟩, ?_⟩
  have : μ a' w' ≤ m := by
   simp only [μ, dif_pos (⟨m, hI'⟩ : ∃ n, I n a' w')]
   exact (Classical.choose_spec (least_of (⟨m, hI'⟩ : ∃ n, I n a' w'))).2 m hI'
  rw [hμ]
  omega
 | _ => exact hp
theorem Does.loopN {P : Program} {k : Nat} {c : Code} {Q : AX → St → Prop} (J : Nat → St → Prop)
  (h : ∀ n st, J n st → Does P k c (thenQ (fun st' => ∃ m, m < n ∧ J m st') Q) st) {n : Nat} {st : St} (h0 : J n st) : Does P k (.loop c) Q st := by
 intro Z E a S
 refine wp_loop_n (fun n a w => ∃ st1 E1, J n st1 ∧ Sim Z E1 st1 a ∧ E1.w = w ∧ Flow k E st.heap E1 st1.heap) ?_ ⟨st, E, h0, S, rfl, Flow.refl _ _⟩
 rintro n a w ⟨st1, E1, hJ, S1, rfl, f⟩
 refine wp_mono (h n st1 hJ Z E1 a S1) ?_
 rintro e a' w' ⟨x, st', E', rfl, h2, h3, rfl, h5⟩
 cases x with
 | normal =>
  obtain ⟨m, hm, hJ'⟩ := h2
  exact ⟨m, hm, st', E', hJ', h3, rfl, f.trans h5⟩
 | exit id => exact ⟨.exit id, st', E', rfl, h2, h3, rfl, f.trans h5⟩
 | ret => exact ⟨.ret, st', E', rfl, h2, h3, rfl, f.trans h5⟩
def Weaker (k : Nat) (st st' : St) : Prop := ∀ (Z : Nat → Prop) (E : Env) (a : Act), Sim Z E st a → ∃ E', Sim Z E' st' a ∧ E'.w = E.w ∧ Flow k E st.heap E' st'.heap
theorem Weaker.refl {k : Nat} (st : St) : Weaker k st st := fun Z E a S => ⟨E, S, rfl, Flow.refl _ _⟩
theorem Does.weaker {P : Program} {k : Nat} {c : Code} {Q : AX → St → Prop} {st st' : St} (w : Weaker k st st') (h : Does P k c Q st') : Does P k c Q st := by
 intro Z E a S
 obtain ⟨E', S', e, f⟩ := w Z E a S
 rw [← e]
 exact wp_mono (h Z E' a S') fun _ _ _ hp => hp.flow f
theorem Does.loop {P : Program} {k : Nat} {c : Code} {Q : AX → St → Prop} {α : Type} (I : α → St) (φ : α → Prop) (μ : α → Nat)
  (h : ∀ g, φ g → Does P k c (thenQ (fun st' => ∃ g', φ g' ∧ μ g' < μ g ∧ Weaker k st' (I g')) Q) (I g)) (g : α) {st : St} (hg : φ g) (hw : Weaker k st (I g)) : Does P k (.loop c) Q st := by
 refine Does.loopN (fun n st => ∃ g, φ g ∧ μ g = n ∧ Weaker k st (I g)) ?_ ⟨g, hg, rfl, hw⟩
 rintro n st1 ⟨g1, hg1, rfl, hw1⟩
 refine Does.weaker hw1 ((h g1 hg1).mono ?_)
 intro x st' hq
 cases x with
 | normal =>
  obtain ⟨g', k1, k2, k3⟩ := hq
  exact ⟨μ g', k2, g', k1, rfl, k3⟩
 | exit id => exact hq
 | ret => exact hq
theorem Does.seqCut {P : Program} {k : Nat} {x y : Code} {Q : AX → St → Prop} {st : St} {α : Type} (I : α → St) (φ : α → Prop)
  (h : Does P k x (thenQ (fun st' => ∃ g, φ g ∧ Weaker k st' (I g)) Q) st) (hy : ∀ g, φ g → Does P k y Q (I g)) : Does P k (.seq x y) Q st := by
 refine Does.seq (h.mono ?_)
 intro e st' hq
 cases e with
 | normal =>
  obtain ⟨g, k1, k2⟩ := hq
  exact Does.weaker k2 (hy g k1)
 | exit id => exact hq
 | ret => exact hq
def firstReg : Code → Nat
 | .region id _ _ => id
 | .seq a _ => firstReg a
 | .cond _ a _ => firstReg a
 | .block _ a => firstReg a
 | .loop a => firstReg a
 | _ => 1000000
def lastCut : Code → Option Nat
 | .region id _ _ => some (200000 + id)
 | .cond _ x _ => some (firstReg x)
 | .block _ x => some (firstReg x)
 | .seq _ y => lastCut y
 | _ => none
def wpc (P : Program) (k : Nat) (T : Types) (M : FuncId → List Mode) (PL : Nat → Bool × Plan) (CU : Nat → Bool) : Code → (AX → St → Prop) → St → Prop
 | .skip, Q, st => Q .normal st
 | .region id ops draw, Q, st => cond (CU (100000 + id)) (Does P k (.region id ops draw) Q st) (match draw with
  | false => opsP P T M ops ops.toList st (Q .normal)
  | true => match PL id with
   | (x, p) => planFits T x ops p = true ∧ planP P T M x ops p st (Q .normal))
 | .seq a b, Q, st => match lastCut a with
  | some r => cond (CU r) (Does P k (.seq a b) Q st) (wpc P k T M PL CU a (thenQ (wpc P k T M PL CU b Q) Q) st)
  | none => wpc P k T M PL CU a (thenQ (wpc P k T M PL CU b Q) Q) st
 | .cond c a b, Q, st => match c with
  | .tmp d => match st.env d with
   | .bool t => ifB t (wpc P k T M PL CU a Q (st.lit d true)) (wpc P k T M PL CU b Q (st.lit d false))
   | .anyb => wpc P k T M PL CU a Q (st.lit d true) ∧ wpc P k T M PL CU b Q (st.lit d false)
   | _ => False
  | .const (.bool false) => wpc P k T M PL CU b Q st
  | .const (.bool true) => wpc P k T M PL CU a Q st
  | _ => False
 | .block id b, Q, st => wpc P k T M PL CU b (blockQ id Q) st
 | .loop b, Q, st => Does P k (.loop b) Q st
 | .exit id, Q, st => Q (.exit id) st
 | .ret, Q, st => cond (CU 99999) (Does P k .ret Q st) (Q .ret st)
 | _, _, _ => False
theorem wpc_sound {P : Program} {k : Nat} {T : Types} (hT : TOK P T) (hm : P.follows .mixedOrders = true) {M : FuncId → List Mode} {PL : Nat → Bool × Plan} {CU : Nat → Bool} : ∀ (c : Code) (Q : AX → St → Prop) (st : St), wpc P k T M PL CU c Q st → Does P k c Q st
 | .skip, Q, st, h => by unfold wpc at h; exact Does.skip h
 | .region id ops draw, Q, st, h => by
  unfold wpc at h
  cases hc : CU (100000 + id) with
  | true => rw [hc] at h; exact h
  | false =>
   rw [hc] at h
   cases draw with
   | false => exact Does.text hT h
   | true => exact Does.draw hT hm h.1 h.2
 | .seq a b, Q, st, h => by
  have go : wpc P k T M PL CU a (thenQ (wpc P k T M PL CU b Q) Q) st → Does P k (.seq a b) Q st := by
   intro h
   refine Does.seq ((wpc_sound hT hm a _ st h).mono ?_)
   intro x st' hq
   cases x with
   | normal => exact wpc_sound hT hm b Q st' hq
   | exit id => exact hq
   | ret => exact hq
  unfold wpc at h
  split at h
  ·rename_i r hr
   cases hc : CU r with
   | true => rw [hc] at h; exact h
   | false => rw [hc] at h; exact go h
  ·exact go h
 | .cond c a b, Q, st, h => by
  unfold wpc at h
  split at h
  ·rename_i d
   refine Does.cond ?_
   split at h
   ·rename_i t he
    exact ⟨fun ht => wpc_sound hT hm a Q _ (h.1 ht), fun ht => wpc_sound hT hm b Q _ (h.2 ht)⟩
   ·rename_i he
    exact ⟨wpc_sound hT hm a Q _ h.1, wpc_sound hT hm b Q _ h.2⟩
   ·exact h.elim
  ·exact fun Z E act S => wp_cond_split (t := false) rfl (fun hb => by cases hb) (fun _ => wpc_sound hT hm b Q st h Z E act S)
  ·exact fun Z E act S => wp_cond_split (t := true) rfl (fun _ => wpc_sound hT hm a Q st h Z E act S) (fun hb => by cases hb)
  ·exact h.elim
 | .block id b, Q, st, h => by unfold wpc at h; exact Does.block (wpc_sound hT hm b _ st h)
 | .loop b, Q, st, h => by unfold wpc at h; exact h
 | .exit id, Q, st, h => by unfold wpc at h; exact Does.exit h
 | .ret, Q, st, h => by
  unfold wpc at h
  cases hc : CU 99999 with
  | true => rw [hc] at h; exact h
  | false => rw [hc] at h; exact Does.ret h
 | .rangeFunc .., Q, st, h => by simp [wpc] at h
 | .scope .., Q, st, h => by simp [wpc] at h
 | .label .., Q, st, h => by simp [wpc] at h
 | .goto .., Q, st, h => by simp [wpc] at h
 | .refuse .., Q, st, h => by simp [wpc] at h
end
section

def resVarP (T : Types) (st : St) : ResultVar → (AV → Prop) → Prop
 | .tmp t, K => K (st.env t)
 | .cell a t, K => loadP T st.heap t (st.env a) K
def resListP (T : Types) (st : St) : List ResultVar → (List AV → Prop) → Prop
 | [], K => K []
 | r :: rs, K => resVarP T st r fun x => resListP T st rs fun xs => K (x :: xs)
def tupleOf : List AV → AV
 | [x] => x
 | xs => .tuple xs
def resF (tmps : Array Value) : ResultVar → Sem Value
 | .tmp t => pure (tmps.getD t undef)
 | .cell a t => do loadVar t (← asAddr (tmps.getD a undef))
theorem resVarP_sound {P : Program} {T : Types} (hT : TOK P T) {Z : Nat → Prop} {E : Env} {st : St} {a : Act} (S : Sim Z E st a) {r : ResultVar} {K : AV → Prop} (h : resVarP T st r K) :
  ∃ x v, K x ∧ RepV E x v ∧ (resF a.tmps r).run P E.w = .ok v E.w := by
 cases r with
 | tmp t => exact ⟨_, _, h, S.env t, by simp [resF]⟩
 | cell p t =>
  change loadP T st.heap t (st.env p) K at h
  obtain ⟨x, v, b, h1, h2, h3, _⟩ := loadP_at (P := P) hT S.heap (S.env p) h
  refine ⟨x, v, h1, h2, ?_⟩
  have hr := h3 E.w rfl
  have hp : ∃ ad, a.tmps.getD p undef = .pointer (some ad) := by
   have hv := S.env p
   unfold loadP at h
   split at h
   ·rename_i id off he
    rw [he] at hv
    simp only [RepV] at hv
    obtain ⟨n, _, hv⟩ := hv
    exact ⟨_, hv⟩
   ·rename_i cs he
    rw [he] at hv
    simp only [RepV] at hv
    obtain ⟨b, off, hv, _⟩ := hv
    exact ⟨_, hv⟩
   ·exact h.elim
  obtain ⟨ad, hp⟩ := hp
  rw [hp] at hr
  simp only [Instr.loadAt, Instr.sureAddr, Sem.run_bind, Sem.run_pure, Result.andThen_ok] at hr
  simp only [resF, hp, asAddr, Sem.run_bind, Sem.run_pure, Result.andThen_ok]
  exact hr
theorem resListP_sound {P : Program} {T : Types} (hT : TOK P T) {Z : Nat → Prop} {E : Env} {st : St} {a : Act} (S : Sim Z E st a) : ∀ (rs : List ResultVar) {K : List AV → Prop}, resListP T st rs K →
  ∃ xs vs, K xs ∧ RepL E xs vs ∧ (rs.mapM (resF a.tmps)).run P E.w = .ok vs E.w
 | [], K, h => ⟨[], [], h, by simp [RepL], by simp⟩
 | r :: rs, K, h => by
  unfold resListP at h
  obtain ⟨x, v, h1, h2, h3⟩ := resVarP_sound (P := P) hT S h
  obtain ⟨xs, vs, k1, k2, k3⟩ := resListP_sound hT S rs h1
  refine ⟨x :: xs, v :: vs, k1, by simp only [RepL]; exact ⟨v, vs, rfl, h2, k2⟩, ?_⟩
  simp [List.mapM_cons, h3, k3]
theorem results_sound {P : Program} {T : Types} (hT : TOK P T) {Z : Nat → Prop} {E : Env} {st : St} {a : Act} (S : Sim Z E st a) {fn : Func} {K : List AV → Prop} (h : resListP T st fn.results.toList K) :
  ∃ xs v, K xs ∧ RepV E (tupleOf xs) v ∧ (results fn a.tmps).run P E.w = .ok v E.w := by
 obtain ⟨xs, vs, h1, h2, h3⟩ := resListP_sound (P := P) hT S _ h
 have hm : (fn.results.mapM (resF a.tmps)).run P E.w = .ok vs.toArray E.w := by
  have e : fn.results = fn.results.toList.toArray := by simp
  rw [e, List.mapM_toArray]
  simp [h3]
 have hres : (results fn a.tmps).run P E.w = .ok (if h : vs.toArray.size = 1 then vs.toArray[0] else .tuple vs.toArray) E.w := by
  have : results fn a.tmps = (do let vs ← fn.results.mapM (resF a.tmps); Pure.pure (if h : vs.size = 1 then vs[0] else .tuple vs)) := by
   unfold results
   congr 1
  rw [this, Sem.run_bind, hm]
  simp
 refine ⟨xs, _, h1, ?_, hres⟩
 have hlen := repL_length _ _ h2
 match xs, vs, h2, hlen with
 | [], [], h2, _ => simp [tupleOf, RepV, RepL]
 | [x], [v], h2, _ =>
  simp only [RepL] at h2
  obtain ⟨u, us, he, hr, _⟩ := h2
  injection he with he1 he2
  subst he1
  simpa [tupleOf] using hr
 | x :: y :: xs, v :: u :: vs, h2, _ =>
  simp only [tupleOf, RepV]
  refine ⟨(v :: u :: vs).toArray, ?_, by simpa using h2⟩
  rw [dif_neg (by simp)]
def nthA : List AV → Nat → AV
 | [], _ => .top
 | x :: _, 0 => x
 | _ :: xs, t + 1 => nthA xs t
def refAVs : List AV → List AV → List AV
 | y :: ys, x :: xs => cond (isRef y) (x :: refAVs ys xs) (refAVs ys xs)
 | _, _ => []
def ptrsBelow (k : Nat) : List AV → Bool
 | [] => true
 | .ptr id _ :: r => Nat.blt id k && ptrsBelow k r
 | _ => false
def entry (args : List AV) (n : Nat) : St :=
 match matL args (noHeap, 0) with
 | (xs, (H, nx)) => ⟨nthA xs, H, nx, args.length + (n - args.length)⟩
mutual
def demP (H : Heap) (y x : AV) (K : List Nat → Prop) : Prop :=
 match y with
 | .own len esz cs => match x with
  | .nil => (len = 0 ∧ cs = []) ∧ K []
  | .sl id 0 len' esz' full => match H id with
   | some ds => (len' = len ∧ esz' = esz ∧ ds = cs ∧ cs.length = len * esz ∧ pureL cs = true) ∧ K [id]
   | none => False
  | _ => False
 | .ref cs => match x with
  | .ptr id 0 => match H id with
   | some zs => demsP H cs zs fun is => K (is ++ [id])
   | none => False
  | _ => False
 | .agg cs => match x with
  | .agg zs => demsP H cs zs K
  | _ => False
 | .tuple cs => match x with
  | .tuple zs => demsP H cs zs K
  | _ => False
 | .ro len cs => match x with
  | .nil => (len = 0 ∧ cs = []) ∧ K []
  | .ro len' cs' => (len' = len ∧ cs' = cs ∧ pureL cs = true) ∧ K []
  | _ => False
 | .int k n => match x with
  | .int k' n' => (k' = k ∧ n' = n) ∧ K []
  | _ => False
 | .bool b => match x with
  | .bool b' => b' = b ∧ K []
  | _ => False
 | .str s => match x with
  | .str s' => s' = s ∧ K []
  | _ => False
 | .nil => match x with
  | .nil => K []
  | _ => False
 | .nilp => match x with
  | .nilp => K []
  | _ => False
 | .rop cs => (x = .rop cs ∧ pureL cs = true) ∧ K []
 | .hid i => x = .hid i ∧ K []
 | .top => x = .top ∧ K []
 | .anyb => x = .anyb ∧ K []
 | _ => False
def demsP (H : Heap) (ys xs : List AV) (K : List Nat → Prop) : Prop :=
 match ys with
 | [] => match xs with
  | [] => K []
  | _ :: _ => False
 | y :: ys => match xs with
  | [] => False
  | x :: xs => demP H y x fun i => demsP H ys xs fun is => K (i ++ is)
end
mutual
theorem demP_ok {H : Heap} : ∀ (y x : AV) (K : List Nat → Prop), demP H y x K → ∃ ids, Dem H y x ids ∧ K ids
 | .own len esz cs, x, K, h => by
  simp only [demP] at h
  split at h
  ·obtain ⟨⟨rfl, rfl⟩, hk⟩ := h
   exact ⟨[], by simp [Dem, pureL], hk⟩
  ·rename_i id len' esz' full
   split at h
   ·rename_i ds hd
    obtain ⟨⟨rfl, rfl, rfl, hl, hp⟩, hk⟩ := h
    refine ⟨[id], ?_, hk⟩
    simp only [Dem]
    exact ⟨hp, hl, .inr ⟨id, full, rfl, hd, rfl⟩⟩
   ·exact h.elim
  ·exact h.elim
 | .ref cs, x, K, h => by
  simp only [demP] at h
  split at h
  ·rename_i id
   split at h
   ·rename_i zs hz
    obtain ⟨is, h1, h2⟩ := demsP_ok cs zs _ h
    refine ⟨is ++ [id], ?_, h2⟩
    simp only [Dem]
    exact ⟨id, zs, is, rfl, hz, h1, rfl⟩
   ·exact h.elim
  ·exact h.elim
 | .agg cs, x, K, h => by
  simp only [demP] at h
  split at h
  ·rename_i zs
   obtain ⟨is, h1, h2⟩ := demsP_ok cs zs _ h
   exact ⟨is, by simp only [Dem]; exact ⟨zs, rfl, h1⟩, h2⟩
  ·exact h.elim
 | .tuple cs, x, K, h => by
  simp only [demP] at h
  split at h
  ·rename_i zs
   obtain ⟨is, h1, h2⟩ := demsP_ok cs zs _ h
   exact ⟨is, by simp only [Dem]; exact ⟨zs, rfl, h1⟩, h2⟩
  ·exact h.elim
 | .ro len cs, x, K, h => by
  simp only [demP] at h
  split at h
  ·obtain ⟨⟨rfl, rfl⟩, hk⟩ := h
   exact ⟨[], by simp [Dem], hk⟩
  ·obtain ⟨⟨rfl, rfl, hp⟩, hk⟩ := h
   exact ⟨[], by simp [Dem, hp], hk⟩
  ·exact h.elim
 | .int k n, x, K, h => by
  simp only [demP] at h
  split at h
  ·obtain ⟨⟨rfl, rfl⟩, hk⟩ := h
   exact ⟨[], by simp [Dem, pureV], hk⟩
  ·exact h.elim
 | .bool b, x, K, h => by
  simp only [demP] at h
  split at h
  ·obtain ⟨rfl, hk⟩ := h
   exact ⟨[], by simp [Dem, pureV], hk⟩
  ·exact h.elim
 | .str s, x, K, h => by
  simp only [demP] at h
  split at h
  ·obtain ⟨rfl, hk⟩ := h
   exact ⟨[], by simp [Dem, pureV], hk⟩
  ·exact h.elim
 | .nil, x, K, h => by
  simp only [demP] at h
  split at h
  ·exact ⟨[], by simp [Dem, pureV], h⟩
  ·exact h.elim
 | .nilp, x, K, h => by
  simp only [demP] at h
  split at h
  ·exact ⟨[], by simp [Dem, pureV], h⟩
  ·exact h.elim
 | .rop cs, x, K, h => by
  simp only [demP] at h
  obtain ⟨⟨rfl, hp⟩, hk⟩ := h
  exact ⟨[], by simp [Dem, pureV, hp], hk⟩
 | .hid i, x, K, h => by
  simp only [demP] at h
  obtain ⟨rfl, hk⟩ := h
  exact ⟨[], by simp [Dem, pureV], hk⟩
 | .top, x, K, h => by
  simp only [demP] at h
  obtain ⟨rfl, hk⟩ := h
  exact ⟨[], by simp [Dem, pureV], hk⟩
 | .anyb, x, K, h => by
  simp only [demP] at h
  obtain ⟨rfl, hk⟩ := h
  exact ⟨[], by simp [Dem, pureV], hk⟩
 | .sl .., x, K, h => by simp [demP] at h
 | .ptr .., x, K, h => by simp [demP] at h
 | .fn .., x, K, h => by simp [demP] at h
theorem demsP_ok {H : Heap} : ∀ (ys xs : List AV) (K : List Nat → Prop), demsP H ys xs K → ∃ ids, DemL H ys xs ids ∧ K ids
 | [], xs, K, h => by
  simp only [demsP] at h
  split at h
  ·exact ⟨[], by simp [DemL], h⟩
  ·exact h.elim
 | y :: ys, xs, K, h => by
  simp only [demsP] at h
  split at h
  ·exact h.elim
  ·rename_i x xs
   obtain ⟨i, h1, h2⟩ := demP_ok y x _ h
   obtain ⟨is, h3, h4⟩ := demsP_ok ys xs _ h2
   refine ⟨i ++ is, ?_, h4⟩
   simp only [DemL]
   exact ⟨x, xs, i, is, rfl, rfl, h1, h3⟩
end
def exitP (T : Types) (fn : Func) (args : List AV) (r : AV) (outs : List AV) : AX → St → Prop
 | .exit _, _ => False
 | _, ⟨env, H, nx, n⟩ => resListP T ⟨env, H, nx, n⟩ fn.results.toList fun xs => demsP H (outs ++ [r]) (refAVs args (matL args (noHeap, 0)).1 ++ [tupleOf xs]) fun ids => nodupB ids = true
theorem refs_rep {E : Env} : ∀ (ys xs : List AV) (vs : List Value), RepL E xs vs → RepL E (refAVs ys xs) (refVals ys vs)
 | [], xs, vs, h => by cases xs <;> cases vs <;> simp [refAVs, refVals, RepL]
 | y :: ys, [], vs, h => by simp only [RepL] at h; subst h; simp [refAVs, refVals, RepL]
 | y :: ys, x :: xs, vs, h => by
  simp only [RepL] at h
  obtain ⟨u, us, rfl, hu, h⟩ := h
  simp only [refAVs, refVals]
  cases isRef y with
  | true => simp only [cond_true, RepL]; exact ⟨u, _, rfl, hu, refs_rep ys xs us h⟩
  | false => exact refs_rep ys xs us h
theorem ptrs_keep {k : Nat} {E E' : Env} (hk : ∀ id n, id < k → E.ρ id = some n → E'.ρ id = some n) : ∀ (xs : List AV) (vs : List Value), ptrsBelow k xs = true → RepL E xs vs → RepL E' xs vs
 | [], vs, _, h => by simpa [RepL] using h
 | x :: xs, vs, hb, h => by
  unfold ptrsBelow at hb
  split at hb
  ·rename_i e; cases e
  ·rename_i id off r e
   injection e with e1 e2
   subst e1; subst e2
   simp only [Bool.and_eq_true] at hb
   simp only [RepL, RepV] at h ⊢
   obtain ⟨u, us, rfl, ⟨n, hn, rfl⟩, h⟩ := h
   exact ⟨_, _, rfl, ⟨n, hk id n (Nat.le_of_ble_eq_true hb.1) hn, rfl⟩, ptrs_keep hk _ _ hb.2 h⟩
  ·cases hb
theorem nthA_rep {E : Env} : ∀ (xs : List AV) (vs : List Value) (m t : Nat), RepL E xs vs → RepV E (nthA xs t) ((vs.toArray ++ Array.replicate m undef).getD t undef)
 | xs, vs, m, t, h => by
  have key : ∀ (xs : List AV) (vs : List Value) (t : Nat), RepL E xs vs → RepV E (nthA xs t) ((vs ++ List.replicate m undef)[t]?.getD undef) := by
   intro xs
   induction xs with
   | nil => intro vs t h; simp [nthA, RepV]
   | cons x xs ih =>
    intro vs t h
    simp only [RepL] at h
    obtain ⟨u, us, rfl, hu, h⟩ := h
    cases t with
    | zero => simpa [nthA] using hu
    | succ t => simpa [nthA] using ih us t h
  have := key xs vs t h
  rw [Array.getD_eq_getD_getElem?]
  simpa [← Array.getElem?_toList] using this
theorem repL_append {E : Env} : ∀ {xs ys : List AV} {us vs : List Value}, RepL E xs us → RepL E ys vs → RepL E (xs ++ ys) (us ++ vs)
 | [], ys, us, vs, h, k => by simp only [RepL] at h; subst h; exact k
 | x :: xs, ys, us, vs, h, k => by
  simp only [RepL] at h
  obtain ⟨u, us', rfl, hu, h⟩ := h
  simp only [List.cons_append, RepL]
  exact ⟨u, us' ++ vs, rfl, hu, repL_append h k⟩
theorem RepBL_length {E : Env} : ∀ (cs : List AV) (vs : List Value) (X : List Nat), RepBL E cs vs X → cs.length = vs.length
 | [], vs, X, h => by simp only [RepBL] at h; simp [h.1]
 | c :: cs, vs, X, h => by
  simp only [RepBL] at h
  obtain ⟨u, us, Y, Y', rfl, rfl, _, h2⟩ := h
  simp [RepBL_length cs us Y' h2]
theorem ACall.of_does {P : Program} {T : Types} (hT : TOK P T) {f : FuncId} {fn : Func} {c : Code} (hf : P.funcs[f]? = some fn) (hb : fn.body = some c) (he : Enters P f) {args : List AV} {r : AV} {outs : List AV}
  (hp : ptrsBelow (matL args (noHeap, 0)).2.2 (refAVs args (matL args (noHeap, 0)).1) = true)
  (h : Does P (matL args (noHeap, 0)).2.2 c (exitP T fn args r outs) (entry args fn.ntmps)) : ACall P f args r outs := by
 refine ⟨he, fun Z E vals X h0 hargs hX hXZ => ?_⟩
 refine calls_of_wp hf hb ?_
 obtain ⟨E0, t0, r0⟩ := matL_ok args vals X _ E noHeap 0 h0 hargs hX (fun b hb => .inr hb)
 have hZ : HeapRep Z E0 (matL args (noHeap, 0)).2.1 (matL args (noHeap, 0)).2.2 := t0.heap.congrZ fun b => by
  constructor
  ·rintro ⟨hz | hx, hn⟩
   ·exact hz
   ·exact absurd hx hn
  ·exact fun hz => ⟨.inl hz, fun hx => hXZ b hx hz⟩
 have hlen : args.length = vals.length := by
  have := RepBL_length args vals X hargs
  exact this
 have S : Sim Z E0 (entry args fn.ntmps) { tmps := vals.toArray ++ Array.replicate (fn.ntmps - vals.toArray.size) undef, defers := [] } :=
  ⟨fun t => nthA_rep _ _ _ t r0, by simp [entry, hlen], rfl, hZ⟩
 have hw := h Z E0 _ S
 rw [t0.mem.w] at hw
 refine wp_mono hw ?_
 rintro e a' w' ⟨x, st', E', rfl, hq, S', rfl, fl⟩
 have key : ∀ (hq : resListP T st' fn.results.toList fun xs => demsP st'.heap (outs ++ [r]) (refAVs args (matL args (noHeap, 0)).1 ++ [tupleOf xs]) fun ids => nodupB ids = true),
   a'.defers = [] ∧ ∃ v, (results fn a'.tmps).run P E'.w = .ok v E'.w ∧ ∃ v' E1 Xr, Ending.returned v = .returned v' ∧ E1.w = E'.w ∧ E1.η = E.η ∧ Evo (· ∈ X) E.w E'.w ∧ (∀ b, E1.V b ↔ Z b ∨ b ∈ Xr) ∧
   RepBL E1 (outs ++ [r]) (refVals args vals ++ [v']) Xr ∧ Xr.Nodup ∧ ∀ b ∈ Xr, ¬ Z b ∧ (b < E.w.heap.size → b ∈ X) ∧ b < E'.w.heap.size := by
  intro hq
  obtain ⟨xs, v, hdem, hv, hr⟩ := results_sound (P := P) hT S' hq
  obtain ⟨ids, hd, hnd⟩ := demsP_ok _ _ _ hdem
  refine ⟨S'.dfr, v, hr, v, { E' with V := fun b => Z b ∨ b ∈ ids.filterMap E'.ρ }, ids.filterMap E'.ρ, rfl, rfl, fl.η.trans t0.mem.η, ?_, fun b => Iff.rfl, ?_, ?_, ?_⟩
  ·have := fl.evo
   rw [t0.mem.w] at this
   refine this.mono fun b hb => ?_
   have hbV : E0.V b := (hZ.V b).2 (.inr hb)
   have : E.V b := t0.V b hbV
   rcases (h0.V b).1 this with (hz | hx) | ⟨id, cs, h1, _⟩
   ·obtain ⟨id, cs, h1, h2⟩ := hb
    exact absurd hz (hZ.apart id b (fun hh => by have h1' : (matL args (noHeap, 0)).2.1 id = some cs := h1; rw [hh] at h1'; cases h1') h2)
   ·exact hx
   ·cases h1
  ·have hrefs : RepL E' (refAVs args (matL args (noHeap, 0)).1) (refVals args vals) := ptrs_keep fl.keep _ _ hp (refs_rep args _ vals r0)
   have hall : RepL E' (refAVs args (matL args (noHeap, 0)).1 ++ [tupleOf xs]) (refVals args vals ++ [v]) := repL_append hrefs (by simp only [RepL]; exact ⟨v, [], rfl, hv, rfl⟩)
   have hout := DemL_ok S'.heap (outs ++ [r]) _ _ ids hall hd
   refine RepBL.mono (E := E') (E' := { E' with V := fun b => Z b ∨ b ∈ ids.filterMap E'.ρ }) ⟨rfl, rfl⟩ (fun b hb => ?_) _ _ _ hout
   rcases hb with hz | hm
   ·exact (S'.heap.V b).2 (.inl hz)
   ·obtain ⟨i, hi, hn⟩ := List.mem_filterMap.1 hm
    have := DemL_mem _ _ _ hd i hi
    cases hh : st'.heap i with
    | none => exact absurd hh this
    | some cs => exact (S'.heap.V b).2 (.inr ⟨i, cs, hh, hn⟩)
  ·exact (remH_ok ids Z st'.heap S'.heap (nodupB_ok hnd) (DemL_mem _ _ _ hd)).2.1
  ·intro b hb
   obtain ⟨i, hi, hn⟩ := List.mem_filterMap.1 hb
   have hne := DemL_mem _ _ _ hd i hi
   refine ⟨S'.heap.apart i b hne hn, fun hlt => ?_, S'.heap.old i b hn⟩
   have hwr : Wr E0.ρ (entry args fn.ntmps).heap b := fl.back b (by rw [t0.mem.w]; exact hlt) (by
    cases hh : st'.heap i with
    | none => exact absurd hh hne
    | some cs => exact ⟨i, cs, hh, hn⟩)
   have : E.V b := t0.V b ((hZ.V b).2 (.inr hwr))
   rcases (h0.V b).1 this with (hz | hx) | ⟨id, cs, h1, _⟩
   ·exact absurd hz (S'.heap.apart i b hne hn)
   ·exact hx
   ·cases h1
 cases x with
 | normal => exact key hq
 | exit id => exact hq.elim
 | ret => exact key hq
end
section

def envL : List (Nat × AV) → Nat → AV
 | [], _ => .top
 | (d, x) :: r, t => cond (Nat.beq t d) x (envL r t)
def heapL : List (Nat × List AV) → Heap
 | [], _ => none
 | (d, x) :: r, t => cond (Nat.beq t d) (some x) (heapL r t)
def mkSt (env : List (Nat × AV)) (heap : List (Nat × List AV)) (nx n : Nat) : St := ⟨envL env, heapL heap, nx, n⟩
def findR : List (Nat × Nat) → Nat → Option Nat
 | [], _ => none
 | (d, x) :: r, t => cond (Nat.beq t d) (some x) (findR r t)
def oldOf (k : Nat) (g : List (Nat × Nat)) (i : Nat) : Option Nat := cond (Nat.blt i k) (some i) (findR g i)
mutual
def leP (o : Nat → Option Nat) (y x : AV) : Prop :=
 match y with
 | .top => True
 | .anyb => match x with
  | .bool _ => True
  | .anyb => True
  | _ => False
 | .int k n => match x with
  | .int k' n' => k' = k ∧ n' = n
  | _ => False
 | .bool b => match x with
  | .bool b' => b' = b
  | _ => False
 | .str s => match x with
  | .str s' => s' = s
  | _ => False
 | .agg ys => match x with
  | .agg xs => lesP o ys xs
  | _ => False
 | .tuple ys => match x with
  | .tuple xs => lesP o ys xs
  | _ => False
 | .nil => match x with
  | .nil => True
  | _ => False
 | .ro len cs => match x with
  | .nil => len = 0 ∧ cs = []
  | .ro len' cs' => len' = len ∧ cs' = cs ∧ pureL cs = true
  | _ => False
 | .fn f cs => match x with
  | .fn f' cs' => f' = f ∧ cs' = [] ∧ cs = []
  | _ => False
 | .sl id off len esz full => match x with
  | .nil => len = 0
  | .sl id' off' len' esz' full' => o id = some id' ∧ off' = off ∧ len' = len ∧ esz' = esz ∧ (full = true → full' = true)
  | _ => False
 | .ptr id off => match x with
  | .ptr id' off' => o id = some id' ∧ off' = off
  | _ => False
 | .rop cs => match x with
  | .rop cs' => cs' = cs ∧ pureL cs = true
  | _ => False
 | .nilp => match x with
  | .nilp => True
  | _ => False
 | .hid i => match x with
  | .hid j => j = i
  | _ => False
 | _ => False
def lesP (o : Nat → Option Nat) (ys xs : List AV) : Prop :=
 match ys with
 | [] => match xs with
  | [] => True
  | _ :: _ => False
 | y :: ys => match xs with
  | [] => False
  | x :: xs => leP o y x ∧ lesP o ys xs
end
mutual
theorem leP_ok {o : Nat → Option Nat} {E E' : Env} (hm : SameMem E E') (hV : ∀ b, E'.V b → E.V b) (hρ : ∀ i j n, o i = some j → E.ρ j = some n → E'.ρ i = some n) :
  ∀ (y x : AV) (v : Value), leP o y x → RepV E x v → RepV E' y v
 | .top, x, v, h, hr => by simp [RepV]
 | .anyb, x, v, h, hr => by
  simp only [leP] at h
  split at h
  ·simp only [RepV] at hr ⊢; exact ⟨_, hr⟩
  ·simpa [RepV] using hr
  ·exact h.elim
 | .int k n, x, v, h, hr => by
  simp only [leP] at h
  split at h
  ·obtain ⟨rfl, rfl⟩ := h; simpa [RepV] using hr
  ·exact h.elim
 | .bool b, x, v, h, hr => by
  simp only [leP] at h
  split at h
  ·subst h; simpa [RepV] using hr
  ·exact h.elim
 | .str s, x, v, h, hr => by
  simp only [leP] at h
  split at h
  ·subst h; simpa [RepV] using hr
  ·exact h.elim
 | .agg ys, x, v, h, hr => by
  simp only [leP] at h
  split at h
  ·simp only [RepV] at hr ⊢
   obtain ⟨vs, rfl, hl⟩ := hr
   exact ⟨vs, rfl, lesP_ok hm hV hρ ys _ _ h hl⟩
  ·exact h.elim
 | .tuple ys, x, v, h, hr => by
  simp only [leP] at h
  split at h
  ·simp only [RepV] at hr ⊢
   obtain ⟨vs, rfl, hl⟩ := hr
   exact ⟨vs, rfl, lesP_ok hm hV hρ ys _ _ h hl⟩
  ·exact h.elim
 | .nil, x, v, h, hr => by
  simp only [leP] at h
  split at h
  ·simpa [RepV] using hr
  ·exact h.elim
 | .ro len cs, x, v, h, hr => by
  simp only [leP] at h
  split at h
  ·obtain ⟨rfl, rfl⟩ := h
   simp only [RepV] at hr ⊢
   exact ⟨none, 0, hr, Nat.le_refl _, .inl trivial⟩
  ·obtain ⟨rfl, rfl, hp⟩ := h
   exact pureV_rep hm hV _ _ (by simpa [pureV] using hp) hr
  ·exact h.elim
 | .sl id off len esz full, x, v, h, hr => by
  simp only [leP] at h
  split at h
  ·subst h
   simp only [RepV] at hr ⊢
   exact ⟨none, 0, hr, Nat.le_refl _, fun _ => rfl, .inl rfl⟩
  ·rename_i id' off' len' esz' full'
   obtain ⟨hi, rfl, rfl, rfl, hf⟩ := h
   simp only [RepV] at hr ⊢
   obtain ⟨a, cap, rfl, hl, hfull, hc⟩ := hr
   refine ⟨a, cap, rfl, hl, fun hh => hfull (hf hh), hc.imp (fun x => x) ?_⟩
   rintro ⟨n, c, e, fr, hn, rfl, hh, hs⟩
   exact ⟨n, c, e, fr, hρ _ _ _ hi hn, rfl, by rw [hm.w]; exact hh, hs⟩
  ·exact h.elim
 | .ptr id off, x, v, h, hr => by
  simp only [leP] at h
  split at h
  ·obtain ⟨hi, rfl⟩ := h
   simp only [RepV] at hr ⊢
   obtain ⟨n, hn, rfl⟩ := hr
   exact ⟨n, hρ _ _ _ hi hn, rfl⟩
  ·exact h.elim
 | .rop cs, x, v, h, hr => by
  simp only [leP] at h
  split at h
  ·obtain ⟨rfl, hp⟩ := h
   exact pureV_rep hm hV _ _ (by simpa [pureV] using hp) hr
  ·exact h.elim
 | .nilp, x, v, h, hr => by
  simp only [leP] at h
  split at h
  ·simpa [RepV] using hr
  ·exact h.elim
 | .hid i, x, v, h, hr => by
  simp only [leP] at h
  split at h
  ·subst h; simp only [RepV] at hr ⊢; rw [hm.η]; exact hr
  ·exact h.elim
 | .own .., x, v, h, hr => by simp [leP] at h
 | .ref .., x, v, h, hr => by simp [leP] at h
 | .fn f cs, x, v, h, hr => by
  simp only [leP] at h
  split at h
  ·obtain ⟨rfl, rfl, rfl⟩ := h
   simpa [RepV, RepL] using hr
  ·exact h.elim
theorem lesP_ok {o : Nat → Option Nat} {E E' : Env} (hm : SameMem E E') (hV : ∀ b, E'.V b → E.V b) (hρ : ∀ i j n, o i = some j → E.ρ j = some n → E'.ρ i = some n) :
  ∀ (ys xs : List AV) (vs : List Value), lesP o ys xs → RepL E xs vs → RepL E' ys vs
 | [], xs, vs, h, hr => by
  simp only [lesP] at h
  split at h
  ·simpa [RepL] using hr
  ·exact h.elim
 | y :: ys, xs, vs, h, hr => by
  simp only [lesP] at h
  split at h
  ·exact h.elim
  ·simp only [RepL] at hr ⊢
   obtain ⟨u, us, rfl, hu, hr⟩ := hr
   exact ⟨u, us, rfl, leP_ok hm hV hρ y _ u h.1 hu, lesP_ok hm hV hρ ys _ us h.2 hr⟩
end
theorem lesP_length {o : Nat → Option Nat} : ∀ (ys xs : List AV), lesP o ys xs → ys.length = xs.length
 | [], xs, h => by
  simp only [lesP] at h
  split at h
  ·rfl
  ·exact h.elim
 | y :: ys, xs, h => by
  simp only [lesP] at h
  split at h
  ·exact h.elim
  ·simp [lesP_length ys _ h.2]
theorem lesP_get {o : Nat → Option Nat} : ∀ (ys xs : List AV), lesP o ys xs → ∀ (j : Nat) y, ys[j]? = some y → ∃ x, xs[j]? = some x ∧ leP o y x
 | [], xs, h, j, y, hy => by simp at hy
 | y0 :: ys, xs, h, j, y, hy => by
  simp only [lesP] at h
  split at h
  ·exact h.elim
  ·cases j with
   | zero => simp at hy; subst hy; exact ⟨_, rfl, h.1⟩
   | succ j => simpa using lesP_get ys _ h.2 j y (by simpa using hy)
def envLe (o : Nat → Option Nat) (env : Nat → AV) : List (Nat × AV) → Prop
 | [] => True
 | (t, y) :: r => leP o y (env t) ∧ envLe o env r
def heapLe (o : Nat → Option Nat) (H : Heap) : List (Nat × List AV) → Prop
 | [] => True
 | (i, ys) :: r => (match o i with
  | some j => match H j with
   | some xs => lesP o ys xs
   | none => False
  | none => ys = []) ∧ heapLe o H r
theorem envLe_ok {o : Nat → Option Nat} {env : Nat → AV} : ∀ {l : List (Nat × AV)}, envLe o env l → ∀ t, leP o (envL l t) (env t)
 | [], _, t => by simp [envL, leP]
 | (d, y) :: r, h, t => by
  simp only [envL]
  cases hb : Nat.beq t d with
  | true => rw [Nat.eq_of_beq_eq_true hb]; exact h.1
  | false => exact envLe_ok h.2 t
theorem heapLe_ok {o : Nat → Option Nat} {H : Heap} : ∀ {l : List (Nat × List AV)}, heapLe o H l → ∀ i ys, heapL l i = some ys → (∃ j xs, o i = some j ∧ H j = some xs ∧ lesP o ys xs) ∨ (o i = none ∧ ys = [])
 | [], _, i, ys, hi => by simp [heapL] at hi
 | (d, y) :: r, h, i, ys, hi => by
  simp only [heapL] at hi
  cases hb : Nat.beq i d with
  | true =>
   rw [hb] at hi
   injection hi with hi
   subst hi
   rw [Nat.eq_of_beq_eq_true hb]
   have h1 := h.1
   split at h1
   ·rename_i j hj
    split at h1
    ·rename_i xs hx
     exact .inl ⟨j, xs, hj, hx, h1⟩
    ·exact h1.elim
   ·rename_i hj
    exact .inr ⟨hj, h1⟩
  | false => rw [hb] at hi; exact heapLe_ok h.2 i ys hi
theorem heapL_mem : ∀ {l : List (Nat × List AV)} {i : Nat} {ys : List AV}, heapL l i = some ys → i ∈ l.map (·.1)
 | [], i, ys, h => by simp [heapL] at h
 | (d, y) :: r, i, ys, h => by
  simp only [heapL] at h
  cases hb : Nat.beq i d with
  | true => rw [Nat.eq_of_beq_eq_true hb]; simp
  | false => rw [hb] at h; simp [heapL_mem h]
def renOk (k : Nat) (g : List (Nat × Nat)) (heap : List (Nat × List AV)) (nx : Nat) : Bool :=
 Nat.ble k nx && (g.all fun p => Nat.blt p.1 nx) && (heap.all fun p => Nat.blt p.1 nx) && nodupB ((heap.map (·.1)).filterMap (oldOf k g)) && nodupB (heap.map (·.1))
theorem findR_mem : ∀ {g : List (Nat × Nat)} {i j : Nat}, findR g i = some j → ∃ p ∈ g, p.1 = i
 | [], i, j, h => by simp [findR] at h
 | (d, x) :: r, i, j, h => by
  simp only [findR] at h
  cases hb : Nat.beq i d with
  | true => exact ⟨(d, x), by simp, (Nat.eq_of_beq_eq_true hb).symm⟩
  | false =>
   rw [hb] at h
   obtain ⟨p, hp, he⟩ := findR_mem h
   exact ⟨p, by simp [hp], he⟩
theorem filterMap_inj {o : Nat → Option Nat} : ∀ {l : List Nat}, (l.filterMap o).Nodup → ∀ i ∈ l, ∀ i' ∈ l, ∀ j, o i = some j → o i' = some j → l.Nodup → i = i'
 | [], _, i, hi, _, _, _, _, _, _ => by simp at hi
 | x :: l, hnd, i, hi, i', hi', j, h1, h2, hl => by
  have hx : ∀ y ∈ l, ∀ j, o x = some j → o y = some j → False := by
   intro y hy j k1 k2
   rw [List.filterMap_cons, k1] at hnd
   exact (List.nodup_cons.1 hnd).1 (List.mem_filterMap.2 ⟨y, hy, k2⟩)
  have hnd' : (l.filterMap o).Nodup := by
   rw [List.filterMap_cons] at hnd
   cases ho : o x with
   | none => rw [ho] at hnd; exact hnd
   | some y => rw [ho] at hnd; exact (List.nodup_cons.1 hnd).2
  rcases List.mem_cons.1 hi with rfl | hi <;> rcases List.mem_cons.1 hi' with rfl | hi'
  ·rfl
  ·exact (hx _ hi' j h1 h2).elim
  ·exact (hx _ (by assumption) j h2 h1).elim
  ·exact filterMap_inj hnd' i hi i' hi' j h1 h2 (List.nodup_cons.1 hl).2
theorem weaker_of {k : Nat} {st : St} {env : List (Nat × AV)} {heap : List (Nat × List AV)} {nx n : Nat} (g : List (Nat × Nat)) (hn : st.n = n) (hg : renOk k g heap nx = true)
  (he : envLe (oldOf k g) st.env env) (hh : heapLe (oldOf k g) st.heap heap) : Weaker k st (mkSt env heap nx n) := by
 intro Z E a S
 simp only [renOk, Bool.and_eq_true, List.all_eq_true] at hg
 obtain ⟨⟨⟨⟨g1, g2⟩, g3⟩, g4⟩, g5⟩ := hg
 have hkn : k ≤ nx := Nat.le_of_ble_eq_true g1
 let ρ' : Nat → Option Nat := fun i => (oldOf k g i).bind E.ρ
 let E' : Env := { E with ρ := ρ', V := fun b => Z b ∨ Wr ρ' (heapL heap) b }
 have hm : SameMem E E' := ⟨rfl, rfl⟩
 have hwr : ∀ b, Wr ρ' (heapL heap) b → Wr E.ρ st.heap b := by
  rintro b ⟨i, ys, h1, h2⟩
  rcases heapLe_ok hh i ys h1 with ⟨j, xs, k1, k2, _⟩ | ⟨k1, _⟩
  ·simp only [ρ', k1, Option.bind_some] at h2
   exact ⟨j, xs, k2, h2⟩
  ·simp only [ρ', k1, Option.bind_none] at h2
   cases h2
 have hV : ∀ b, E'.V b → E.V b := by
  rintro b (hz | hw)
  ·exact (S.heap.V b).2 (.inl hz)
  ·exact (S.heap.V b).2 (.inr (hwr b hw))
 have hρ : ∀ i j n, oldOf k g i = some j → E.ρ j = some n → E'.ρ i = some n := by
  intro i j n h1 h2
  show (oldOf k g i).bind E.ρ = some n
  rw [h1]; exact h2
 refine ⟨E', ⟨fun t => leP_ok hm hV hρ _ _ _ (envLe_ok he t) (S.env t), S.sz.trans hn, S.dfr, ?_⟩, rfl, ⟨rfl, Evo.refl _ _, fun b _ hb => hwr b hb, fun id m hid hρm => ?_⟩⟩
 ·refine ⟨fun i ys hi => ?_, fun i i' m h1 h2 h3 h4 => ?_, fun b => Iff.rfl, fun i m h1 h2 => ?_, fun i hi => ⟨?_, ?_⟩, S.heap.one, fun i m hi => ?_, S.heap.zold, S.heap.tab.same rfl hV⟩
  ·rcases heapLe_ok hh i ys hi with ⟨j, xs, k1, k2, k3⟩ | ⟨k1, k2⟩
   ·rcases S.heap.blk j xs k2 with ⟨b1, rfl⟩ | ⟨m, b1, c, e, fr, b2, b3, b4, b5⟩
    ·left
     refine ⟨by show (oldOf k g i).bind E.ρ = none; rw [k1]; exact b1, ?_⟩
     exact List.length_eq_zero_iff.1 (by rw [lesP_length _ _ k3]; rfl)
    ·right
     refine ⟨m, hρ i j m k1 b1, c, e, fr, b2, b3, by rw [lesP_length _ _ k3]; exact b4, fun q y hy => ?_⟩
     obtain ⟨x, hx, hle⟩ := lesP_get _ _ k3 q y hy
     obtain ⟨u, hu, hr⟩ := b5 q x hx
     exact ⟨u, hu, leP_ok hm hV hρ _ _ _ hle hr⟩
   ·left
    exact ⟨by show (oldOf k g i).bind E.ρ = none; rw [k1]; rfl, k2⟩
  ·have ex : ∀ i m, (heapL heap i ≠ none) → E'.ρ i = some m → ∃ j, oldOf k g i = some j ∧ st.heap j ≠ none ∧ E.ρ j = some m := by
    intro i m hi hr
    cases hq : heapL heap i with
    | none => exact absurd hq hi
    | some ys =>
     rcases heapLe_ok hh i ys hq with ⟨j, xs, k1, k2, k3⟩ | ⟨k1, k2⟩
     ·have hr' : (oldOf k g i).bind E.ρ = some m := hr
      rw [k1] at hr'
      exact ⟨j, k1, by rw [k2]; simp, hr'⟩
     ·have hr' : (oldOf k g i).bind E.ρ = some m := hr
      rw [k1] at hr'
      cases hr'
   obtain ⟨j, q1, q2, q3⟩ := ex i m h1 h3
   obtain ⟨j', q1', q2', q3'⟩ := ex i' m h2 h4
   obtain rfl : j = j' := S.heap.inj j j' m q2 q2' q3 q3'
   have mem : ∀ i, heapL heap i ≠ none → i ∈ heap.map (·.1) := by
    intro i hi
    cases hq : heapL heap i with
    | none => exact absurd hq hi
    | some ys => exact heapL_mem hq
   exact filterMap_inj (nodupB_ok g4) i (mem i h1) i' (mem i' h2) j q1 q1' (nodupB_ok g5)
  ·intro hz
   cases hq : heapL heap i with
   | none => exact absurd hq h1
   | some ys =>
    rcases heapLe_ok hh i ys hq with ⟨j, xs, k1, k2, k3⟩ | ⟨k1, k2⟩
    ·have hr' : (oldOf k g i).bind E.ρ = some m := h2
     rw [k1] at hr'
     exact S.heap.apart j m (by rw [k2]; simp) hr' hz
    ·have hr' : (oldOf k g i).bind E.ρ = some m := h2
     rw [k1] at hr'
     cases hr'
  ·show (oldOf k g i).bind E.ρ = none
   have hb : Nat.blt i k = false := by
    cases hb : Nat.blt i k with
    | false => rfl
    | true => have : i < k := Nat.le_of_ble_eq_true hb; have hi' : nx ≤ i := hi; omega
   cases hf : findR g i with
   | none => simp [oldOf, hb, hf]
   | some j =>
    obtain ⟨p, hp, he⟩ := findR_mem hf
    have : p.1 < nx := Nat.le_of_ble_eq_true (g2 p hp)
    have hi' : nx ≤ i := hi
    omega
  ·show heapL heap i = none
   cases hq : heapL heap i with
   | none => rfl
   | some ys =>
    obtain ⟨p, hp, he⟩ := List.mem_map.1 (heapL_mem hq)
    have : p.1 < nx := Nat.le_of_ble_eq_true (g3 p hp)
    have hi' : nx ≤ i := hi
    omega
  ·have hr' : (oldOf k g i).bind E.ρ = some m := hi
   cases ho : oldOf k g i with
   | none => rw [ho] at hr'; cases hr'
   | some j => rw [ho] at hr'; exact S.heap.old j m hr'
 ·have hb : Nat.blt id k = true := by
   simp [Nat.blt]; omega
  exact hρ id id m (by simp [oldOf, hb]) hρm
end
section

def bys (l : List Int) : List AV := l.map (AV.int .u8)
def ints (l : List Int) : List AV := l.map (AV.int .i64)
theorem pureL_map (k : IntKind) (l : List Int) : pureL (l.map (AV.int k)) = true := by
 induction l with
 | nil => rfl
 | cons x l ih => simp [pureL, pureV] at ih ⊢; exact ih
theorem pureL_bys (l : List Int) : pureL (bys l) = true := pureL_map _ l
theorem pureL_ints (l : List Int) : pureL (ints l) = true := pureL_map _ l
theorem noRoL_map (k : IntKind) (l : List Int) : noRoL (l.map (AV.int k)) = true := by
 induction l with
 | nil => rfl
 | cons x l ih => simp [noRoL, noRoV] at ih ⊢; exact ih
theorem noRoL_bys (l : List Int) : noRoL (bys l) = true := noRoL_map _ l
@[simp] theorem bys_length (l : List Int) : (bys l).length = l.length := by simp [bys]
@[simp] theorem ints_length (l : List Int) : (ints l).length = l.length := by simp [ints]
theorem ones_bys (l : List Int) : (bys l).all AV.one = true := by simp [bys, AV.one]
theorem ones_ints (l : List Int) : (ints l).all AV.one = true := by simp [ints, AV.one]
theorem bys_append (a b : List Int) : bys a ++ bys b = bys (a ++ b) := by simp [bys]
theorem bys_take (a : List Int) (n : Nat) : (bys a).take n = bys (a.take n) := by simp [bys]
theorem bys_drop (a : List Int) (n : Nat) : (bys a).drop n = bys (a.drop n) := by simp [bys]
theorem bys_nil {l : List Int} (h : bys l = []) : l = [] := by
 cases l with
 | nil => rfl
 | cons x l => simp [bys] at h
theorem lesP_map (o : Nat → Option Nat) (k : IntKind) (l : List Int) : lesP o (l.map (AV.int k)) (l.map (AV.int k)) := by
 induction l with
 | nil => simp [lesP]
 | cons x l ih => simp only [List.map_cons, lesP, leP]; exact ⟨⟨trivial, trivial⟩, ih⟩
theorem lesP_bys {o : Nat → Option Nat} {l : List Int} {xs : List AV} (h : xs = bys l) : lesP o (bys l) xs := by
 subst h; exact lesP_map _ _ _
theorem wrap_u8 (n : Int) : IntKind.u8.wrap n = n % 256 := by simp [IntKind.wrap, IntKind.bits, IntKind.signed]
theorem wrap_u64 (n : Int) : IntKind.u64.wrap n = n % 18446744073709551616 := by simp [IntKind.wrap, IntKind.bits, IntKind.signed]
def noCut : Nat → Bool := fun _ => false
def cutAt (l : List Nat) : Nat → Bool := fun i => l.any (Nat.beq i)
def takes : List Nat → Plan
 | [] => .done
 | i :: r => .take i (takes r)
def plans : List (Nat × (Bool × Plan)) → Nat → Bool × Plan
 | [], _ => (true, .done)
 | (f, m) :: r, g => cond (Nat.beq g f) m (plans r g)
def modes : List (Nat × List Mode) → FuncId → List Mode
 | [], _ => []
 | (f, m) :: r, g => cond (Nat.beq g f) m (modes r g)
theorem ifB_pos {b : Bool} {A B : Prop} (hb : b = true) (h : A) : ifB b A B := by subst hb; exact ifB_t h
theorem ifB_neg {b : Bool} {A B : Prop} (hb : b = false) (h : B) : ifB b A B := by subst hb; exact ifB_f h
theorem get_bys {l : List Int} {c : Nat} (h : c < l.length) : ((bys l).drop c)[0]? = some (.int .u8 l[c]) := by
 simp [bys, h]
theorem setN_bys (l : List Int) (c : Nat) (x : Int) (h : c < l.length) : setN (bys l) c [.int .u8 x] = bys (l.set c x) := by
 simp [setN, bys, List.map_set]
def Byt (l : List Int) : Prop := ∀ x ∈ l, 0 ≤ x ∧ x < 256
end
section
def tyList : List (Nat × TI) := [
 (0, ⟨.other, 1, 0, .top, []⟩),
 (2, ⟨.int .i64, 1, 8, .int .i64 0, []⟩),
 (3, ⟨.int .i64, 1, 8, .int .i64 0, []⟩),
 (4, ⟨.bool, 1, 1, .bool false, []⟩),
 (5, ⟨.int .u8, 1, 1, .int .u8 0, []⟩),
 (6, ⟨.int .u8, 1, 1, .int .u8 0, []⟩),
 (7, ⟨.struct [(0, 2), (1, 3), (2, 4), (3, 6)], 4, 24, .agg ([.int .i64 0, .int .i64 0, .bool false, .int .u8 0]), [⟨0, 1, [.int .i64 0]⟩, ⟨1, 1, [.int .i64 0]⟩, ⟨2, 1, [.bool false]⟩, ⟨3, 1, [.int .u8 0]⟩]⟩),
 (8, ⟨.struct [(0, 2), (1, 3), (2, 4), (3, 6)], 4, 24, .agg ([.int .i64 0, .int .i64 0, .bool false, .int .u8 0]), [⟨0, 1, [.int .i64 0]⟩, ⟨1, 1, [.int .i64 0]⟩, ⟨2, 1, [.bool false]⟩, ⟨3, 1, [.int .u8 0]⟩]⟩),
 (9, ⟨.str, 1, 16, .str [], []⟩),
 (10, ⟨.str, 1, 16, .str [], []⟩),
 (11, ⟨.str, 1, 16, .str [], []⟩),
 (12, ⟨.int .u64, 1, 8, .int .u64 0, []⟩),
 (13, ⟨.struct [(0, 9), (1, 12)], 2, 24, .agg ([.str [], .int .u64 0]), [⟨0, 1, [.str []]⟩, ⟨1, 1, [.int .u64 0]⟩]⟩),
 (14, ⟨.struct [(0, 9), (1, 12)], 2, 24, .agg ([.str [], .int .u64 0]), [⟨0, 1, [.str []]⟩, ⟨1, 1, [.int .u64 0]⟩]⟩),
 (15, ⟨.ptr 113, 1, 8, .nilp, []⟩),
 (16, ⟨.ptr 116, 1, 8, .nilp, []⟩),
 (17, ⟨.ptr 125, 1, 8, .nilp, []⟩),
 (18, ⟨.struct [(0, 17)], 1, 8, .agg ([.nilp]), [⟨0, 1, [.nilp]⟩]⟩),
 (19, ⟨.struct [(0, 17)], 1, 8, .agg ([.nilp]), [⟨0, 1, [.nilp]⟩]⟩),
 (20, ⟨.other, 1, 16, .top, []⟩),
 (21, ⟨.int .i32, 1, 4, .int .i32 0, []⟩),
 (22, ⟨.arr 32 5, 32, 32, .agg (List.replicate 32 (.int .u8 0)), [⟨0, 1, [.int .u8 0]⟩, ⟨1, 1, [.int .u8 0]⟩, ⟨2, 1, [.int .u8 0]⟩, ⟨3, 1, [.int .u8 0]⟩, ⟨4, 1, [.int .u8 0]⟩, ⟨5, 1, [.int .u8 0]⟩, ⟨6, 1, [.int .u8 0]⟩, ⟨7, 1, [.int .u8 0]⟩, ⟨8, 1, [.int .u8 0]⟩, ⟨9, 1, [.int .u8 0]⟩, ⟨10, 1, [.int .u8 0]⟩, ⟨11, 1, [.int .u8 0]⟩, ⟨12, 1, [.int .u8 0]⟩, ⟨13, 1, [.int .u8 0]⟩, ⟨14, 1, [.int .u8 0]⟩, ⟨15, 1, [.int .u8 0]⟩, ⟨16, 1, [.int .u8 0]⟩, ⟨17, 1, [.int .u8 0]⟩, ⟨18, 1, [.int .u8 0]⟩, ⟨19, 1, [.int .u8 0]⟩, ⟨20, 1, [.int .u8 0]⟩, ⟨21, 1, [.int .u8 0]⟩, ⟨22, 1, [.int .u8 0]⟩, ⟨23, 1, [.int .u8 0]⟩, ⟨24, 1, [.int .u8 0]⟩, ⟨25, 1, [.int .u8 0]⟩, ⟨26, 1, [.int .u8 0]⟩, ⟨27, 1, [.int .u8 0]⟩, ⟨28, 1, [.int .u8 0]⟩, ⟨29, 1, [.int .u8 0]⟩, ⟨30, 1, [.int .u8 0]⟩, ⟨31, 1, [.int .u8 0]⟩]⟩),
 (23, ⟨.slice 5, 1, 24, .nil, []⟩),
 (24, ⟨.int .i64, 1, 8, .int .i64 0, []⟩),
 (25, ⟨.other, 1, 0, .top, []⟩),
 (28, ⟨.arr 64 5, 64, 64, .agg (List.replicate 64 (.int .u8 0)), [⟨0, 1, [.int .u8 0]⟩, ⟨1, 1, [.int .u8 0]⟩, ⟨2, 1, [.int .u8 0]⟩, ⟨3, 1, [.int .u8 0]⟩, ⟨4, 1, [.int .u8 0]⟩, ⟨5, 1, [.int .u8 0]⟩, ⟨6, 1, [.int .u8 0]⟩, ⟨7, 1, [.int .u8 0]⟩, ⟨8, 1, [.int .u8 0]⟩, ⟨9, 1, [.int .u8 0]⟩, ⟨10, 1, [.int .u8 0]⟩, ⟨11, 1, [.int .u8 0]⟩, ⟨12, 1, [.int .u8 0]⟩, ⟨13, 1, [.int .u8 0]⟩, ⟨14, 1, [.int .u8 0]⟩, ⟨15, 1, [.int .u8 0]⟩, ⟨16, 1, [.int .u8 0]⟩, ⟨17, 1, [.int .u8 0]⟩, ⟨18, 1, [.int .u8 0]⟩, ⟨19, 1, [.int .u8 0]⟩, ⟨20, 1, [.int .u8 0]⟩, ⟨21, 1, [.int .u8 0]⟩, ⟨22, 1, [.int .u8 0]⟩, ⟨23, 1, [.int .u8 0]⟩, ⟨24, 1, [.int .u8 0]⟩, ⟨25, 1, [.int .u8 0]⟩, ⟨26, 1, [.int .u8 0]⟩, ⟨27, 1, [.int .u8 0]⟩, ⟨28, 1, [.int .u8 0]⟩, ⟨29, 1, [.int .u8 0]⟩, ⟨30, 1, [.int .u8 0]⟩, ⟨31, 1, [.int .u8 0]⟩, ⟨32, 1, [.int .u8 0]⟩, ⟨33, 1, [.int .u8 0]⟩, ⟨34, 1, [.int .u8 0]⟩, ⟨35, 1, [.int .u8 0]⟩, ⟨36, 1, [.int .u8 0]⟩, ⟨37, 1, [.int .u8 0]⟩, ⟨38, 1, [.int .u8 0]⟩, ⟨39, 1, [.int .u8 0]⟩, ⟨40, 1, [.int .u8 0]⟩, ⟨41, 1, [.int .u8 0]⟩, ⟨42, 1, [.int .u8 0]⟩, ⟨43, 1, [.int .u8 0]⟩, ⟨44, 1, [.int .u8 0]⟩, ⟨45, 1, [.int .u8 0]⟩, ⟨46, 1, [.int .u8 0]⟩, ⟨47, 1, [.int .u8 0]⟩, ⟨48, 1, [.int .u8 0]⟩, ⟨49, 1, [.int .u8 0]⟩, ⟨50, 1, [.int .u8 0]⟩, ⟨51, 1, [.int .u8 0]⟩, ⟨52, 1, [.int .u8 0]⟩, ⟨53, 1, [.int .u8 0]⟩, ⟨54, 1, [.int .u8 0]⟩, ⟨55, 1, [.int .u8 0]⟩, ⟨56, 1, [.int .u8 0]⟩, ⟨57, 1, [.int .u8 0]⟩, ⟨58, 1, [.int .u8 0]⟩, ⟨59, 1, [.int .u8 0]⟩, ⟨60, 1, [.int .u8 0]⟩, ⟨61, 1, [.int .u8 0]⟩, ⟨62, 1, [.int .u8 0]⟩, ⟨63, 1, [.int .u8 0]⟩]⟩),
 (30, ⟨.other, 1, 0, .top, []⟩),
 (40, ⟨.ptr 57, 1, 8, .nilp, []⟩),
 (44, ⟨.other, 1, 0, .top, []⟩),
 (50, ⟨.slice 23, 1, 24, .nil, []⟩),
 (52, ⟨.int .u32, 1, 4, .int .u32 0, []⟩),
 (53, ⟨.arr 8 52, 8, 32, .agg (List.replicate 8 (.int .u32 0)), [⟨0, 1, [.int .u32 0]⟩, ⟨1, 1, [.int .u32 0]⟩, ⟨2, 1, [.int .u32 0]⟩, ⟨3, 1, [.int .u32 0]⟩, ⟨4, 1, [.int .u32 0]⟩, ⟨5, 1, [.int .u32 0]⟩, ⟨6, 1, [.int .u32 0]⟩, ⟨7, 1, [.int .u32 0]⟩]⟩),
 (54, ⟨.arr 8 52, 8, 32, .agg (List.replicate 8 (.int .u32 0)), [⟨0, 1, [.int .u32 0]⟩, ⟨1, 1, [.int .u32 0]⟩, ⟨2, 1, [.int .u32 0]⟩, ⟨3, 1, [.int .u32 0]⟩, ⟨4, 1, [.int .u32 0]⟩, ⟨5, 1, [.int .u32 0]⟩, ⟨6, 1, [.int .u32 0]⟩, ⟨7, 1, [.int .u32 0]⟩]⟩),
 (56, ⟨.struct [(0, 54), (8, 23), (9, 3)], 10, 64, .agg ([.int .u32 0, .int .u32 0, .int .u32 0, .int .u32 0, .int .u32 0, .int .u32 0, .int .u32 0, .int .u32 0, .nil, .int .i64 0]), [⟨0, 8, List.replicate 8 (.int .u32 0)⟩, ⟨8, 1, [.nil]⟩, ⟨9, 1, [.int .i64 0]⟩]⟩),
 (57, ⟨.struct [(0, 54), (8, 23), (9, 3)], 10, 64, .agg ([.int .u32 0, .int .u32 0, .int .u32 0, .int .u32 0, .int .u32 0, .int .u32 0, .int .u32 0, .int .u32 0, .nil, .int .i64 0]), [⟨0, 8, List.replicate 8 (.int .u32 0)⟩, ⟨8, 1, [.nil]⟩, ⟨9, 1, [.int .i64 0]⟩]⟩),
 (59, ⟨.int .u64, 1, 8, .int .u64 0, []⟩),
 (60, ⟨.int .u64, 1, 8, .int .u64 0, []⟩),
 (62, ⟨.arr 5 59, 5, 40, .agg (List.replicate 5 (.int .u64 0)), [⟨0, 1, [.int .u64 0]⟩, ⟨1, 1, [.int .u64 0]⟩, ⟨2, 1, [.int .u64 0]⟩, ⟨3, 1, [.int .u64 0]⟩, ⟨4, 1, [.int .u64 0]⟩]⟩),
 (63, ⟨.arr 5 59, 5, 40, .agg (List.replicate 5 (.int .u64 0)), [⟨0, 1, [.int .u64 0]⟩, ⟨1, 1, [.int .u64 0]⟩, ⟨2, 1, [.int .u64 0]⟩, ⟨3, 1, [.int .u64 0]⟩, ⟨4, 1, [.int .u64 0]⟩]⟩),
 (64, ⟨.struct [(0, 63), (5, 63), (10, 63), (15, 63)], 20, 160, .agg (List.replicate 20 (.int .u64 0)), [⟨0, 5, List.replicate 5 (.int .u64 0)⟩, ⟨5, 5, List.replicate 5 (.int .u64 0)⟩, ⟨10, 5, List.replicate 5 (.int .u64 0)⟩, ⟨15, 5, List.replicate 5 (.int .u64 0)⟩]⟩),
 (65, ⟨.struct [(0, 63), (5, 63), (10, 63), (15, 63)], 20, 160, .agg (List.replicate 20 (.int .u64 0)), [⟨0, 5, List.replicate 5 (.int .u64 0)⟩, ⟨5, 5, List.replicate 5 (.int .u64 0)⟩, ⟨10, 5, List.replicate 5 (.int .u64 0)⟩, ⟨15, 5, List.replicate 5 (.int .u64 0)⟩]⟩),
 (69, ⟨.arr 4 59, 4, 32, .agg ([.int .u64 0, .int .u64 0, .int .u64 0, .int .u64 0]), [⟨0, 1, [.int .u64 0]⟩, ⟨1, 1, [.int .u64 0]⟩, ⟨2, 1, [.int .u64 0]⟩, ⟨3, 1, [.int .u64 0]⟩]⟩),
 (70, ⟨.arr 4 59, 4, 32, .agg ([.int .u64 0, .int .u64 0, .int .u64 0, .int .u64 0]), [⟨0, 1, [.int .u64 0]⟩, ⟨1, 1, [.int .u64 0]⟩, ⟨2, 1, [.int .u64 0]⟩, ⟨3, 1, [.int .u64 0]⟩]⟩),
 (76, ⟨.other, 1, 0, .top, []⟩),
 (80, ⟨.slice 52, 1, 24, .nil, []⟩),
 (82, ⟨.arr 64 52, 64, 256, .agg (List.replicate 64 (.int .u32 0)), [⟨0, 1, [.int .u32 0]⟩, ⟨1, 1, [.int .u32 0]⟩, ⟨2, 1, [.int .u32 0]⟩, ⟨3, 1, [.int .u32 0]⟩, ⟨4, 1, [.int .u32 0]⟩, ⟨5, 1, [.int .u32 0]⟩, ⟨6, 1, [.int .u32 0]⟩, ⟨7, 1, [.int .u32 0]⟩, ⟨8, 1, [.int .u32 0]⟩, ⟨9, 1, [.int .u32 0]⟩, ⟨10, 1, [.int .u32 0]⟩, ⟨11, 1, [.int .u32 0]⟩, ⟨12, 1, [.int .u32 0]⟩, ⟨13, 1, [.int .u32 0]⟩, ⟨14, 1, [.int .u32 0]⟩, ⟨15, 1, [.int .u32 0]⟩, ⟨16, 1, [.int .u32 0]⟩, ⟨17, 1, [.int .u32 0]⟩, ⟨18, 1, [.int .u32 0]⟩, ⟨19, 1, [.int .u32 0]⟩, ⟨20, 1, [.int .u32 0]⟩, ⟨21, 1, [.int .u32 0]⟩, ⟨22, 1, [.int .u32 0]⟩, ⟨23, 1, [.int .u32 0]⟩, ⟨24, 1, [.int .u32 0]⟩, ⟨25, 1, [.int .u32 0]⟩, ⟨26, 1, [.int .u32 0]⟩, ⟨27, 1, [.int .u32 0]⟩, ⟨28, 1, [.int .u32 0]⟩, ⟨29, 1, [.int .u32 0]⟩, ⟨30, 1, [.int .u32 0]⟩, ⟨31, 1, [.int .u32 0]⟩, ⟨32, 1, [.int .u32 0]⟩, ⟨33, 1, [.int .u32 0]⟩, ⟨34, 1, [.int .u32 0]⟩, ⟨35, 1, [.int .u32 0]⟩, ⟨36, 1, [.int .u32 0]⟩, ⟨37, 1, [.int .u32 0]⟩, ⟨38, 1, [.int .u32 0]⟩, ⟨39, 1, [.int .u32 0]⟩, ⟨40, 1, [.int .u32 0]⟩, ⟨41, 1, [.int .u32 0]⟩, ⟨42, 1, [.int .u32 0]⟩, ⟨43, 1, [.int .u32 0]⟩, ⟨44, 1, [.int .u32 0]⟩, ⟨45, 1, [.int .u32 0]⟩, ⟨46, 1, [.int .u32 0]⟩, ⟨47, 1, [.int .u32 0]⟩, ⟨48, 1, [.int .u32 0]⟩, ⟨49, 1, [.int .u32 0]⟩, ⟨50, 1, [.int .u32 0]⟩, ⟨51, 1, [.int .u32 0]⟩, ⟨52, 1, [.int .u32 0]⟩, ⟨53, 1, [.int .u32 0]⟩, ⟨54, 1, [.int .u32 0]⟩, ⟨55, 1, [.int .u32 0]⟩, ⟨56, 1, [.int .u32 0]⟩, ⟨57, 1, [.int .u32 0]⟩, ⟨58, 1, [.int .u32 0]⟩, ⟨59, 1, [.int .u32 0]⟩, ⟨60, 1, [.int .u32 0]⟩, ⟨61, 1, [.int .u32 0]⟩, ⟨62, 1, [.int .u32 0]⟩, ⟨63, 1, [.int .u32 0]⟩]⟩),
 (85, ⟨.arr 8 59, 8, 64, .agg (List.replicate 8 (.int .u64 0)), [⟨0, 1, [.int .u64 0]⟩, ⟨1, 1, [.int .u64 0]⟩, ⟨2, 1, [.int .u64 0]⟩, ⟨3, 1, [.int .u64 0]⟩, ⟨4, 1, [.int .u64 0]⟩, ⟨5, 1, [.int .u64 0]⟩, ⟨6, 1, [.int .u64 0]⟩, ⟨7, 1, [.int .u64 0]⟩]⟩),
 (92, ⟨.arr 9 59, 9, 72, .agg (List.replicate 9 (.int .u64 0)), [⟨0, 1, [.int .u64 0]⟩, ⟨1, 1, [.int .u64 0]⟩, ⟨2, 1, [.int .u64 0]⟩, ⟨3, 1, [.int .u64 0]⟩, ⟨4, 1, [.int .u64 0]⟩, ⟨5, 1, [.int .u64 0]⟩, ⟨6, 1, [.int .u64 0]⟩, ⟨7, 1, [.int .u64 0]⟩, ⟨8, 1, [.int .u64 0]⟩]⟩),
 (93, ⟨.other, 1, 0, .top, []⟩),
 (97, ⟨.other, 1, 0, .top, []⟩),
 (103, ⟨.slice 59, 1, 24, .nil, []⟩),
 (105, ⟨.arr 80 59, 80, 640, .agg (List.replicate 80 (.int .u64 0)), []⟩),
 (112, ⟨.struct [(0, 17), (1, 17), (2, 17), (3, 9)], 4, 40, .agg ([.nilp, .nilp, .nilp, .str []]), [⟨0, 1, [.nilp]⟩, ⟨1, 1, [.nilp]⟩, ⟨2, 1, [.nilp]⟩, ⟨3, 1, [.str []]⟩]⟩),
 (113, ⟨.struct [(0, 17), (1, 17), (2, 17), (3, 9)], 4, 40, .agg ([.nilp, .nilp, .nilp, .str []]), [⟨0, 1, [.nilp]⟩, ⟨1, 1, [.nilp]⟩, ⟨2, 1, [.nilp]⟩, ⟨3, 1, [.str []]⟩]⟩),
 (114, ⟨.arr 0 16, 0, 0, .agg ([]), []⟩),
 (115, ⟨.struct [(0, 114)], 0, 0, .agg ([]), [⟨0, 0, []⟩]⟩),
 (116, ⟨.struct [(0, 114)], 0, 0, .agg ([]), [⟨0, 0, []⟩]⟩),
 (118, ⟨.int .u8, 1, 1, .int .u8 0, []⟩),
 (119, ⟨.int .u8, 1, 1, .int .u8 0, []⟩),
 (121, ⟨.ptr 5, 1, 8, .nilp, []⟩),
 (122, ⟨.int .i32, 1, 4, .int .i32 0, []⟩),
 (123, ⟨.int .i32, 1, 4, .int .i32 0, []⟩),
 (124, ⟨.struct [(0, 12), (1, 12), (2, 52), (3, 118), (4, 5), (5, 5), (6, 119), (7, 120), (8, 121), (9, 122), (10, 123)], 11, 48, .agg ([.int .u64 0, .int .u64 0, .int .u32 0, .int .u8 0, .int .u8 0, .int .u8 0, .int .u8 0, .top, .nilp, .int .i32 0, .int .i32 0]), [⟨0, 1, [.int .u64 0]⟩, ⟨1, 1, [.int .u64 0]⟩, ⟨2, 1, [.int .u32 0]⟩, ⟨3, 1, [.int .u8 0]⟩, ⟨4, 1, [.int .u8 0]⟩, ⟨5, 1, [.int .u8 0]⟩, ⟨6, 1, [.int .u8 0]⟩, ⟨7, 1, [.top]⟩, ⟨8, 1, [.nilp]⟩, ⟨9, 1, [.int .i32 0]⟩, ⟨10, 1, [.int .i32 0]⟩]⟩),
 (125, ⟨.struct [(0, 12), (1, 12), (2, 52), (3, 118), (4, 5), (5, 5), (6, 119), (7, 120), (8, 121), (9, 122), (10, 123)], 11, 48, .agg ([.int .u64 0, .int .u64 0, .int .u32 0, .int .u8 0, .int .u8 0, .int .u8 0, .int .u8 0, .top, .nilp, .int .i32 0, .int .i32 0]), [⟨0, 1, [.int .u64 0]⟩, ⟨1, 1, [.int .u64 0]⟩, ⟨2, 1, [.int .u32 0]⟩, ⟨3, 1, [.int .u8 0]⟩, ⟨4, 1, [.int .u8 0]⟩, ⟨5, 1, [.int .u8 0]⟩, ⟨6, 1, [.int .u8 0]⟩, ⟨7, 1, [.top]⟩, ⟨8, 1, [.nilp]⟩, ⟨9, 1, [.int .i32 0]⟩, ⟨10, 1, [.int .i32 0]⟩]⟩)]
def TT : Types := lookT tyList
theorem TTok : TOK Try.prog TT := tabChk_ok (by kernel_rfl)
theorem mixed : Try.prog.follows .mixedOrders = true := by kernel_rfl
end
section

attribute [local irreducible] ifB fitP Does Weaker
def M0 : FuncId → List Mode := fun _ => []
def PL0 : Nat → Bool × Plan := fun _ => (true, .done)
def byteAt (n : Int) (i : Nat) : Int := (n / 2 ^ (8 * i)) % 256
def beAcc (n : Int) (size c : Nat) : List Int := (List.range c).map fun j => byteAt n (size - 1 - j)
@[simp] theorem beAcc_length (n : Int) (size c : Nat) : (beAcc n size c).length = c := by simp [beAcc]
theorem beAcc_succ (n : Int) (size c : Nat) : beAcc n size (c + 1) = beAcc n size c ++ [byteAt n (size - 1 - c)] := by
 simp [beAcc, List.range_succ]
theorem clone_ok (l : List Int) (hl : l.length ≤ 17592186044416) : ACall Try.prog 31 [.ro l.length (bys l)] (.own l.length 1 (bys l)) [] := by
 refine ACall.of_does TTok Try.func31 rfl Try.call31 rfl (wpc_sound (M := M0) (PL := PL0) (CU := noCut) TTok mixed _ _ _ ?_)
 conv => whnf
 refine ⟨fun h => ?_, ?_⟩
 ·conv => whnf
  refine ifB_t ?_
  conv => whnf
  have h0 : l = [] := bys_nil h
  subst h0
  exact ⟨⟨rfl, rfl⟩, rfl⟩
 ·conv => whnf
  refine ifB_f ?_
  conv => whnf
  refine ⟨by simp, ?_⟩
  conv => whnf
  refine ⟨ones_bys l, ?_⟩
  conv => whnf
  refine ⟨⟨rfl, by simp, Or.inl rfl, by simp [limB]; omega⟩, ?_⟩
  conv => whnf
  refine ⟨⟨by simp, rfl, ?_, by simp, pureL_bys _⟩, ?_⟩
  ·rfl
  ·rfl
theorem twin_ok (l : List Int) (hl : l.length ≤ 17592186044416) : ACall Try.prog 9 [.ro l.length (bys l)] (.own l.length 1 (bys l)) [] := by
 refine ACall.of_does TTok Try.func9 rfl Try.call9 rfl (wpc_sound (M := M0) (PL := PL0) (CU := noCut) TTok mixed _ _ _ ?_)
 conv => whnf
 refine ⟨by simp, ?_⟩
 conv => whnf
 refine ⟨ones_bys l, ?_⟩
 conv => whnf
 refine ⟨by simp [limB]; omega, ?_⟩
 conv => whnf
 refine ⟨⟨rfl, rfl, rfl, by simp, pureL_bys _⟩, ?_⟩
 rfl
def sizeR (n : Int) : Nat × Int := if n < 24 then (0, n) else if n < 256 then (1, 24) else if n < 65536 then (2, 25) else if n < 4294967296 then (4, 26) else (8, 27)
end
section

attribute [local irreducible] ifB fitP Does Weaker
end
section

attribute [local irreducible] ifB fitP Does Weaker
end
section

attribute [local irreducible] ifB fitP Does Weaker
def beVal (l : List Int) : Int := l.foldl (fun x c => x * 256 + c) 0
def moreOf (hd : Int) : Nat := if 24 ≤ hd % 32 then 2 ^ (hd % 32 - 24).toNat else 0
def numOf (hd : Int) (s : List Int) : Int := if 24 ≤ hd % 32 then beVal s else hd % 32
def getR (b : List Int) (at' : Int) : Int × Int × Int × Int :=
 if at' < 0 ∨ (b.length : Int) < at' then (0, 0, 0, 1)
 else if h : at'.toNat < b.length then
  if 27 < b[at'.toNat] % 32 then (0, 0, 0, 3)
  else if b.length < at'.toNat + 1 + moreOf b[at'.toNat] then (0, 0, 0, 3)
  else if 9223372036854775807 < numOf b[at'.toNat] ((b.drop (at'.toNat + 1)).take (moreOf b[at'.toNat])) then (0, 0, 0, 3)
  else if (sizeR (numOf b[at'.toNat] ((b.drop (at'.toNat + 1)).take (moreOf b[at'.toNat])))).1 ≠ moreOf b[at'.toNat] then (0, 0, 0, 3)
  else (b[at'.toNat] / 32, numOf b[at'.toNat] ((b.drop (at'.toNat + 1)).take (moreOf b[at'.toNat])), (at'.toNat + 1 + moreOf b[at'.toNat] : Nat), 0)
 else (0, 0, 0, 3)
end
section

attribute [local irreducible] ifB fitP Does Weaker
end
section

end
section

end
section

end
section

mutual
theorem border_pure {E : Env} : ∀ (x : AV) (v : Value), pureV x = true → RepV E x v → RepB E x v []
 | .own _ _ _, v, hp, _ => by simp [pureV] at hp
 | .ref _, v, hp, _ => by simp [pureV] at hp
 | .sl _ _ _ _ _, v, hp, _ => by simp [pureV] at hp
 | .ptr _ _, v, hp, _ => by simp [pureV] at hp
 | .agg cs, v, hp, h => by
  simp only [RepV] at h
  obtain ⟨vs, rfl, hl⟩ := h
  simp only [RepB]
  exact ⟨vs, rfl, borderL_pure cs _ (by simpa [pureV] using hp) hl⟩
 | .tuple cs, v, hp, h => by
  simp only [RepV] at h
  obtain ⟨vs, rfl, hl⟩ := h
  simp only [RepB]
  exact ⟨vs, rfl, borderL_pure cs _ (by simpa [pureV] using hp) hl⟩
 | .top, v, hp, h => by simp only [RepB]; exact ⟨hp, h, trivial⟩
 | .int k n, v, hp, h => by simp only [RepB]; exact ⟨hp, h, trivial⟩
 | .bool b, v, hp, h => by simp only [RepB]; exact ⟨hp, h, trivial⟩
 | .anyb, v, hp, h => by simp only [RepB]; exact ⟨hp, h, trivial⟩
 | .str s, v, hp, h => by simp only [RepB]; exact ⟨hp, h, trivial⟩
 | .nil, v, hp, h => by simp only [RepB]; exact ⟨hp, h, trivial⟩
 | .ro len cs, v, hp, h => by simp only [RepB]; exact ⟨hp, h, trivial⟩
 | .rop cs, v, hp, h => by simp only [RepB]; exact ⟨hp, h, trivial⟩
 | .nilp, v, hp, h => by simp only [RepB]; exact ⟨hp, h, trivial⟩
 | .hid i, v, hp, h => by simp only [RepB]; exact ⟨hp, h, trivial⟩
 | .fn f cs, v, hp, h => by simp only [RepB]; exact ⟨hp, h, trivial⟩
theorem borderL_pure {E : Env} : ∀ (cs : List AV) (vs : List Value), pureL cs = true → RepL E cs vs → RepBL E cs vs []
 | [], vs, _, h => by simp only [RepL] at h; simp [RepBL, h]
 | c :: cs, vs, hp, h => by
  simp only [pureL, Bool.and_eq_true] at hp
  simp only [RepL] at h
  obtain ⟨u, us, rfl, hu, h⟩ := h
  simp only [RepBL]
  exact ⟨u, us, [], [], rfl, rfl, border_pure c u hp.1 hu, borderL_pure cs us hp.2 h⟩
end
def env0 (W : World) : Env := ⟨fun _ => .bool false, fun _ => none, fun _ => False, W⟩
theorem refVals_pure : ∀ (ys : List AV) (vs : List Value), pureL ys = true → refVals ys vs = []
 | [], vs, _ => by simp [refVals]
 | y :: ys, [], _ => by simp [refVals]
 | y :: ys, v :: vs, hp => by
  simp only [pureL, Bool.and_eq_true] at hp
  have : isRef y = false := by
   cases y <;> simp [isRef, pureV] at hp ⊢
  simp [refVals, this, refVals_pure ys vs hp.2]
theorem ACall.row {P : Program} {f : FuncId} {args : List AV} (h : ACall P f args (.bool true) []) (hp : pureL args = true) {W : World} {vals : List Value} (hr : RepL (env0 W) args vals) (ht : TabOk (env0 W)) :
  Calls P f vals.toArray W fun e W' => e = .returned (.bool true) ∧ Go.RowKit.Below W.heap.size W W' := by
 have h0 : HeapRep (fun b => (fun _ => False) b ∨ b ∈ ([] : List Nat)) (env0 W) noHeap 0 :=
  ⟨fun id cs hh => by simp [noHeap] at hh, fun id id' n h1 => by simp [noHeap] at h1, fun b => by simp [env0, Wr, noHeap], fun id n h1 => by simp [noHeap] at h1,
   fun id _ => ⟨rfl, rfl⟩, fun _ => rfl, fun id n h1 => by simp [env0] at h1, fun b hb => by simp at hb, ht⟩
 have := h.2 (fun _ => False) (env0 W) vals [] h0 (borderL_pure args vals hp hr) (by simp) (by simp)
 refine this.mono ?_
 rintro e w' ⟨v, E', Xr, rfl, rfl, _, hev, _, hres, _, _⟩
 rw [refVals_pure args vals hp] at hres
 simp only [List.nil_append, RepBL, RepB, RepV] at hres
 obtain ⟨u, us, Y, Y', he, _, ⟨_, rfl, _⟩, _⟩ := hres
 injection he with he _
 subst he
 refine ⟨rfl, Evo.below (hev.mono fun b hb => by simp at hb)⟩
end
section

def takesTo : List Nat → Plan → Plan
 | [], p => p
 | i :: r, p => .take i (takesTo r p)
theorem roLoad_ok {ops : Array Oper} {st : St} {dst : Option Tmp} {ty : TypeId} {pos : String} {af : Array Edge} {t : TypeId} {a : Operand} {cs : List AV} (he : evalO st.env a = .rop cs) (hne : cs.length ≠ 0) : takeOk ops ⟨dst, .load t a, ty, pos, af, none⟩ st = true := by
 show roLoad st (.load t a) = true
 simp only [roLoad, he]
 cases cs with
 | nil => simp at hne
 | cons x r => rfl
mutual
def frzV (id : Nat) (zs : List AV) : AV → AV
 | .sl i off len esz full => cond (Nat.beq i id) (.ro len ((zs.drop off).take (len * esz))) (.sl i off len esz full)
 | .ptr i off => cond (Nat.beq i id) (.rop (zs.drop off)) (.ptr i off)
 | .agg cs => .agg (frzL id zs cs)
 | .tuple cs => .tuple (frzL id zs cs)
 | .top => .top
 | .int k n => .int k n
 | .bool b => .bool b
 | .anyb => .anyb
 | .str s => .str s
 | .nil => .nil
 | .ro len cs => .ro len cs
 | .own a b c => .own a b c
 | .ref cs => .ref cs
 | .rop cs => .rop cs
 | .nilp => .nilp
 | .hid i => .hid i
 | .fn f cs => .fn f cs
def frzL (id : Nat) (zs : List AV) : List AV → List AV
 | [] => []
 | c :: cs => frzV id zs c :: frzL id zs cs
end
theorem frzL_get {id : Nat} {zs : List AV} : ∀ {cs : List AV} {j : Nat} {y : AV}, (frzL id zs cs)[j]? = some y → ∃ x, cs[j]? = some x ∧ y = frzV id zs x
 | [], j, y, h => by simp [frzL] at h
 | c :: cs, 0, y, h => by simp [frzL] at h; exact ⟨c, by simp, h.symm⟩
 | c :: cs, j + 1, y, h => by simp [frzL] at h ⊢; exact frzL_get h
theorem frzL_length {id : Nat} {zs : List AV} : ∀ cs : List AV, (frzL id zs cs).length = cs.length
 | [] => rfl
 | c :: cs => by simp [frzL, frzL_length cs]
def St.frz (st : St) (id : Nat) (zs : List AV) : St :=
 ⟨fun t => frzV id zs (st.env t), fun i => cond (Nat.beq i id) none (match st.heap i with | some cs => some (frzL id zs cs) | none => none), st.nx, st.n⟩
section
variable {Z : Nat → Prop} {E E' : Env} {H : Heap} {nx id : Nat} {zs : List AV}
theorem blk_repM (h : HeapRep Z E H nx) (hi : H id = some zs) {n : Nat} (hn : E.ρ id = some n) (off : Nat) : RepM E (zs.drop off) n off := by
 refine repM_of_get _ _ _ fun j x hx => ?_
 rw [List.getElem?_drop] at hx
 exact blk_cells h hi hn (off + j) x hx
mutual
theorem frzV_ok (h : HeapRep Z E H nx) (hi : H id = some zs) (L : Later E E') (hw : E'.w = E.w) (hρ : E'.ρ = E.ρ) (hV : ∀ n, E.ρ id = some n → ¬ E'.V n) :
  ∀ (x : AV) (v : Value), RepV E x v → RepV E' (frzV id zs x) v
 | .sl i off len esz full, v, hr => by
  simp only [frzV]
  cases hb : Nat.beq i id with
  | false => exact RepV.later L _ v hr
  | true =>
   obtain rfl := Nat.eq_of_beq_eq_true hb
   simp only [cond_true]
   simp only [RepV] at hr ⊢
   obtain ⟨a, cap, rfl, hl, _, hc⟩ := hr
   refine ⟨a, cap, rfl, hl, ?_⟩
   rcases hc with rfl | ⟨n, c, e, fr, hn, rfl, hh, hs⟩
   ·left
    obtain rfl : len = 0 := by omega
    simp
   ·right
    refine ⟨n, off, rfl, hV n hn, repM_take ?_ _⟩
    have hm := blk_repM h hi hn off
    refine repM_of_get _ _ _ fun j x hx => ?_
    obtain ⟨u, h1, h2⟩ := repM_get _ _ _ hm j x hx
    exact ⟨u, by rw [hw]; exact h1, RepV.later L x u h2⟩
 | .ptr i off, v, hr => by
  simp only [frzV]
  cases hb : Nat.beq i id with
  | false => exact RepV.later L _ v hr
  | true =>
   obtain rfl := Nat.eq_of_beq_eq_true hb
   simp only [cond_true]
   simp only [RepV] at hr ⊢
   obtain ⟨n, hn, rfl⟩ := hr
   refine ⟨n, off, rfl, .inr ⟨hV n hn, ?_⟩⟩
   have hm := blk_repM h hi hn off
   refine repM_of_get _ _ _ fun j x hx => ?_
   obtain ⟨u, h1, h2⟩ := repM_get _ _ _ hm j x hx
   exact ⟨u, by rw [hw]; exact h1, RepV.later L x u h2⟩
 | .agg cs, v, hr => by
  simp only [frzV, RepV] at hr ⊢
  obtain ⟨vs, rfl, hr⟩ := hr
  exact ⟨vs, rfl, frzL_ok h hi L hw hρ hV cs _ hr⟩
 | .tuple cs, v, hr => by
  simp only [frzV, RepV] at hr ⊢
  obtain ⟨vs, rfl, hr⟩ := hr
  exact ⟨vs, rfl, frzL_ok h hi L hw hρ hV cs _ hr⟩
 | .top, v, hr => RepV.later L .top v hr
 | .int k n, v, hr => RepV.later L (.int k n) v hr
 | .bool b, v, hr => RepV.later L (.bool b) v hr
 | .anyb, v, hr => RepV.later L .anyb v hr
 | .str s, v, hr => RepV.later L (.str s) v hr
 | .nil, v, hr => RepV.later L .nil v hr
 | .ro len cs, v, hr => RepV.later L (.ro len cs) v hr
 | .own a b c, v, hr => RepV.later L (.own a b c) v hr
 | .ref cs, v, hr => RepV.later L (.ref cs) v hr
 | .rop cs, v, hr => RepV.later L (.rop cs) v hr
 | .nilp, v, hr => RepV.later L .nilp v hr
 | .hid i, v, hr => RepV.later L (.hid i) v hr
 | .fn f cs, v, hr => RepV.later L (.fn f cs) v hr
theorem frzL_ok (h : HeapRep Z E H nx) (hi : H id = some zs) (L : Later E E') (hw : E'.w = E.w) (hρ : E'.ρ = E.ρ) (hV : ∀ n, E.ρ id = some n → ¬ E'.V n) :
  ∀ (cs : List AV) (vs : List Value), RepL E cs vs → RepL E' (frzL id zs cs) vs
 | [], vs, hr => by simpa [frzL, RepL] using hr
 | c :: cs, vs, hr => by
  simp only [frzL, RepL] at hr ⊢
  obtain ⟨u, us, rfl, h1, h2⟩ := hr
  exact ⟨u, us, rfl, frzV_ok h hi L hw hρ hV c u h1, frzL_ok h hi L hw hρ hV cs us h2⟩
end
end
theorem Weaker.trans {k : Nat} {a b c : St} (h : Weaker k a b) (g : Weaker k b c) : Weaker k a c := by
 intro Z E act S
 obtain ⟨E1, S1, e1, f1⟩ := h Z E act S
 obtain ⟨E2, S2, e2, f2⟩ := g Z E1 act S1
 exact ⟨E2, S2, e2.trans e1, f1.trans f2⟩
theorem Weaker.freeze {k : Nat} {st : St} (id : Nat) {zs : List AV} (hi : st.heap id = some zs) : Weaker k st (st.frz id zs) := by
 intro Z E a S
 have h := S.heap
 let H' : Heap := (st.frz id zs).heap
 have hH : ∀ i ys, H' i = some ys → i ≠ id ∧ ∃ xs, st.heap i = some xs ∧ ys = frzL id zs xs := by
  intro i ys hy
  simp only [H', St.frz] at hy
  cases hb : Nat.beq i id with
  | true => rw [hb] at hy; cases hy
  | false =>
   rw [hb] at hy
   simp only [cond_false] at hy
   refine ⟨fun e => ?_, ?_⟩
   ·subst e
    simp at hb
   ·cases hs : st.heap i with
    | none => rw [hs] at hy; cases hy
    | some xs => rw [hs] at hy; exact ⟨xs, rfl, (Option.some.inj hy).symm⟩
 have hHn : ∀ i, H' i ≠ none → i ≠ id ∧ st.heap i ≠ none := by
  intro i hne
  cases hy : H' i with
  | none => exact absurd hy hne
  | some ys =>
   obtain ⟨h1, xs, h2, _⟩ := hH i ys hy
   exact ⟨h1, by rw [h2]; simp⟩
 let E' : Env := { E with V := fun b => Z b ∨ Wr E.ρ H' b }
 have hwr : ∀ b, Wr E.ρ H' b → Wr E.ρ st.heap b := by
  rintro b ⟨i, ys, h1, h2⟩
  obtain ⟨_, xs, h3, _⟩ := hH i ys h1
  exact ⟨i, xs, h3, h2⟩
 have hVV : ∀ b, E'.V b → E.V b := by
  rintro b (hz | hw)
  ·exact (h.V b).2 (.inl hz)
  ·exact (h.V b).2 (.inr (hwr b hw))
 have L : Later E E' := ⟨rfl, fun _ _ hh => hh, Nat.le_refl _, fun _ c _ fr hh => ⟨c, fr, hh, rfl⟩, fun _ _ _ => rfl, fun b _ hh => hVV b hh⟩
 have hid : ∀ n, E.ρ id = some n → ¬ E'.V n := by
  rintro n hn (hz | ⟨i, ys, h1, h2⟩)
  ·exact h.apart id n (by rw [hi]; simp) hn hz
  ·obtain ⟨hne, xs, h3, _⟩ := hH i ys h1
   exact hne (h.inj i id n (by rw [h3]; simp) (by rw [hi]; simp) h2 hn)
 refine ⟨E', ⟨fun t => frzV_ok h hi L rfl rfl hid _ _ (S.env t), S.sz, S.dfr, ?_⟩, rfl, ⟨rfl, Evo.refl _ _, fun b _ hb => hwr b hb, fun _ _ _ hn => hn⟩⟩
 refine ⟨fun i ys hy => ?_, fun i i' n h1 h2 h3 h4 => h.inj i i' n (hHn i h1).2 (hHn i' h2).2 h3 h4, fun b => Iff.rfl, fun i n h1 h2 => h.apart i n (hHn i h1).2 h2, fun i hx => ⟨(h.fresh i hx).1, ?_⟩, h.one, h.old, h.zold, h.tab.later L⟩
 ·obtain ⟨_, xs, h3, rfl⟩ := hH i ys hy
  rcases h.blk i xs h3 with ⟨b1, rfl⟩ | ⟨n, b1, c, e, fr, b2, b3, b4, b5⟩
  ·exact .inl ⟨b1, rfl⟩
  ·refine .inr ⟨n, b1, c, e, fr, b2, b3, by rw [frzL_length]; exact b4, fun j y hj => ?_⟩
   obtain ⟨x, hx, rfl⟩ := frzL_get hj
   obtain ⟨u, h4, h5⟩ := b5 j x hx
   exact ⟨u, h4, frzV_ok h hi L rfl rfl hid _ _ h5⟩
 ·cases hy : H' i with
  | none => exact hy
  | some ys =>
   obtain ⟨_, xs, h3, _⟩ := hH i ys hy
   rw [(h.fresh i hx).2] at h3
   cases h3
theorem Does.freeze {P : Program} {k : Nat} {c : Code} {Q : AX → St → Prop} {st : St} (id : Nat) {zs : List AV} (hi : st.heap id = some zs) (h : Does P k c Q (st.frz id zs)) : Does P k c Q st :=
 Does.weaker (Weaker.freeze id hi) h
theorem ACall.arg1 {P : Program} {f : FuncId} {n n' : Nat} {c c' : List AV} {az : List AV} {r : AV} {outs : List AV} (h : ACall P f (.ro n c :: az) r outs) (e1 : n' = n) (e2 : c' = c) : ACall P f (.ro n' c' :: az) r outs := by
 subst e1; subst e2; exact h
theorem pureL_cutB (l : List Int) (lo hi : Option Int) (sz : Nat) : pureL (cutB (bys l) lo hi sz) = true := by
 cases lo <;> cases hi <;> simp only [cutB, bys_take, bys_drop, pureL_bys]
end
section

structure Tok where
 k : Int
 n : Int
 b : List Int
 deriving DecidableEq
def toksC : List Tok → List AV
 | [] => []
 | t :: l => .int .i64 t.k :: .int .i64 t.n :: .ro t.b.length (bys t.b) :: toksC l
theorem toksC_length : ∀ l : List Tok, (toksC l).length = 3 * l.length
 | [] => rfl
 | t :: l => by simp [toksC, toksC_length l]; omega
theorem pureL_toks : ∀ l : List Tok, pureL (toksC l) = true
 | [] => rfl
 | t :: l => by simp [toksC, pureL, pureV, pureL_bys, pureL_toks l]
structure W where
 at' : Nat
 out : List Int
 bad : Bool
end
section

attribute [local irreducible] ifB fitP Does Weaker
def wrM : Mode := .rf [.bw, .rd, .mv 1, .rd]
def paM : Mode := .rf [.bw, .rd, .mv 3, .rd]
def MC : FuncId → List Mode := modes [(999999, [.rd]), (31, [.bw]), (999999, [.rd, .rd]), (999999, [.rd, .rd, .rd]), (9, [.bw]),
 (999999, [.bw, .rd, .rd]), (999999, [.rd, .rd]), (999999, [.bw, .bw]), (999999, [.bw, .rd]), (999999, [.bw, .rd]),
 (999999, [wrM, .rd, .rd]), (999999, [wrM, .rd, .rd]), (999999, [wrM, .rd]), (999999, [wrM, .rd, .rd]), (999999, [wrM, .rd]),
 (999999, [.bw]), (999999, [.bw]), (999999, [.bw]), (999999, [.bw]), (999999, [.bw, .bw]), (999999, [.cmp]), (999999, [.bw, .bw]),
 (999999, [.rf [.bw, .rd, .hd, .rd], .rd]), (999999, [paM, .rd]), (999999, [.bw]), (999999, [.bw]), (999999, [.bw]),
 (999999, [.bw, .rd, .rd]), (999999, [.bw]), (999999, [.bw, .rd, .mv 3, .rd]), (999999, [.bw]), (999999, [.bw]),
 (999999, [.bw, .bw]), (999999, [.bw]), (999999, [.bw])]
end
section

attribute [local irreducible] ifB fitP Does Weaker
end
section

end
section

attribute [local irreducible] ifB fitP Does Weaker
end
section

attribute [local irreducible] ifB fitP Does Weaker
end
section

attribute [local irreducible] ifB fitP Does Weaker
end
section

end
section

attribute [local irreducible] ifB fitP Does Weaker
end
section

attribute [local irreducible] ifB fitP Does Weaker
end
section

attribute [local irreducible] ifB fitP Does Weaker
end
section

attribute [local irreducible] ifB fitP Does Weaker
end
section

attribute [local irreducible] ifB fitP Does Weaker
structure Pa where
 at' : Nat
 l : List Tok
 bad : Bool
def pBad (b : List Int) (p : Pa) : Prop := p.bad = true ∨ (getR b p.at').2.2.2 ≠ 0 ∨ 600 ≤ p.l.length
instance (b : List Int) (p : Pa) : Decidable (pBad b p) := by unfold pBad; infer_instance
end
section

attribute [local irreducible] ifB fitP Does Weaker
end
section

attribute [local irreducible] ifB fitP Does Weaker
end
section

attribute [local irreducible] ifB fitP Does Weaker
end
section

end
section

end
section

def TyF (R : TypeId → List AV → Prop) : List (Nat × TypeId) → List (List AV) → Prop
 | [], ys => ys = []
 | f :: fs, ys => ∃ y r, ys = y :: r ∧ R f.2 y ∧ TyF R fs r
def TyL (T : Types) : Nat → TypeId → List AV → Prop
 | 0, _, _ => False
 | n + 1, t, xs => match T t with
  | none => False
  | some i => match i.d with
   | .int k => ∃ z, xs = [.int k z] ∧ IntKind.lo k ≤ z ∧ z ≤ IntKind.hi k
   | .bool => ∃ b, xs = [.bool b]
   | .str => ∃ s, xs = [.str s] ∧ Byt s ∧ s.length ≤ 9223372036854775807
   | .slice e => ∃ es : List (List AV), xs = [.ro es.length es.flatten] ∧ es.length ≤ 9223372036854775807 ∧ ∀ y ∈ es, TyL T n e y
   | .struct fs => ∃ ys : List (List AV), xs = ys.flatten ∧ TyF (TyL T n) fs ys
   | .arr m e => ∃ ys : List (List AV), xs = ys.flatten ∧ ys.length = m ∧ ∀ y ∈ ys, TyL T n e y
   | _ => False
def szT (T : Types) (t : TypeId) : Nat := match T t with
 | some i => i.size
 | none => 0
def tileF (T : Types) : Nat → List (Nat × TypeId) → Option Nat
 | k, [] => some k
 | k, f :: fs => match Nat.beq k f.1 with
  | true => tileF T (k + szT T f.2) fs
  | false => none
def tyOk (T : Types) : Nat → TypeId → Bool
 | 0, _ => false
 | n + 1, t => match T t with
  | none => false
  | some i => match i.d with
   | .int _ | .bool | .str => Nat.beq i.size 1
   | .slice e => Nat.beq i.size 1 && tyOk T n e
   | .struct fs => (match tileF T 0 fs with | some k => Nat.beq k i.size | none => false) && fs.all fun f => tyOk T n f.2
   | .arr m e => Nat.beq i.size (m * szT T e) && tyOk T n e
   | _ => false
section
variable {H : Type} {enc : TypeId × Value → H} {P : Program} {T : Types} {W : World} {base : Nat} {spare : Nat → Bool} {held : Bool}
theorem cellsOf_T (hT : TOK P T) {t : TypeId} {i : TI} (h : T t = some i) : P.cellsOf t = i.size := by
 obtain ⟨f, h1, h2, _⟩ := (hT t i h).info
 simp [Program.cellsOf, h1, h2]
theorem wf_lohi {k : IntKind} {n : Int} (h : (Lit.int k n).wf = true) : IntKind.lo k ≤ n ∧ n ≤ IntKind.hi k := by
 cases k <;> simp [Lit.wf, IntKind.min, IntKind.max, IntKind.signed, IntKind.bits, Abs.IntKind.lo, Abs.IntKind.hi] at h ⊢ <;> omega
theorem trod_int {fuel : Nat} {t : TypeId} {k : IntKind} {cs : List Value} {x : DataW H × List MemPlace} (ht : P.underlying t = some (.int k)) (h : DataW.trod enc P W base spare held fuel t cs = some x) :
  ∃ n, cs = [.int k n] ∧ (Lit.int k n).wf = true := by
 cases fuel with
 | zero => simp [DataW.trod] at h
 | succ n =>
  unfold DataW.trod at h
  rw [ht] at h
  split at h <;> simp_all
theorem trod_bool {fuel : Nat} {t : TypeId} {cs : List Value} {x : DataW H × List MemPlace} (ht : P.underlying t = some .bool) (h : DataW.trod enc P W base spare held fuel t cs = some x) :
  ∃ b, cs = [.bool b] := by
 cases fuel with
 | zero => simp [DataW.trod] at h
 | succ n =>
  unfold DataW.trod at h
  rw [ht] at h
  split at h <;> simp_all
theorem cells_get {a : Addr} {n : Nat} {cs : List Value} (h : W.cells? base a n = some cs) : cs.length = n ∧ ∀ j, j < n → W.cell? (a.add j) = cs[j]? := by
 unfold World.cells? at h
 split at h
 ·have h1 := mapM_some_length h
  refine ⟨by simpa using h1, fun j hj => ?_⟩
  exact mapM_some_get h j j (by simp [hj])
 ·cases h
theorem add_add (a : Addr) (i j : Nat) : (a.add i).add j = a.add (i + j) := by
 unfold Addr.add
 by_cases hi : i = 0
 ·subst hi; simp
 ·by_cases hj : j = 0
  ·subst hj; simp [hi]
  ·have : ¬ i + j = 0 := by omega
   rw [if_neg hi, if_neg hj, if_neg this]
   simp [Nat.add_assoc]
theorem spot_none {a : Addr} {v : Value} (h : W.cell? a = some v) : a.spot = none := by
 unfold World.cell? at h
 split at h
 ·cases hs : a.spot with
  | none => rfl
  | some q => simp [hs] at h
 ·cases h
theorem chunks_repL {E : Env} (sz : Nat) : ∀ (m : Nat) (xss : List (List AV)) (cs : List Value), xss.length = m → cs.length = m * sz →
  (∀ i x, xss[i]? = some x → RepL E x ((cs.drop (i * sz)).take sz)) → RepL E xss.flatten cs
 | 0, xss, cs, h1, h2, h3 => by
  obtain rfl := List.length_eq_zero_iff.1 h1
  have : cs = [] := List.length_eq_zero_iff.1 (by omega)
  subst this
  simp [RepL]
 | m + 1, xss, cs, h1, h2, h3 => by
  cases xss with
  | nil => simp at h1
  | cons x xss =>
   have h0 := h3 0 x rfl
   simp only [Nat.zero_mul, List.drop_zero] at h0
   have ih := chunks_repL (E := E) sz m xss (cs.drop sz) (by simpa using h1) (by simp [h2, Nat.add_mul]) (fun i y hy => by
    have := h3 (i + 1) y (by simpa using hy)
    rw [List.drop_drop]
    rwa [show sz + i * sz = (i + 1) * sz by rw [Nat.add_mul]; omega])
   have := repL_append h0 ih
   rw [List.take_append_drop] at this
   simpa using this
theorem repM_of_repL {E : Env} {b off : Nat} : ∀ (xs : List AV) (cs : List Value), RepL E xs cs → (∀ j u, cs[j]? = some u → E.w.cell? ⟨b, off + j, none⟩ = some u) → RepM E xs b off
 | [], cs, _, _ => by simp [RepM]
 | x :: xs, cs, h, hc => by
  simp only [RepL] at h
  obtain ⟨u, us, rfl, h1, h2⟩ := h
  simp only [RepM]
  refine ⟨⟨u, by simpa using hc 0 u rfl, h1⟩, ?_⟩
  have aux : ∀ (off' : Nat), off' = off + 1 → RepM E xs b off' := by
   intro off' e
   subst e
   exact repM_of_repL xs us h2 fun j v hv => by
    have := hc (j + 1) v (by simpa using hv)
    rwa [show off + 1 + j = off + (j + 1) by omega]
  exact aux _ rfl
theorem choose_list {α : Type} {Q : Nat → α → Prop} : ∀ (n : Nat), (∀ i, i < n → ∃ x, Q i x) → ∃ l : List α, l.length = n ∧ ∀ i x, l[i]? = some x → Q i x
 | 0, _ => ⟨[], rfl, fun i x h => by simp at h⟩
 | n + 1, h => by
  obtain ⟨l, h1, h2⟩ := choose_list n (fun i hi => h i (by omega))
  obtain ⟨x, hx⟩ := h n (by omega)
  refine ⟨l ++ [x], by simp [h1], fun i y hy => ?_⟩
  rcases Nat.lt_or_ge i l.length with hi | hi
  ·rw [List.getElem?_append_left hi] at hy; exact h2 i y hy
  ·rw [List.getElem?_append_right hi] at hy
   have hin : i = n := by
    have := (List.getElem?_eq_some_iff.1 hy).1
    simp at this
    omega
   subst hin
   rw [h1] at hy
   simp at hy
   subst hy
   exact hx
theorem fields_open (n : Nat) (ih : ∀ (f : Nat) (t : TypeId) (cs : List Value) (x : DataW H × List MemPlace), tyOk T n t = true → DataW.trod enc P W base spare held f t cs = some x → ∃ xs, RepL (env0 W) xs cs ∧ TyL T n t xs)
  (hT : TOK P T) {fuel : Nat} {cs : List Value} : ∀ (fs : List Field) (k e : Nat), tileF T k (fs.map fun f => (f.offset, f.type)) = some e → (∀ f ∈ fs, tyOk T n f.type = true) →
   (∀ f ∈ fs, ∃ y, DataW.trod enc P W base spare held fuel f.type ((cs.drop f.offset).take (P.cellsOf f.type)) = some y) → cs.length = e →
   k ≤ e ∧ ∃ ys : List (List AV), RepL (env0 W) ys.flatten (cs.drop k) ∧ TyF (TyL T n) (fs.map fun f => (f.offset, f.type)) ys
 | [], k, e, ht, _, _, hl => by
  simp only [List.map_nil, tileF, Option.some.injEq] at ht
  subst ht
  refine ⟨Nat.le_refl _, [], ?_, rfl⟩
  rw [List.drop_of_length_le (by omega)]
  simp [RepL]
 | f :: fs, k, e, ht, ho, hd, hl => by
  simp only [List.map_cons, tileF] at ht
  split at ht
  case h_2 => cases ht
  rename_i hb
  obtain rfl := Nat.eq_of_beq_eq_true hb
  have hk := ho f (by simp)
  obtain ⟨y, hy⟩ := hd f (by simp)
  obtain ⟨xs, hr, hx⟩ := ih _ _ _ _ hk hy
  obtain ⟨h1, ys, h2, h3⟩ := fields_open n ih hT fs _ e ht (fun g hg => ho g (by simp [hg])) (fun g hg => hd g (by simp [hg])) hl
  have hsz : P.cellsOf f.type = szT T f.type := by
   unfold szT
   cases hTt : T f.type with
   | none => cases n <;> simp [tyOk, hTt] at hk
   | some i => exact cellsOf_T hT hTt
  rw [hsz] at hr
  refine ⟨by omega, xs :: ys, ?_, ⟨xs, ys, rfl, hx, h3⟩⟩
  have := repL_append hr h2
  rw [← List.drop_drop, List.take_append_drop] at this
  simpa using this
theorem open_any (hT : TOK P T) : ∀ (n f : Nat) (t : TypeId) (cs : List Value) (x : DataW H × List MemPlace), tyOk T n t = true → DataW.trod enc P W base spare held f t cs = some x →
  ∃ xs, RepL (env0 W) xs cs ∧ TyL T n t xs
 | 0, f, t, cs, x, ho, _ => by simp [tyOk] at ho
 | n + 1, f, t, cs, x, ho, h => by
  simp only [tyOk] at ho
  split at ho
  ·cases ho
  rename_i i hi
  obtain ⟨d, hu, hd, _⟩ := (hT t i hi).und
  have hc := cellsOf_T hT hi
  simp only [TyL, hi]
  cases hid : i.d with
  | int k =>
   rw [hid] at hd
   have hd' : d = .int k := hd
   subst hd'
   obtain ⟨z, rfl, hz⟩ := trod_int hu h
   exact ⟨[.int k z], by simp [RepL, RepV], z, rfl, wf_lohi hz⟩
  | bool =>
   rw [hid] at hd
   have hd' : d = .bool := hd
   subst hd'
   obtain ⟨b, rfl⟩ := trod_bool hu h
   exact ⟨[.bool b], by simp [RepL, RepV], b, rfl⟩
  | str =>
   rw [hid] at hd
   have hd' : d = .string := hd
   subst hd'
   obtain ⟨s, rfl, _, hs⟩ := DataW.trod_string hu h
   refine ⟨[.str (bytesOf s)], by simp [RepL, RepV], bytesOf s, rfl, ?_, ?_⟩
   ·intro y hy
    simp only [bytesOf, List.mem_map] at hy
    obtain ⟨u, _, rfl⟩ := hy
    have := u.toNat_lt
    omega
   ·have : s.size = s.data.size := rfl
    simp only [bytesOf, List.length_map, Array.length_toList]
    simp only [maxLen] at hs
    omega
  | slice e =>
   rw [hid] at hd ho
   have hd' : d = .slice e := hd
   subst hd'
   simp only [Bool.and_eq_true] at ho
   rcases DataW.trod_slice hu h with ⟨rfl, _⟩ | ⟨a, len, cap, elems, rest, m, _, rfl, _, hb, hl, hm, hlen, hel, _, _⟩
   ·exact ⟨[.ro 0 []], by simp only [RepL]; exact ⟨_, _, rfl, by simp only [RepV]; exact ⟨none, 0, rfl, Nat.le_refl _, .inl trivial⟩, rfl⟩, [], rfl, by simp, by simp⟩
   have each : ∀ j, j < len → ∃ q : List AV × List Value, (W.cells? base (a.add (j * P.cellsOf e)) (P.cellsOf e) = some q.2 ∧ RepL (env0 W) q.1 q.2) ∧ TyL T n e q.1 := by
    intro j hj
    have := hel j hj
    rw [List.getElem?_eq_getElem (by omega), Option.bind_eq_some_iff] at this
    obtain ⟨vs, hv, ht⟩ := this
    obtain ⟨xs, h1, h2⟩ := open_any hT n m e vs _ ho.2 ht
    exact ⟨(xs, vs), ⟨hv, h1⟩, h2⟩
   obtain ⟨qs, hq1, hq2⟩ := choose_list len each
   refine ⟨[.ro (qs.map (·.1)).length (qs.map (·.1)).flatten], ?_, qs.map (·.1), rfl, by simp only [List.length_map, hq1]; simp only [maxLen] at hm; omega, ?_⟩
   ·simp only [RepL]
    refine ⟨_, _, rfl, ?_, rfl⟩
    simp only [RepV]
    refine ⟨some a, cap, by simp [hq1], by simp [hq1, hl], ?_⟩
    by_cases hz : (qs.map (·.1)).flatten = []
    ·exact .inl hz
    right
    have hsp : a.spot = none := by
     apply Classical.byContradiction
     intro hne
     apply hz
     have hall : ∀ q ∈ qs, q.1 = [] := by
      intro q hqm
      obtain ⟨j, hj, rfl⟩ := List.mem_iff_getElem.1 hqm
      obtain ⟨⟨k1, k2⟩, _⟩ := hq2 j _ (List.getElem?_eq_getElem hj)
      obtain ⟨g1, g2⟩ := cells_get k1
      cases hxs : qs[j].1 with
      | nil => rfl
      | cons y ys =>
       rw [hxs] at k2
       have hlen2 := repL_length _ _ k2
       simp only [List.length_cons] at hlen2
       have hpos : 0 < P.cellsOf e := by omega
       have h0 : 0 < qs.length := by omega
       obtain ⟨⟨k1', k2'⟩, _⟩ := hq2 0 _ (List.getElem?_eq_getElem h0)
       obtain ⟨g1', g2'⟩ := cells_get k1'
       have := g2' 0 hpos
       rw [List.getElem?_eq_getElem (by omega)] at this
       have hs := spot_none this
       simp [Addr.add] at hs
       exact absurd hs hne
     have : ∀ l ∈ qs.map (·.1), l = [] := by
      intro l hl
      obtain ⟨q, hq, rfl⟩ := List.mem_map.1 hl
      exact hall q hq
     exact List.flatten_eq_nil_iff.2 this
    obtain ⟨blk, off, spot⟩ := a
    simp only at hsp
    subst hsp
    refine ⟨blk, off, rfl, fun hf => hf, ?_⟩
    have hL : RepL (env0 W) (qs.map (·.1)).flatten (qs.map (·.2)).flatten := by
     clear hz hq1
     have key : ∀ (qs : List (List AV × List Value)), (∀ q ∈ qs, RepL (env0 W) q.1 q.2) → RepL (env0 W) (qs.map (·.1)).flatten (qs.map (·.2)).flatten := by
      intro qs
      induction qs with
      | nil => intro _; simp [RepL]
      | cons q qs ih => intro hq; simp only [List.map_cons, List.flatten_cons]; exact repL_append (hq q (by simp)) (ih fun r hr => hq r (by simp [hr]))
     refine key qs fun q hqm => ?_
     obtain ⟨j, hj, rfl⟩ := List.mem_iff_getElem.1 hqm
     exact (hq2 j _ (List.getElem?_eq_getElem hj)).1.2
    refine repM_of_repL _ _ hL ?_
    have key2 : ∀ (qs : List (List AV × List Value)) (s : Nat), (∀ j q, qs[j]? = some q → q.2.length = P.cellsOf e ∧ ∀ i u, q.2[i]? = some u → (env0 W).w.cell? ⟨blk, off + ((s + j) * P.cellsOf e + i), none⟩ = some u) →
      ∀ j u, (qs.map (·.2)).flatten[j]? = some u → (env0 W).w.cell? ⟨blk, off + (s * P.cellsOf e + j), none⟩ = some u := by
     intro qs
     induction qs with
     | nil => intro s _ j u hu; simp at hu
     | cons q qs ih =>
      intro s hq j u hu
      simp only [List.map_cons, List.flatten_cons] at hu
      have h0 := hq 0 q rfl
      rcases Nat.lt_or_ge j q.2.length with hj | hj
      ·rw [List.getElem?_append_left hj] at hu
       have := h0.2 j u hu
       rwa [Nat.add_zero] at this
      ·rw [List.getElem?_append_right hj] at hu
       have := ih (s + 1) (fun j' q' hq' => by
        have := hq (j' + 1) q' (by simpa using hq')
        rwa [show s + (j' + 1) = s + 1 + j' by omega] at this) _ u hu
       rw [h0.1] at this hj
       rwa [show (s + 1) * P.cellsOf e + (j - P.cellsOf e) = s * P.cellsOf e + j by rw [Nat.add_mul]; omega] at this
    intro j u hu
    have := key2 qs 0 (fun j q hq => by
     obtain ⟨⟨k1, k2⟩, _⟩ := hq2 j q hq
     obtain ⟨g1, g2⟩ := cells_get k1
     refine ⟨g1, fun i u hu => ?_⟩
     have hi : i < P.cellsOf e := by rw [← g1]; exact (List.getElem?_eq_some_iff.1 hu).1
     have := g2 i hi
     rw [hu, add_add, addr_add] at this
     rw [Nat.zero_add]
     exact this) j u hu
    rwa [Nat.zero_mul, Nat.zero_add] at this
   ·intro y hy
    obtain ⟨q, hqm, rfl⟩ := List.mem_map.1 hy
    obtain ⟨j, hj, rfl⟩ := List.mem_iff_getElem.1 hqm
    exact (hq2 j _ (List.getElem?_eq_getElem hj)).2
  | struct fs =>
   rw [hid] at hd ho
   have hd' : ∃ a, d = .struct a ∧ a.toList.map (fun f => (f.offset, f.type)) = fs := hd
   obtain ⟨a, rfl, rfl⟩ := hd'
   simp only [Bool.and_eq_true] at ho
   obtain ⟨ys, m, _, _, hcl, hyl, hf⟩ := DataW.trod_struct hu h
   obtain ⟨ho1, ho2⟩ := ho
   split at ho1
   case h_2 => cases ho1
   rename_i e he
   have hes := Nat.eq_of_beq_eq_true ho1
   obtain ⟨_, zs, h1, h2⟩ := fields_open n (fun f t cs x a b => open_any hT n f t cs x a b) hT (fuel := m) (cs := cs) a.toList 0 e he (fun g hg => by
     simp only [List.all_map, List.all_eq_true] at ho2
     exact ho2 g hg) (fun g hg => by
     obtain ⟨j, hj, rfl⟩ := List.mem_iff_getElem.1 hg
     have hj' : j < a.size := by simpa using hj
     have := hf j a[j] (by simp [hj'])
     rw [List.getElem?_eq_getElem (by omega)] at this
     exact ⟨_, by simpa using this⟩) (by omega)
   rw [List.drop_zero] at h1
   exact ⟨zs.flatten, h1, zs, rfl, h2⟩
  | arr m e =>
   rw [hid] at hd ho
   have hd' : d = .array m e := hd
   subst hd'
   simp only [Bool.and_eq_true] at ho
   obtain ⟨ys, q, _, _, hcl, hyl, hf⟩ := DataW.trod_array hu h
   have hes := Nat.eq_of_beq_eq_true ho.1
   have hsz : P.cellsOf e = szT T e := by
    unfold szT
    cases hTt : T e with
    | none => cases n <;> simp [tyOk, hTt] at ho
    | some i => exact cellsOf_T hT hTt
   have each : ∀ j, j < m → ∃ x : List AV, RepL (env0 W) x ((cs.drop (j * szT T e)).take (szT T e)) ∧ TyL T n e x := by
    intro j hj
    have := hf j hj
    rw [List.getElem?_eq_getElem (by omega)] at this
    obtain ⟨xs, h1, h2⟩ := open_any hT n q e _ _ ho.2 this
    rw [hsz] at h1
    exact ⟨xs, h1, h2⟩
   obtain ⟨qs, hq1, hq2⟩ := choose_list m each
   refine ⟨qs.flatten, chunks_repL (szT T e) m qs cs hq1 (by omega) (fun j x hx => (hq2 j x hx).1), qs, rfl, hq1, fun y hy => ?_⟩
   obtain ⟨j, hj, rfl⟩ := List.mem_iff_getElem.1 hy
   exact (hq2 j _ (List.getElem?_eq_getElem hj)).2
  | ptr e => rw [hid] at ho; cases ho
  | other => rw [hid] at ho; cases ho
end
end
section

attribute [local irreducible] ifB fitP Does Weaker
theorem pureL_app : ∀ a b : List AV, pureL (a ++ b) = (pureL a && pureL b)
 | [], b => by simp [pureL]
 | x :: a, b => by simp [pureL, pureL_app a b, Bool.and_assoc]
theorem ones_toks : ∀ l : List Tok, (toksC l).all AV.one = true
 | [] => rfl
 | t :: l => by simp [toksC, ones_toks l, AV.one]
theorem bytes_of_ty {T : Types} {n : Nat} {e : TypeId} (hk : ∃ i, T e = some i ∧ i.d = .int .u8) : ∀ (es : List (List AV)), (∀ y ∈ es, TyL T n e y) → ∃ l : List Int, es.flatten = bys l ∧ l.length = es.length ∧ Byt l
 | [], _ => ⟨[], rfl, rfl, by simp [Byt]⟩
 | y :: es, h => by
  obtain ⟨l, h1, h2, h3⟩ := bytes_of_ty hk es (fun z hz => h z (by simp [hz]))
  have hy := h y (by simp)
  obtain ⟨i, hi, hd⟩ := hk
  cases n with
  | zero => exact hy.elim
  | succ n =>
   simp only [TyL, hi, hd] at hy
   obtain ⟨z, rfl, z1, z2⟩ := hy
   refine ⟨z :: l, by simp [h1, bys], by simp [h2], fun x hx => ?_⟩
   simp only [IntKind.lo, IntKind.hi] at z1 z2
   rcases List.mem_cons.1 hx with rfl | hx
   ·exact ⟨z1, by omega⟩
   ·exact h3 x hx
theorem bytes_of_slice {n : Nat} {xs : List AV} (h : TyL TT (n + 2) 23 xs) : ∃ l : List Int, xs = [.ro l.length (bys l)] ∧ (Byt l ∧ l.length ≤ 9223372036854775807) := by
 obtain ⟨es, rfl, hl, he⟩ := h
 obtain ⟨l, h1, h2, h3⟩ := bytes_of_ty ⟨_, show TT 5 = some _ from rfl, rfl⟩ es he
 exact ⟨l, by simp [h1, h2], h3, by omega⟩
theorem rep_one {E : Env} {x : AV} {v : Value} (h : RepL E [x] v.cells.toList) (hv : v.cells = #[v]) : RepV E x v := by
 rw [hv] at h
 simp only [RepL] at h
 obtain ⟨u, us, e, h1, _⟩ := h
 simp only [List.cons.injEq] at e
 rw [e.1]
 exact h1
theorem rep_agg {E : Env} {xs : List AV} {vs : Array Value} (h : RepL E xs (Value.agg vs).cells.toList) : RepV E (.agg xs) (.agg vs) := by
 simp only [RepV]
 exact ⟨vs, rfl, h⟩
end
section

def rBad (t : Tok) : Prop := ((t.k = 3 ∨ t.k = 4) ∧ t.n ≠ 0) ∨ (¬ (t.k = 3 ∨ t.k = 4) ∧ 0 < t.b.length) ∨ t.n < 0
instance (t : Tok) : Decidable (rBad t) := by unfold rBad; infer_instance
end
section

end
end Go.Proofs.Ytbkclacjamlebaa.Abs
