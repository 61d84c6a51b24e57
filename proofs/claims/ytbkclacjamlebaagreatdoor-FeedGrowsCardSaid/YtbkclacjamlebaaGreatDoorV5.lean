/- Texts GA to TY, merged. -/
import Derived.Laws.Sem
import Derived.Test.YtbkclacjamlebaaGreatDoorProg
import Derived.Test.YtbkclacjamlebaaGreatDoorV4
set_option linter.unusedVariables false
set_option linter.unusedSimpArgs false
namespace Go.Proofs.YtbkclacjamlebaaGreatDoor.Abs
open Go
section

inductive AX where
 | normal
 | exit (id : Nat)
 | ret
def AX.out : AX → Exit
 | .normal => .normal
 | .exit id => .exit id
 | .ret => .ret
structure Flow (k : Nat) (E : Env) (H : Heap) (E' : Env) (H' : Heap) : Prop where
 η : E'.η = E.η
 evo : Evo (Wr E.ρ H) E.w E'.w
 back : ∀ b, b < E.w.heap.size → Wr E'.ρ H' b → Wr E.ρ H b
 keep : ∀ id n, id < k → E.ρ id = some n → E'.ρ id = some n
theorem Flow.refl {k : Nat} (E : Env) (H : Heap) : Flow k E H E H := ⟨rfl, Evo.refl _ _, fun _ _ h => h, fun _ _ _ h => h⟩
theorem Flow.trans {m : Nat} {E E' E'' : Env} {H H' H'' : Heap} (h : Flow m E H E' H') (k : Flow m E' H' E'' H'') : Flow m E H E'' H'' :=
 ⟨k.η.trans h.η, h.evo.trans k.evo h.back, fun b hb hw => h.back b hb (k.back b (Nat.lt_of_lt_of_le hb h.evo.size) hw), fun id n hi hn => k.keep id n hi (h.keep id n hi hn)⟩
theorem Chain.flow {k : Nat} {Z : Nat → Prop} {E E' : Env} {H H' : Heap} {nx nx' : Nat} (h : HeapRep Z E H nx) (c : Chain E (Wr E.ρ H) E') (h' : HeapRep Z E' H' nx') : Flow k E H E' H' :=
 ⟨c.later.η, c.evo, wr_back h c.later h', fun id n _ hn => c.later.ρ id n hn⟩
def SPost (k : Nat) (Z : Nat → Prop) (E : Env) (H : Heap) (Q : AX → St → Prop) (e : Exit) (a : Act) (w : World) : Prop :=
 ∃ x st' E', e = x.out ∧ Q x st' ∧ Sim Z E' st' a ∧ E'.w = w ∧ Flow k E H E' st'.heap
def Does (P : Program) (k : Nat) (c : Code) (Q : AX → St → Prop) (st : St) : Prop :=
 ∀ (Z : Nat → Prop) (E : Env) (a : Act), Sim Z E st a → c.wp P (SPost k Z E st.heap Q) a E.w
theorem SPost.flow {k : Nat} {Z : Nat → Prop} {E E' : Env} {H H' : Heap} {Q : AX → St → Prop} {e : Exit} {a : Act} {w : World} (f : Flow k E H E' H') (h : SPost k Z E' H' Q e a w) : SPost k Z E H Q e a w := by
 obtain ⟨x, st', E2, h1, h2, h3, h4, h5⟩ := h
 exact ⟨x, st', E2, h1, h2, h3, h4, f.trans h5⟩
theorem Does.mono {P : Program} {k : Nat} {c : Code} {Q Q' : AX → St → Prop} {st : St} (h : Does P k c Q st) (hq : ∀ x st, Q x st → Q' x st) : Does P k c Q' st :=
 fun Z E a S => wp_mono (h Z E a S) fun e a' w' ⟨x, st', E', h1, h2, h3, h4, h5⟩ => ⟨x, st', E', h1, hq _ _ h2, h3, h4, h5⟩
def thenQ (K : St → Prop) (Q : AX → St → Prop) : AX → St → Prop
 | .normal, st => K st
 | x, st => Q x st
def blockQ (id : Nat) (Q : AX → St → Prop) : AX → St → Prop
 | .exit i, st => cond (Nat.beq i id) (Q .normal st) (Q (.exit i) st)
 | x, st => Q x st
theorem Does.skip {P : Program} {k : Nat} {Q : AX → St → Prop} {st : St} (h : Q .normal st) : Does P k .skip Q st :=
 fun Z E a S => wp_skip ⟨.normal, st, E, rfl, h, S, rfl, Flow.refl _ _⟩
theorem Does.exit {P : Program} {k : Nat} {Q : AX → St → Prop} {id : Nat} {st : St} (h : Q (.exit id) st) : Does P k (.exit id) Q st :=
 fun Z E a S => wp_exit ⟨.exit id, st, E, rfl, h, S, rfl, Flow.refl _ _⟩
theorem Does.ret {P : Program} {k : Nat} {Q : AX → St → Prop} {st : St} (h : Q .ret st) : Does P k .ret Q st :=
 fun Z E a S => wp_ret ⟨.ret, st, E, rfl, h, S, rfl, Flow.refl _ _⟩
theorem Does.seq {P : Program} {k : Nat} {x y : Code} {Q : AX → St → Prop} {st : St} (h : Does P k x (thenQ (Does P k y Q) Q) st) : Does P k (.seq x y) Q st := by
 intro Z E a S
 refine wp_seq (wp_mono (h Z E a S) ?_)
 rintro e a' w' ⟨x, st', E', rfl, h2, h3, rfl, h5⟩
 cases x with
 | normal => exact wp_mono (h2 Z E' a' h3) fun e a'' w'' hp => hp.flow h5
 | exit id => exact ⟨.exit id, st', E', rfl, h2, h3, rfl, h5⟩
 | ret => exact ⟨.ret, st', E', rfl, h2, h3, rfl, h5⟩
theorem Does.block {P : Program} {k : Nat} {id : Nat} {c : Code} {Q : AX → St → Prop} {st : St} (h : Does P k c (blockQ id Q) st) : Does P k (.block id c) Q st := by
 intro Z E a S
 refine wp_block (wp_mono (h Z E a S) ?_)
 rintro e a' w' ⟨x, st', E', rfl, h2, h3, rfl, h5⟩
 cases x with
 | normal => exact ⟨.normal, st', E', rfl, h2, h3, rfl, h5⟩
 | exit i =>
  simp only [AX.out, Exit.inBlock]
  simp only [blockQ] at h2
  by_cases hi : i = id
  ·subst hi
   rw [if_pos rfl]
   have : Nat.beq i i = true := by simp
   rw [this] at h2
   exact ⟨.normal, st', E', rfl, h2, h3, rfl, h5⟩
  ·rw [if_neg hi]
   have : Nat.beq i id = false := by
    cases hh : Nat.beq i id
    ·rfl
    ·exact absurd (Nat.eq_of_beq_eq_true hh) hi
   rw [this] at h2
   exact ⟨.exit i, st', E', rfl, h2, h3, rfl, h5⟩
 | ret => exact ⟨.ret, st', E', rfl, h2, h3, rfl, h5⟩
theorem reg_post {k : Nat} {Z : Nat → Prop} {E : Env} {st : St} {a : Act} (S : Sim Z E st a) {Q : AX → St → Prop} {e : Exit} {a' : Act} {w' : World} (h : RegPost Z E st.heap (Q .normal) e a' w') : SPost k Z E st.heap Q e a' w' := by
 obtain ⟨st', E', rfl, h2, h3, h4, h5⟩ := h
 exact ⟨.normal, st', E', rfl, h2, h3, h4, h5.flow S.heap h3.heap⟩
theorem Does.text {P : Program} {k : Nat} {T : Types} (hT : TOK P T) {M : FuncId → List Mode} {id : Nat} {ops : Array Oper} {Q : AX → St → Prop} {st : St} (h : opsP P T M ops ops.toList st (Q .normal)) : Does P k (.region id ops false) Q st :=
 fun Z E a S => wp_mono (text_sound hT S h) fun e a' w' hp => reg_post S hp
theorem Does.draw {P : Program} {k : Nat} {T : Types} (hT : TOK P T) (hm : P.follows .mixedOrders = true) {M : FuncId → List Mode} {x : Bool} {id : Nat} {ops : Array Oper} {p : Plan} {Q : AX → St → Prop} {st : St}
  (hp : planFits T x ops p = true) (h : planP P T M x ops p st (Q .normal)) : Does P k (.region id ops true) Q st :=
 fun Z E a S => wp_mono (draw_sound hT hm hp S h) fun e a' w' hp => reg_post S hp
theorem Does.cond {P : Program} {k : Nat} {d : Tmp} {x y : Code} {Q : AX → St → Prop} {st : St}
  (h : match st.env d with
   | .bool t => ifB t (Does P k x Q (st.lit d true)) (Does P k y Q (st.lit d false))
   | .anyb => Does P k x Q (st.lit d true) ∧ Does P k y Q (st.lit d false)
   | _ => False) : Does P k (.cond (.tmp d) x y) Q st := by
 intro Z E a S
 have key : ∀ b, a.tmps.getD d undef = .bool b → (b = true → Does P k x Q (st.lit d true)) → (b = false → Does P k y Q (st.lit d false)) → (Code.cond (.tmp d) x y).wp P (SPost k Z E st.heap Q) a E.w := by
  intro b hv h1 h2
  refine wp_cond_split (t := b) hv (fun hb => ?_) (fun hb => ?_)
  ·subst hb; exact h1 rfl Z E a (S.lit hv)
  ·subst hb; exact h2 rfl Z E a (S.lit hv)
 have hv := S.env d
 split at h
 ·rename_i b he
  rw [he] at hv
  simp only [RepV] at hv
  exact key b hv h.1 h.2
 ·rename_i he
  rw [he] at hv
  simp only [RepV] at hv
  obtain ⟨b, hv⟩ := hv
  exact key b hv (fun _ => h.1) (fun _ => h.2)
 ·exact h.elim
theorem least_of {p : Nat → Prop} (h : ∃ n, p n) : ∃ n, p n ∧ ∀ m, p m → n ≤ m := by
 obtain ⟨n, hn⟩ := h
 induction n using Nat.strongRecOn with
 | _ n ih =>
  by_cases hh : ∃ m, m < n ∧ p m
  ·obtain ⟨m, hm, hp⟩ := hh
   exact ih m hm hp
  ·exact ⟨n, hn, fun m hm => Nat.le_of_not_lt fun hlt => hh ⟨m, hlt, hm⟩⟩
theorem wp_loop_n {P : Program} {Q : Exit → Act → World → Prop} {c : Code} (I : Nat → Act → World → Prop)
  (round : ∀ n a w, I n a w → c.wp P (Exit.then (fun a' w' => ∃ m, m < n ∧ I m a' w') Q) a w) {n : Nat} {a : Act} {w : World} (h₀ : I n a w) : (Code.loop c).wp P Q a w := by
 classical
 let μ : Act → World → Nat := fun a w => if h : ∃ n, I n a w then Classical.choose (least_of h) else 0
 refine wp_loop (fun a w => ∃ n, I n a w) μ ⟨n, h₀⟩ fun a w hI => ?_
 have hμ : μ a w = Classical.choose (least_of hI) := by simp only [μ, dif_pos hI]
 refine wp_mono (round _ a w (Classical.choose_spec (least_of hI)).1) fun e a' w' hp => ?_
 cases e with
 | normal =>
  obtain ⟨m, hm, hI'⟩ := hp
  refine ⟨⟨m, hI'⟩, ?_⟩
  have : μ a' w' ≤ m := by
   simp only [μ, dif_pos (⟨m, hI'⟩ : ∃ n, I n a' w')]
   exact (Classical.choose_spec (least_of (⟨m, hI'⟩ : ∃ n, I n a' w'))).2 m hI'
  rw [hμ]
  omega
 | _ => exact hp
theorem Does.loopN {P : Program} {k : Nat} {c : Code} {Q : AX → St → Prop} (J : Nat → St → Prop)
  (h : ∀ n st, J n st → Does P k c (thenQ (fun st' => ∃ m, m < n ∧ J m st') Q) st) {n : Nat} {st : St} (h0 : J n st) : Does P k (.loop c) Q st := by
 intro Z E a S
 refine wp_loop_n (fun n a w => ∃ st1 E1, J n st1 ∧ Sim Z E1 st1 a ∧ E1.w = w ∧ Flow k E st.heap E1 st1.heap) ?_ ⟨st, E, h0, S, rfl, Flow.refl _ _⟩
 rintro n a w ⟨st1, E1, hJ, S1, rfl, f⟩
 refine wp_mono (h n st1 hJ Z E1 a S1) ?_
 rintro e a' w' ⟨x, st', E', rfl, h2, h3, rfl, h5⟩
 cases x with
 | normal =>
  obtain ⟨m, hm, hJ'⟩ := h2
  exact ⟨m, hm, st', E', hJ', h3, rfl, f.trans h5⟩
 | exit id => exact ⟨.exit id, st', E', rfl, h2, h3, rfl, f.trans h5⟩
 | ret => exact ⟨.ret, st', E', rfl, h2, h3, rfl, f.trans h5⟩
def Weaker (k : Nat) (st st' : St) : Prop := ∀ (Z : Nat → Prop) (E : Env) (a : Act), Sim Z E st a → ∃ E', Sim Z E' st' a ∧ E'.w = E.w ∧ Flow k E st.heap E' st'.heap
theorem Weaker.refl {k : Nat} (st : St) : Weaker k st st := fun Z E a S => ⟨E, S, rfl, Flow.refl _ _⟩
theorem Does.weaker {P : Program} {k : Nat} {c : Code} {Q : AX → St → Prop} {st st' : St} (w : Weaker k st st') (h : Does P k c Q st') : Does P k c Q st := by
 intro Z E a S
 obtain ⟨E', S', e, f⟩ := w Z E a S
 rw [← e]
 exact wp_mono (h Z E' a S') fun _ _ _ hp => hp.flow f
theorem Does.loop {P : Program} {k : Nat} {c : Code} {Q : AX → St → Prop} {α : Type} (I : α → St) (φ : α → Prop) (μ : α → Nat)
  (h : ∀ g, φ g → Does P k c (thenQ (fun st' => ∃ g', φ g' ∧ μ g' < μ g ∧ Weaker k st' (I g')) Q) (I g)) (g : α) {st : St} (hg : φ g) (hw : Weaker k st (I g)) : Does P k (.loop c) Q st := by
 refine Does.loopN (fun n st => ∃ g, φ g ∧ μ g = n ∧ Weaker k st (I g)) ?_ ⟨g, hg, rfl, hw⟩
 rintro n st1 ⟨g1, hg1, rfl, hw1⟩
 refine Does.weaker hw1 ((h g1 hg1).mono ?_)
 intro x st' hq
 cases x with
 | normal =>
  obtain ⟨g', k1, k2, k3⟩ := hq
  exact ⟨μ g', k2, g', k1, rfl, k3⟩
 | exit id => exact hq
 | ret => exact hq
theorem Does.seqCut {P : Program} {k : Nat} {x y : Code} {Q : AX → St → Prop} {st : St} {α : Type} (I : α → St) (φ : α → Prop)
  (h : Does P k x (thenQ (fun st' => ∃ g, φ g ∧ Weaker k st' (I g)) Q) st) (hy : ∀ g, φ g → Does P k y Q (I g)) : Does P k (.seq x y) Q st := by
 refine Does.seq (h.mono ?_)
 intro e st' hq
 cases e with
 | normal =>
  obtain ⟨g, k1, k2⟩ := hq
  exact Does.weaker k2 (hy g k1)
 | exit id => exact hq
 | ret => exact hq
def firstReg : Code → Nat
 | .region id _ _ => id
 | .seq a _ => firstReg a
 | .cond _ a _ => firstReg a
 | .block _ a => firstReg a
 | .loop a => firstReg a
 | _ => 1000000
def lastCut : Code → Option Nat
 | .region id _ _ => some (200000 + id)
 | .cond _ x _ => some (firstReg x)
 | .block _ x => some (firstReg x)
 | .seq _ y => lastCut y
 | _ => none
def wpc (P : Program) (k : Nat) (T : Types) (M : FuncId → List Mode) (PL : Nat → Bool × Plan) (CU : Nat → Bool) : Code → (AX → St → Prop) → St → Prop
 | .skip, Q, st => Q .normal st
 | .region id ops draw, Q, st => cond (CU (100000 + id)) (Does P k (.region id ops draw) Q st) (match draw with
  | false => opsP P T M ops ops.toList st (Q .normal)
  | true => match PL id with
   | (x, p) => planFits T x ops p = true ∧ planP P T M x ops p st (Q .normal))
 | .seq a b, Q, st => match lastCut a with
  | some r => cond (CU r) (Does P k (.seq a b) Q st) (wpc P k T M PL CU a (thenQ (wpc P k T M PL CU b Q) Q) st)
  | none => wpc P k T M PL CU a (thenQ (wpc P k T M PL CU b Q) Q) st
 | .cond c a b, Q, st => match c with
  | .tmp d => match st.env d with
   | .bool t => ifB t (wpc P k T M PL CU a Q (st.lit d true)) (wpc P k T M PL CU b Q (st.lit d false))
   | .anyb => wpc P k T M PL CU a Q (st.lit d true) ∧ wpc P k T M PL CU b Q (st.lit d false)
   | _ => False
  | .const (.bool false) => wpc P k T M PL CU b Q st
  | .const (.bool true) => wpc P k T M PL CU a Q st
  | _ => False
 | .block id b, Q, st => wpc P k T M PL CU b (blockQ id Q) st
 | .loop b, Q, st => Does P k (.loop b) Q st
 | .exit id, Q, st => Q (.exit id) st
 | .ret, Q, st => cond (CU 99999) (Does P k .ret Q st) (Q .ret st)
 | _, _, _ => False
theorem wpc_sound {P : Program} {k : Nat} {T : Types} (hT : TOK P T) (hm : P.follows .mixedOrders = true) {M : FuncId → List Mode} {PL : Nat → Bool × Plan} {CU : Nat → Bool} : ∀ (c : Code) (Q : AX → St → Prop) (st : St), wpc P k T M PL CU c Q st → Does P k c Q st
 | .skip, Q, st, h => by unfold wpc at h; exact Does.skip h
 | .region id ops draw, Q, st, h => by
  unfold wpc at h
  cases hc : CU (100000 + id) with
  | true => rw [hc] at h; exact h
  | false =>
   rw [hc] at h
   cases draw with
   | false => exact Does.text hT h
   | true => exact Does.draw hT hm h.1 h.2
 | .seq a b, Q, st, h => by
  have go : wpc P k T M PL CU a (thenQ (wpc P k T M PL CU b Q) Q) st → Does P k (.seq a b) Q st := by
   intro h
   refine Does.seq ((wpc_sound hT hm a _ st h).mono ?_)
   intro x st' hq
   cases x with
   | normal => exact wpc_sound hT hm b Q st' hq
   | exit id => exact hq
   | ret => exact hq
  unfold wpc at h
  split at h
  ·rename_i r hr
   cases hc : CU r with
   | true => rw [hc] at h; exact h
   | false => rw [hc] at h; exact go h
  ·exact go h
 | .cond c a b, Q, st, h => by
  unfold wpc at h
  split at h
  ·rename_i d
   refine Does.cond ?_
   split at h
   ·rename_i t he
    exact ⟨fun ht => wpc_sound hT hm a Q _ (h.1 ht), fun ht => wpc_sound hT hm b Q _ (h.2 ht)⟩
   ·rename_i he
    exact ⟨wpc_sound hT hm a Q _ h.1, wpc_sound hT hm b Q _ h.2⟩
   ·exact h.elim
  ·exact fun Z E act S => wp_cond_split (t := false) rfl (fun hb => by cases hb) (fun _ => wpc_sound hT hm b Q st h Z E act S)
  ·exact fun Z E act S => wp_cond_split (t := true) rfl (fun _ => wpc_sound hT hm a Q st h Z E act S) (fun hb => by cases hb)
  ·exact h.elim
 | .block id b, Q, st, h => by unfold wpc at h; exact Does.block (wpc_sound hT hm b _ st h)
 | .loop b, Q, st, h => by unfold wpc at h; exact h
 | .exit id, Q, st, h => by unfold wpc at h; exact Does.exit h
 | .ret, Q, st, h => by
  unfold wpc at h
  cases hc : CU 99999 with
  | true => rw [hc] at h; exact h
  | false => rw [hc] at h; exact Does.ret h
 | .rangeFunc .., Q, st, h => by simp [wpc] at h
 | .scope .., Q, st, h => by simp [wpc] at h
 | .label .., Q, st, h => by simp [wpc] at h
 | .goto .., Q, st, h => by simp [wpc] at h
 | .refuse .., Q, st, h => by simp [wpc] at h
end
section

def resVarP (T : Types) (st : St) : ResultVar → (AV → Prop) → Prop
 | .tmp t, K => K (st.env t)
 | .cell a t, K => loadP T st.heap t (st.env a) K
def resListP (T : Types) (st : St) : List ResultVar → (List AV → Prop) → Prop
 | [], K => K []
 | r :: rs, K => resVarP T st r fun x => resListP T st rs fun xs => K (x :: xs)
def tupleOf : List AV → AV
 | [x] => x
 | xs => .tuple xs
def resF (tmps : Array Value) : ResultVar → Sem Value
 | .tmp t => pure (tmps.getD t undef)
 | .cell a t => do loadVar t (← asAddr (tmps.getD a undef))
theorem resVarP_sound {P : Program} {T : Types} (hT : TOK P T) {Z : Nat → Prop} {E : Env} {st : St} {a : Act} (S : Sim Z E st a) {r : ResultVar} {K : AV → Prop} (h : resVarP T st r K) :
  ∃ x v, K x ∧ RepV E x v ∧ (resF a.tmps r).run P E.w = .ok v E.w := by
 cases r with
 | tmp t => exact ⟨_, _, h, S.env t, by simp [resF]⟩
 | cell p t =>
  change loadP T st.heap t (st.env p) K at h
  obtain ⟨x, v, b, h1, h2, h3, _⟩ := loadP_at (P := P) hT S.heap (S.env p) h
  refine ⟨x, v, h1, h2, ?_⟩
  have hr := h3 E.w rfl
  have hp : ∃ ad, a.tmps.getD p undef = .pointer (some ad) := by
   have hv := S.env p
   unfold loadP at h
   split at h
   ·rename_i id off he
    rw [he] at hv
    simp only [RepV] at hv
    obtain ⟨n, _, hv⟩ := hv
    exact ⟨_, hv⟩
   ·rename_i cs he
    rw [he] at hv
    simp only [RepV] at hv
    obtain ⟨b, off, hv, _⟩ := hv
    exact ⟨_, hv⟩
   ·exact h.elim
  obtain ⟨ad, hp⟩ := hp
  rw [hp] at hr
  simp only [Instr.loadAt, Instr.sureAddr, Sem.run_bind, Sem.run_pure, Result.andThen_ok] at hr
  simp only [resF, hp, asAddr, Sem.run_bind, Sem.run_pure, Result.andThen_ok]
  exact hr
theorem resListP_sound {P : Program} {T : Types} (hT : TOK P T) {Z : Nat → Prop} {E : Env} {st : St} {a : Act} (S : Sim Z E st a) : ∀ (rs : List ResultVar) {K : List AV → Prop}, resListP T st rs K →
  ∃ xs vs, K xs ∧ RepL E xs vs ∧ (rs.mapM (resF a.tmps)).run P E.w = .ok vs E.w
 | [], K, h => ⟨[], [], h, by simp [RepL], by simp⟩
 | r :: rs, K, h => by
  unfold resListP at h
  obtain ⟨x, v, h1, h2, h3⟩ := resVarP_sound (P := P) hT S h
  obtain ⟨xs, vs, k1, k2, k3⟩ := resListP_sound hT S rs h1
  refine ⟨x :: xs, v :: vs, k1, by simp only [RepL]; exact ⟨v, vs, rfl, h2, k2⟩, ?_⟩
  simp [List.mapM_cons, h3, k3]
theorem results_sound {P : Program} {T : Types} (hT : TOK P T) {Z : Nat → Prop} {E : Env} {st : St} {a : Act} (S : Sim Z E st a) {fn : Func} {K : List AV → Prop} (h : resListP T st fn.results.toList K) :
  ∃ xs v, K xs ∧ RepV E (tupleOf xs) v ∧ (results fn a.tmps).run P E.w = .ok v E.w := by
 obtain ⟨xs, vs, h1, h2, h3⟩ := resListP_sound (P := P) hT S _ h
 have hm : (fn.results.mapM (resF a.tmps)).run P E.w = .ok vs.toArray E.w := by
  have e : fn.results = fn.results.toList.toArray := by simp
  rw [e, List.mapM_toArray]
  simp [h3]
 have hres : (results fn a.tmps).run P E.w = .ok (if h : vs.toArray.size = 1 then vs.toArray[0] else .tuple vs.toArray) E.w := by
  have : results fn a.tmps = (do let vs ← fn.results.mapM (resF a.tmps); Pure.pure (if h : vs.size = 1 then vs[0] else .tuple vs)) := by
   unfold results
   congr 1
  rw [this, Sem.run_bind, hm]
  simp
 refine ⟨xs, _, h1, ?_, hres⟩
 have hlen := repL_length _ _ h2
 match xs, vs, h2, hlen with
 | [], [], h2, _ => simp [tupleOf, RepV, RepL]
 | [x], [v], h2, _ =>
  simp only [RepL] at h2
  obtain ⟨u, us, he, hr, _⟩ := h2
  injection he with he1 he2
  subst he1
  simpa [tupleOf] using hr
 | x :: y :: xs, v :: u :: vs, h2, _ =>
  simp only [tupleOf, RepV]
  refine ⟨(v :: u :: vs).toArray, ?_, by simpa using h2⟩
  rw [dif_neg (by simp)]
def nthA : List AV → Nat → AV
 | [], _ => .top
 | x :: _, 0 => x
 | _ :: xs, t + 1 => nthA xs t
def refAVs : List AV → List AV → List AV
 | y :: ys, x :: xs => cond (isRef y) (x :: refAVs ys xs) (refAVs ys xs)
 | _, _ => []
def ptrsBelow (k : Nat) : List AV → Bool
 | [] => true
 | .ptr id _ :: r => Nat.blt id k && ptrsBelow k r
 | _ => false
def entry (args : List AV) (n : Nat) : St :=
 match matL args (noHeap, 0) with
 | (xs, (H, nx)) => ⟨nthA xs, H, nx, args.length + (n - args.length)⟩
mutual
def demP (H : Heap) (y x : AV) (K : List Nat → Prop) : Prop :=
 match y with
 | .own len esz cs => match x with
  | .nil => (len = 0 ∧ cs = []) ∧ K []
  | .sl id 0 len' esz' full => match H id with
   | some ds => (len' = len ∧ esz' = esz ∧ ds = cs ∧ cs.length = len * esz ∧ pureL cs = true) ∧ K [id]
   | none => False
  | _ => False
 | .ref cs => match x with
  | .ptr id 0 => match H id with
   | some zs => demsP H cs zs fun is => K (is ++ [id])
   | none => False
  | _ => False
 | .agg cs => match x with
  | .agg zs => demsP H cs zs K
  | _ => False
 | .tuple cs => match x with
  | .tuple zs => demsP H cs zs K
  | _ => False
 | .ro len cs => match x with
  | .nil => (len = 0 ∧ cs = []) ∧ K []
  | .ro len' cs' => (len' = len ∧ cs' = cs ∧ pureL cs = true) ∧ K []
  | _ => False
 | .int k n => match x with
  | .int k' n' => (k' = k ∧ n' = n) ∧ K []
  | _ => False
 | .bool b => match x with
  | .bool b' => b' = b ∧ K []
  | _ => False
 | .str s => match x with
  | .str s' => s' = s ∧ K []
  | _ => False
 | .nil => match x with
  | .nil => K []
  | _ => False
 | .nilp => match x with
  | .nilp => K []
  | _ => False
 | .rop cs => (x = .rop cs ∧ pureL cs = true) ∧ K []
 | .hid i => x = .hid i ∧ K []
 | .top => x = .top ∧ K []
 | .anyb => x = .anyb ∧ K []
 | _ => False
def demsP (H : Heap) (ys xs : List AV) (K : List Nat → Prop) : Prop :=
 match ys with
 | [] => match xs with
  | [] => K []
  | _ :: _ => False
 | y :: ys => match xs with
  | [] => False
  | x :: xs => demP H y x fun i => demsP H ys xs fun is => K (i ++ is)
end
mutual
theorem demP_ok {H : Heap} : ∀ (y x : AV) (K : List Nat → Prop), demP H y x K → ∃ ids, Dem H y x ids ∧ K ids
 | .own len esz cs, x, K, h => by
  simp only [demP] at h
  split at h
  ·obtain ⟨⟨rfl, rfl⟩, hk⟩ := h
   exact ⟨[], by simp [Dem, pureL], hk⟩
  ·rename_i id len' esz' full
   split at h
   ·rename_i ds hd
    obtain ⟨⟨rfl, rfl, rfl, hl, hp⟩, hk⟩ := h
    refine ⟨[id], ?_, hk⟩
    simp only [Dem]
    exact ⟨hp, hl, .inr ⟨id, full, rfl, hd, rfl⟩⟩
   ·exact h.elim
  ·exact h.elim
 | .ref cs, x, K, h => by
  simp only [demP] at h
  split at h
  ·rename_i id
   split at h
   ·rename_i zs hz
    obtain ⟨is, h1, h2⟩ := demsP_ok cs zs _ h
    refine ⟨is ++ [id], ?_, h2⟩
    simp only [Dem]
    exact ⟨id, zs, is, rfl, hz, h1, rfl⟩
   ·exact h.elim
  ·exact h.elim
 | .agg cs, x, K, h => by
  simp only [demP] at h
  split at h
  ·rename_i zs
   obtain ⟨is, h1, h2⟩ := demsP_ok cs zs _ h
   exact ⟨is, by simp only [Dem]; exact ⟨zs, rfl, h1⟩, h2⟩
  ·exact h.elim
 | .tuple cs, x, K, h => by
  simp only [demP] at h
  split at h
  ·rename_i zs
   obtain ⟨is, h1, h2⟩ := demsP_ok cs zs _ h
   exact ⟨is, by simp only [Dem]; exact ⟨zs, rfl, h1⟩, h2⟩
  ·exact h.elim
 | .ro len cs, x, K, h => by
  simp only [demP] at h
  split at h
  ·obtain ⟨⟨rfl, rfl⟩, hk⟩ := h
   exact ⟨[], by simp [Dem], hk⟩
  ·obtain ⟨⟨rfl, rfl, hp⟩, hk⟩ := h
   exact ⟨[], by simp [Dem, hp], hk⟩
  ·exact h.elim
 | .int k n, x, K, h => by
  simp only [demP] at h
  split at h
  ·obtain ⟨⟨rfl, rfl⟩, hk⟩ := h
   exact ⟨[], by simp [Dem, pureV], hk⟩
  ·exact h.elim
 | .bool b, x, K, h => by
  simp only [demP] at h
  split at h
  ·obtain ⟨rfl, hk⟩ := h
   exact ⟨[], by simp [Dem, pureV], hk⟩
  ·exact h.elim
 | .str s, x, K, h => by
  simp only [demP] at h
  split at h
  ·obtain ⟨rfl, hk⟩ := h
   exact ⟨[], by simp [Dem, pureV], hk⟩
  ·exact h.elim
 | .nil, x, K, h => by
  simp only [demP] at h
  split at h
  ·exact ⟨[], by simp [Dem, pureV], h⟩
  ·exact h.elim
 | .nilp, x, K, h => by
  simp only [demP] at h
  split at h
  ·exact ⟨[], by simp [Dem, pureV], h⟩
  ·exact h.elim
 | .rop cs, x, K, h => by
  simp only [demP] at h
  obtain ⟨⟨rfl, hp⟩, hk⟩ := h
  exact ⟨[], by simp [Dem, pureV, hp], hk⟩
 | .hid i, x, K, h => by
  simp only [demP] at h
  obtain ⟨rfl, hk⟩ := h
  exact ⟨[], by simp [Dem, pureV], hk⟩
 | .top, x, K, h => by
  simp only [demP] at h
  obtain ⟨rfl, hk⟩ := h
  exact ⟨[], by simp [Dem, pureV], hk⟩
 | .anyb, x, K, h => by
  simp only [demP] at h
  obtain ⟨rfl, hk⟩ := h
  exact ⟨[], by simp [Dem, pureV], hk⟩
 | .sl .., x, K, h => by simp [demP] at h
 | .ptr .., x, K, h => by simp [demP] at h
 | .fn .., x, K, h => by simp [demP] at h
theorem demsP_ok {H : Heap} : ∀ (ys xs : List AV) (K : List Nat → Prop), demsP H ys xs K → ∃ ids, DemL H ys xs ids ∧ K ids
 | [], xs, K, h => by
  simp only [demsP] at h
  split at h
  ·exact ⟨[], by simp [DemL], h⟩
  ·exact h.elim
 | y :: ys, xs, K, h => by
  simp only [demsP] at h
  split at h
  ·exact h.elim
  ·rename_i x xs
   obtain ⟨i, h1, h2⟩ := demP_ok y x _ h
   obtain ⟨is, h3, h4⟩ := demsP_ok ys xs _ h2
   refine ⟨i ++ is, ?_, h4⟩
   simp only [DemL]
   exact ⟨x, xs, i, is, rfl, rfl, h1, h3⟩
end
def exitP (T : Types) (fn : Func) (args : List AV) (r : AV) (outs : List AV) : AX → St → Prop
 | .exit _, _ => False
 | _, ⟨env, H, nx, n⟩ => resListP T ⟨env, H, nx, n⟩ fn.results.toList fun xs => demsP H (outs ++ [r]) (refAVs args (matL args (noHeap, 0)).1 ++ [tupleOf xs]) fun ids => nodupB ids = true
theorem refs_rep {E : Env} : ∀ (ys xs : List AV) (vs : List Value), RepL E xs vs → RepL E (refAVs ys xs) (refVals ys vs)
 | [], xs, vs, h => by cases xs <;> cases vs <;> simp [refAVs, refVals, RepL]
 | y :: ys, [], vs, h => by simp only [RepL] at h; subst h; simp [refAVs, refVals, RepL]
 | y :: ys, x :: xs, vs, h => by
  simp only [RepL] at h
  obtain ⟨u, us, rfl, hu, h⟩ := h
  simp only [refAVs, refVals]
  cases isRef y with
  | true => simp only [cond_true, RepL]; exact ⟨u, _, rfl, hu, refs_rep ys xs us h⟩
  | false => exact refs_rep ys xs us h
theorem ptrs_keep {k : Nat} {E E' : Env} (hk : ∀ id n, id < k → E.ρ id = some n → E'.ρ id = some n) : ∀ (xs : List AV) (vs : List Value), ptrsBelow k xs = true → RepL E xs vs → RepL E' xs vs
 | [], vs, _, h => by simpa [RepL] using h
 | x :: xs, vs, hb, h => by
  unfold ptrsBelow at hb
  split at hb
  ·rename_i e; cases e
  ·rename_i id off r e
   injection e with e1 e2
   subst e1; subst e2
   simp only [Bool.and_eq_true] at hb
   simp only [RepL, RepV] at h ⊢
   obtain ⟨u, us, rfl, ⟨n, hn, rfl⟩, h⟩ := h
   exact ⟨_, _, rfl, ⟨n, hk id n (Nat.le_of_ble_eq_true hb.1) hn, rfl⟩, ptrs_keep hk _ _ hb.2 h⟩
  ·cases hb
theorem nthA_rep {E : Env} : ∀ (xs : List AV) (vs : List Value) (m t : Nat), RepL E xs vs → RepV E (nthA xs t) ((vs.toArray ++ Array.replicate m undef).getD t undef)
 | xs, vs, m, t, h => by
  have key : ∀ (xs : List AV) (vs : List Value) (t : Nat), RepL E xs vs → RepV E (nthA xs t) ((vs ++ List.replicate m undef)[t]?.getD undef) := by
   intro xs
   induction xs with
   | nil => intro vs t h; simp [nthA, RepV]
   | cons x xs ih =>
    intro vs t h
    simp only [RepL] at h
    obtain ⟨u, us, rfl, hu, h⟩ := h
    cases t with
    | zero => simpa [nthA] using hu
    | succ t => simpa [nthA] using ih us t h
  have := key xs vs t h
  rw [Array.getD_eq_getD_getElem?]
  simpa [← Array.getElem?_toList] using this
theorem repL_append {E : Env} : ∀ {xs ys : List AV} {us vs : List Value}, RepL E xs us → RepL E ys vs → RepL E (xs ++ ys) (us ++ vs)
 | [], ys, us, vs, h, k => by simp only [RepL] at h; subst h; exact k
 | x :: xs, ys, us, vs, h, k => by
  simp only [RepL] at h
  obtain ⟨u, us', rfl, hu, h⟩ := h
  simp only [List.cons_append, RepL]
  exact ⟨u, us' ++ vs, rfl, hu, repL_append h k⟩
theorem RepBL_length {E : Env} : ∀ (cs : List AV) (vs : List Value) (X : List Nat), RepBL E cs vs X → cs.length = vs.length
 | [], vs, X, h => by simp only [RepBL] at h; simp [h.1]
 | c :: cs, vs, X, h => by
  simp only [RepBL] at h
  obtain ⟨u, us, Y, Y', rfl, rfl, _, h2⟩ := h
  simp [RepBL_length cs us Y' h2]
theorem ACall.of_does {P : Program} {T : Types} (hT : TOK P T) {f : FuncId} {fn : Func} {c : Code} (hf : P.funcs[f]? = some fn) (hb : fn.body = some c) (he : Enters P f) {args : List AV} {r : AV} {outs : List AV}
  (hp : ptrsBelow (matL args (noHeap, 0)).2.2 (refAVs args (matL args (noHeap, 0)).1) = true)
  (h : Does P (matL args (noHeap, 0)).2.2 c (exitP T fn args r outs) (entry args fn.ntmps)) : ACall P f args r outs := by
 refine ⟨he, fun Z E vals X h0 hargs hX hXZ => ?_⟩
 refine calls_of_wp hf hb ?_
 obtain ⟨E0, t0, r0⟩ := matL_ok args vals X _ E noHeap 0 h0 hargs hX (fun b hb => .inr hb)
 have hZ : HeapRep Z E0 (matL args (noHeap, 0)).2.1 (matL args (noHeap, 0)).2.2 := t0.heap.congrZ fun b => by
  constructor
  ·rintro ⟨hz | hx, hn⟩
   ·exact hz
   ·exact absurd hx hn
  ·exact fun hz => ⟨.inl hz, fun hx => hXZ b hx hz⟩
 have hlen : args.length = vals.length := by
  have := RepBL_length args vals X hargs
  exact this
 have S : Sim Z E0 (entry args fn.ntmps) { tmps := vals.toArray ++ Array.replicate (fn.ntmps - vals.toArray.size) undef, defers := [] } :=
  ⟨fun t => nthA_rep _ _ _ t r0, by simp [entry, hlen], rfl, hZ⟩
 have hw := h Z E0 _ S
 rw [t0.mem.w] at hw
 refine wp_mono hw ?_
 rintro e a' w' ⟨x, st', E', rfl, hq, S', rfl, fl⟩
 have key : ∀ (hq : resListP T st' fn.results.toList fun xs => demsP st'.heap (outs ++ [r]) (refAVs args (matL args (noHeap, 0)).1 ++ [tupleOf xs]) fun ids => nodupB ids = true),
   a'.defers = [] ∧ ∃ v, (results fn a'.tmps).run P E'.w = .ok v E'.w ∧ ∃ v' E1 Xr, Ending.returned v = .returned v' ∧ E1.w = E'.w ∧ E1.η = E.η ∧ Evo (· ∈ X) E.w E'.w ∧ (∀ b, E1.V b ↔ Z b ∨ b ∈ Xr) ∧
   RepBL E1 (outs ++ [r]) (refVals args vals ++ [v']) Xr ∧ Xr.Nodup ∧ ∀ b ∈ Xr, ¬ Z b ∧ (b < E.w.heap.size → b ∈ X) ∧ b < E'.w.heap.size := by
  intro hq
  obtain ⟨xs, v, hdem, hv, hr⟩ := results_sound (P := P) hT S' hq
  obtain ⟨ids, hd, hnd⟩ := demsP_ok _ _ _ hdem
  refine ⟨S'.dfr, v, hr, v, { E' with V := fun b => Z b ∨ b ∈ ids.filterMap E'.ρ }, ids.filterMap E'.ρ, rfl, rfl, fl.η.trans t0.mem.η, ?_, fun b => Iff.rfl, ?_, ?_, ?_⟩
  ·have := fl.evo
   rw [t0.mem.w] at this
   refine this.mono fun b hb => ?_
   have hbV : E0.V b := (hZ.V b).2 (.inr hb)
   have : E.V b := t0.V b hbV
   rcases (h0.V b).1 this with (hz | hx) | ⟨id, cs, h1, _⟩
   ·obtain ⟨id, cs, h1, h2⟩ := hb
    exact absurd hz (hZ.apart id b (fun hh => by have h1' : (matL args (noHeap, 0)).2.1 id = some cs := h1; rw [hh] at h1'; cases h1') h2)
   ·exact hx
   ·cases h1
  ·have hrefs : RepL E' (refAVs args (matL args (noHeap, 0)).1) (refVals args vals) := ptrs_keep fl.keep _ _ hp (refs_rep args _ vals r0)
   have hall : RepL E' (refAVs args (matL args (noHeap, 0)).1 ++ [tupleOf xs]) (refVals args vals ++ [v]) := repL_append hrefs (by simp only [RepL]; exact ⟨v, [], rfl, hv, rfl⟩)
   have hout := DemL_ok S'.heap (outs ++ [r]) _ _ ids hall hd
   refine RepBL.mono (E := E') (E' := { E' with V := fun b => Z b ∨ b ∈ ids.filterMap E'.ρ }) ⟨rfl, rfl⟩ (fun b hb => ?_) _ _ _ hout
   rcases hb with hz | hm
   ·exact (S'.heap.V b).2 (.inl hz)
   ·obtain ⟨i, hi, hn⟩ := List.mem_filterMap.1 hm
    have := DemL_mem _ _ _ hd i hi
    cases hh : st'.heap i with
    | none => exact absurd hh this
    | some cs => exact (S'.heap.V b).2 (.inr ⟨i, cs, hh, hn⟩)
  ·exact (remH_ok ids Z st'.heap S'.heap (nodupB_ok hnd) (DemL_mem _ _ _ hd)).2.1
  ·intro b hb
   obtain ⟨i, hi, hn⟩ := List.mem_filterMap.1 hb
   have hne := DemL_mem _ _ _ hd i hi
   refine ⟨S'.heap.apart i b hne hn, fun hlt => ?_, S'.heap.old i b hn⟩
   have hwr : Wr E0.ρ (entry args fn.ntmps).heap b := fl.back b (by rw [t0.mem.w]; exact hlt) (by
    cases hh : st'.heap i with
    | none => exact absurd hh hne
    | some cs => exact ⟨i, cs, hh, hn⟩)
   have : E.V b := t0.V b ((hZ.V b).2 (.inr hwr))
   rcases (h0.V b).1 this with (hz | hx) | ⟨id, cs, h1, _⟩
   ·exact absurd hz (S'.heap.apart i b hne hn)
   ·exact hx
   ·cases h1
 cases x with
 | normal => exact key hq
 | exit id => exact hq.elim
 | ret => exact key hq
end
section

def envL : List (Nat × AV) → Nat → AV
 | [], _ => .top
 | (d, x) :: r, t => cond (Nat.beq t d) x (envL r t)
def heapL : List (Nat × List AV) → Heap
 | [], _ => none
 | (d, x) :: r, t => cond (Nat.beq t d) (some x) (heapL r t)
def mkSt (env : List (Nat × AV)) (heap : List (Nat × List AV)) (nx n : Nat) : St := ⟨envL env, heapL heap, nx, n⟩
def findR : List (Nat × Nat) → Nat → Option Nat
 | [], _ => none
 | (d, x) :: r, t => cond (Nat.beq t d) (some x) (findR r t)
def oldOf (k : Nat) (g : List (Nat × Nat)) (i : Nat) : Option Nat := cond (Nat.blt i k) (some i) (findR g i)
mutual
def leP (o : Nat → Option Nat) (y x : AV) : Prop :=
 match y with
 | .top => True
 | .anyb => match x with
  | .bool _ => True
  | .anyb => True
  | _ => False
 | .int k n => match x with
  | .int k' n' => k' = k ∧ n' = n
  | _ => False
 | .bool b => match x with
  | .bool b' => b' = b
  | _ => False
 | .str s => match x with
  | .str s' => s' = s
  | _ => False
 | .agg ys => match x with
  | .agg xs => lesP o ys xs
  | _ => False
 | .tuple ys => match x with
  | .tuple xs => lesP o ys xs
  | _ => False
 | .nil => match x with
  | .nil => True
  | _ => False
 | .ro len cs => match x with
  | .nil => len = 0 ∧ cs = []
  | .ro len' cs' => len' = len ∧ cs' = cs ∧ pureL cs = true
  | _ => False
 | .fn f cs => match x with
  | .fn f' cs' => f' = f ∧ cs' = [] ∧ cs = []
  | _ => False
 | .sl id off len esz full => match x with
  | .nil => len = 0
  | .sl id' off' len' esz' full' => o id = some id' ∧ off' = off ∧ len' = len ∧ esz' = esz ∧ (full = true → full' = true)
  | _ => False
 | .ptr id off => match x with
  | .ptr id' off' => o id = some id' ∧ off' = off
  | _ => False
 | .rop cs => match x with
  | .rop cs' => cs' = cs ∧ pureL cs = true
  | _ => False
 | .nilp => match x with
  | .nilp => True
  | _ => False
 | .hid i => match x with
  | .hid j => j = i
  | _ => False
 | _ => False
def lesP (o : Nat → Option Nat) (ys xs : List AV) : Prop :=
 match ys with
 | [] => match xs with
  | [] => True
  | _ :: _ => False
 | y :: ys => match xs with
  | [] => False
  | x :: xs => leP o y x ∧ lesP o ys xs
end
mutual
theorem leP_ok {o : Nat → Option Nat} {E E' : Env} (hm : SameMem E E') (hV : ∀ b, E'.V b → E.V b) (hρ : ∀ i j n, o i = some j → E.ρ j = some n → E'.ρ i = some n) :
  ∀ (y x : AV) (v : Value), leP o y x → RepV E x v → RepV E' y v
 | .top, x, v, h, hr => by simp [RepV]
 | .anyb, x, v, h, hr => by
  simp only [leP] at h
  split at h
  ·simp only [RepV] at hr ⊢; exact ⟨_, hr⟩
  ·simpa [RepV] using hr
  ·exact h.elim
 | .int k n, x, v, h, hr => by
  simp only [leP] at h
  split at h
  ·obtain ⟨rfl, rfl⟩ := h; simpa [RepV] using hr
  ·exact h.elim
 | .bool b, x, v, h, hr => by
  simp only [leP] at h
  split at h
  ·subst h; simpa [RepV] using hr
  ·exact h.elim
 | .str s, x, v, h, hr => by
  simp only [leP] at h
  split at h
  ·subst h; simpa [RepV] using hr
  ·exact h.elim
 | .agg ys, x, v, h, hr => by
  simp only [leP] at h
  split at h
  ·simp only [RepV] at hr ⊢
   obtain ⟨vs, rfl, hl⟩ := hr
   exact ⟨vs, rfl, lesP_ok hm hV hρ ys _ _ h hl⟩
  ·exact h.elim
 | .tuple ys, x, v, h, hr => by
  simp only [leP] at h
  split at h
  ·simp only [RepV] at hr ⊢
   obtain ⟨vs, rfl, hl⟩ := hr
   exact ⟨vs, rfl, lesP_ok hm hV hρ ys _ _ h hl⟩
  ·exact h.elim
 | .nil, x, v, h, hr => by
  simp only [leP] at h
  split at h
  ·simpa [RepV] using hr
  ·exact h.elim
 | .ro len cs, x, v, h, hr => by
  simp only [leP] at h
  split at h
  ·obtain ⟨rfl, rfl⟩ := h
   simp only [RepV] at hr ⊢
   exact ⟨none, 0, hr, Nat.le_refl _, .inl trivial⟩
  ·obtain ⟨rfl, rfl, hp⟩ := h
   exact pureV_rep hm hV _ _ (by simpa [pureV] using hp) hr
  ·exact h.elim
 | .sl id off len esz full, x, v, h, hr => by
  simp only [leP] at h
  split at h
  ·subst h
   simp only [RepV] at hr ⊢
   exact ⟨none, 0, hr, Nat.le_refl _, fun _ => rfl, .inl rfl⟩
  ·rename_i id' off' len' esz' full'
   obtain ⟨hi, rfl, rfl, rfl, hf⟩ := h
   simp only [RepV] at hr ⊢
   obtain ⟨a, cap, rfl, hl, hfull, hc⟩ := hr
   refine ⟨a, cap, rfl, hl, fun hh => hfull (hf hh), hc.imp (fun x => x) ?_⟩
   rintro ⟨n, c, e, fr, hn, rfl, hh, hs⟩
   exact ⟨n, c, e, fr, hρ _ _ _ hi hn, rfl, by rw [hm.w]; exact hh, hs⟩
  ·exact h.elim
 | .ptr id off, x, v, h, hr => by
  simp only [leP] at h
  split at h
  ·obtain ⟨hi, rfl⟩ := h
   simp only [RepV] at hr ⊢
   obtain ⟨n, hn, rfl⟩ := hr
   exact ⟨n, hρ _ _ _ hi hn, rfl⟩
  ·exact h.elim
 | .rop cs, x, v, h, hr => by
  simp only [leP] at h
  split at h
  ·obtain ⟨rfl, hp⟩ := h
   exact pureV_rep hm hV _ _ (by simpa [pureV] using hp) hr
  ·exact h.elim
 | .nilp, x, v, h, hr => by
  simp only [leP] at h
  split at h
  ·simpa [RepV] using hr
  ·exact h.elim
 | .hid i, x, v, h, hr => by
  simp only [leP] at h
  split at h
  ·subst h; simp only [RepV] at hr ⊢; rw [hm.η]; exact hr
  ·exact h.elim
 | .own .., x, v, h, hr => by simp [leP] at h
 | .ref .., x, v, h, hr => by simp [leP] at h
 | .fn f cs, x, v, h, hr => by
  simp only [leP] at h
  split at h
  ·obtain ⟨rfl, rfl, rfl⟩ := h
   simpa [RepV, RepL] using hr
  ·exact h.elim
theorem lesP_ok {o : Nat → Option Nat} {E E' : Env} (hm : SameMem E E') (hV : ∀ b, E'.V b → E.V b) (hρ : ∀ i j n, o i = some j → E.ρ j = some n → E'.ρ i = some n) :
  ∀ (ys xs : List AV) (vs : List Value), lesP o ys xs → RepL E xs vs → RepL E' ys vs
 | [], xs, vs, h, hr => by
  simp only [lesP] at h
  split at h
  ·simpa [RepL] using hr
  ·exact h.elim
 | y :: ys, xs, vs, h, hr => by
  simp only [lesP] at h
  split at h
  ·exact h.elim
  ·simp only [RepL] at hr ⊢
   obtain ⟨u, us, rfl, hu, hr⟩ := hr
   exact ⟨u, us, rfl, leP_ok hm hV hρ y _ u h.1 hu, lesP_ok hm hV hρ ys _ us h.2 hr⟩
end
theorem lesP_length {o : Nat → Option Nat} : ∀ (ys xs : List AV), lesP o ys xs → ys.length = xs.length
 | [], xs, h => by
  simp only [lesP] at h
  split at h
  ·rfl
  ·exact h.elim
 | y :: ys, xs, h => by
  simp only [lesP] at h
  split at h
  ·exact h.elim
  ·simp [lesP_length ys _ h.2]
theorem lesP_get {o : Nat → Option Nat} : ∀ (ys xs : List AV), lesP o ys xs → ∀ (j : Nat) y, ys[j]? = some y → ∃ x, xs[j]? = some x ∧ leP o y x
 | [], xs, h, j, y, hy => by simp at hy
 | y0 :: ys, xs, h, j, y, hy => by
  simp only [lesP] at h
  split at h
  ·exact h.elim
  ·cases j with
   | zero => simp at hy; subst hy; exact ⟨_, rfl, h.1⟩
   | succ j => simpa using lesP_get ys _ h.2 j y (by simpa using hy)
def envLe (o : Nat → Option Nat) (env : Nat → AV) : List (Nat × AV) → Prop
 | [] => True
 | (t, y) :: r => leP o y (env t) ∧ envLe o env r
def heapLe (o : Nat → Option Nat) (H : Heap) : List (Nat × List AV) → Prop
 | [] => True
 | (i, ys) :: r => (match o i with
  | some j => match H j with
   | some xs => lesP o ys xs
   | none => False
  | none => ys = []) ∧ heapLe o H r
theorem envLe_ok {o : Nat → Option Nat} {env : Nat → AV} : ∀ {l : List (Nat × AV)}, envLe o env l → ∀ t, leP o (envL l t) (env t)
 | [], _, t => by simp [envL, leP]
 | (d, y) :: r, h, t => by
  simp only [envL]
  cases hb : Nat.beq t d with
  | true => rw [Nat.eq_of_beq_eq_true hb]; exact h.1
  | false => exact envLe_ok h.2 t
theorem heapLe_ok {o : Nat → Option Nat} {H : Heap} : ∀ {l : List (Nat × List AV)}, heapLe o H l → ∀ i ys, heapL l i = some ys → (∃ j xs, o i = some j ∧ H j = some xs ∧ lesP o ys xs) ∨ (o i = none ∧ ys = [])
 | [], _, i, ys, hi => by simp [heapL] at hi
 | (d, y) :: r, h, i, ys, hi => by
  simp only [heapL] at hi
  cases hb : Nat.beq i d with
  | true =>
   rw [hb] at hi
   injection hi with hi
   subst hi
   rw [Nat.eq_of_beq_eq_true hb]
   have h1 := h.1
   split at h1
   ·rename_i j hj
    split at h1
    ·rename_i xs hx
     exact .inl ⟨j, xs, hj, hx, h1⟩
    ·exact h1.elim
   ·rename_i hj
    exact .inr ⟨hj, h1⟩
  | false => rw [hb] at hi; exact heapLe_ok h.2 i ys hi
theorem heapL_mem : ∀ {l : List (Nat × List AV)} {i : Nat} {ys : List AV}, heapL l i = some ys → i ∈ l.map (·.1)
 | [], i, ys, h => by simp [heapL] at h
 | (d, y) :: r, i, ys, h => by
  simp only [heapL] at h
  cases hb : Nat.beq i d with
  | true => rw [Nat.eq_of_beq_eq_true hb]; simp
  | false => rw [hb] at h; simp [heapL_mem h]
def renOk (k : Nat) (g : List (Nat × Nat)) (heap : List (Nat × List AV)) (nx : Nat) : Bool :=
 Nat.ble k nx && (g.all fun p => Nat.blt p.1 nx) && (heap.all fun p => Nat.blt p.1 nx) && nodupB ((heap.map (·.1)).filterMap (oldOf k g)) && nodupB (heap.map (·.1))
theorem findR_mem : ∀ {g : List (Nat × Nat)} {i j : Nat}, findR g i = some j → ∃ p ∈ g, p.1 = i
 | [], i, j, h => by simp [findR] at h
 | (d, x) :: r, i, j, h => by
  simp only [findR] at h
  cases hb : Nat.beq i d with
  | true => exact ⟨(d, x), by simp, (Nat.eq_of_beq_eq_true hb).symm⟩
  | false =>
   rw [hb] at h
   obtain ⟨p, hp, he⟩ := findR_mem h
   exact ⟨p, by simp [hp], he⟩
theorem filterMap_inj {o : Nat → Option Nat} : ∀ {l : List Nat}, (l.filterMap o).Nodup → ∀ i ∈ l, ∀ i' ∈ l, ∀ j, o i = some j → o i' = some j → l.Nodup → i = i'
 | [], _, i, hi, _, _, _, _, _, _ => by simp at hi
 | x :: l, hnd, i, hi, i', hi', j, h1, h2, hl => by
  have hx : ∀ y ∈ l, ∀ j, o x = some j → o y = some j → False := by
   intro y hy j k1 k2
   rw [List.filterMap_cons, k1] at hnd
   exact (List.nodup_cons.1 hnd).1 (List.mem_filterMap.2 ⟨y, hy, k2⟩)
  have hnd' : (l.filterMap o).Nodup := by
   rw [List.filterMap_cons] at hnd
   cases ho : o x with
   | none => rw [ho] at hnd; exact hnd
   | some y => rw [ho] at hnd; exact (List.nodup_cons.1 hnd).2
  rcases List.mem_cons.1 hi with rfl | hi <;> rcases List.mem_cons.1 hi' with rfl | hi'
  ·rfl
  ·exact (hx _ hi' j h1 h2).elim
  ·exact (hx _ (by assumption) j h2 h1).elim
  ·exact filterMap_inj hnd' i hi i' hi' j h1 h2 (List.nodup_cons.1 hl).2
theorem weaker_of {k : Nat} {st : St} {env : List (Nat × AV)} {heap : List (Nat × List AV)} {nx n : Nat} (g : List (Nat × Nat)) (hn : st.n = n) (hg : renOk k g heap nx = true)
  (he : envLe (oldOf k g) st.env env) (hh : heapLe (oldOf k g) st.heap heap) : Weaker k st (mkSt env heap nx n) := by
 intro Z E a S
 simp only [renOk, Bool.and_eq_true, List.all_eq_true] at hg
 obtain ⟨⟨⟨⟨g1, g2⟩, g3⟩, g4⟩, g5⟩ := hg
 have hkn : k ≤ nx := Nat.le_of_ble_eq_true g1
 let ρ' : Nat → Option Nat := fun i => (oldOf k g i).bind E.ρ
 let E' : Env := { E with ρ := ρ', V := fun b => Z b ∨ Wr ρ' (heapL heap) b }
 have hm : SameMem E E' := ⟨rfl, rfl⟩
 have hwr : ∀ b, Wr ρ' (heapL heap) b → Wr E.ρ st.heap b := by
  rintro b ⟨i, ys, h1, h2⟩
  rcases heapLe_ok hh i ys h1 with ⟨j, xs, k1, k2, _⟩ | ⟨k1, _⟩
  ·simp only [ρ', k1, Option.bind_some] at h2
   exact ⟨j, xs, k2, h2⟩
  ·simp only [ρ', k1, Option.bind_none] at h2
   cases h2
 have hV : ∀ b, E'.V b → E.V b := by
  rintro b (hz | hw)
  ·exact (S.heap.V b).2 (.inl hz)
  ·exact (S.heap.V b).2 (.inr (hwr b hw))
 have hρ : ∀ i j n, oldOf k g i = some j → E.ρ j = some n → E'.ρ i = some n := by
  intro i j n h1 h2
  show (oldOf k g i).bind E.ρ = some n
  rw [h1]; exact h2
 refine ⟨E', ⟨fun t => leP_ok hm hV hρ _ _ _ (envLe_ok he t) (S.env t), S.sz.trans hn, S.dfr, ?_⟩, rfl, ⟨rfl, Evo.refl _ _, fun b _ hb => hwr b hb, fun id m hid hρm => ?_⟩⟩
 ·refine ⟨fun i ys hi => ?_, fun i i' m h1 h2 h3 h4 => ?_, fun b => Iff.rfl, fun i m h1 h2 => ?_, fun i hi => ⟨?_, ?_⟩, S.heap.one, fun i m hi => ?_, S.heap.zold, S.heap.tab.same rfl hV⟩
  ·rcases heapLe_ok hh i ys hi with ⟨j, xs, k1, k2, k3⟩ | ⟨k1, k2⟩
   ·rcases S.heap.blk j xs k2 with ⟨b1, rfl⟩ | ⟨m, b1, c, e, fr, b2, b3, b4, b5⟩
    ·left
     refine ⟨by show (oldOf k g i).bind E.ρ = none; rw [k1]; exact b1, ?_⟩
     exact List.length_eq_zero_iff.1 (by rw [lesP_length _ _ k3]; rfl)
    ·right
     refine ⟨m, hρ i j m k1 b1, c, e, fr, b2, b3, by rw [lesP_length _ _ k3]; exact b4, fun q y hy => ?_⟩
     obtain ⟨x, hx, hle⟩ := lesP_get _ _ k3 q y hy
     obtain ⟨u, hu, hr⟩ := b5 q x hx
     exact ⟨u, hu, leP_ok hm hV hρ _ _ _ hle hr⟩
   ·left
    exact ⟨by show (oldOf k g i).bind E.ρ = none; rw [k1]; rfl, k2⟩
  ·have ex : ∀ i m, (heapL heap i ≠ none) → E'.ρ i = some m → ∃ j, oldOf k g i = some j ∧ st.heap j ≠ none ∧ E.ρ j = some m := by
    intro i m hi hr
    cases hq : heapL heap i with
    | none => exact absurd hq hi
    | some ys =>
     rcases heapLe_ok hh i ys hq with ⟨j, xs, k1, k2, k3⟩ | ⟨k1, k2⟩
     ·have hr' : (oldOf k g i).bind E.ρ = some m := hr
      rw [k1] at hr'
      exact ⟨j, k1, by rw [k2]; simp, hr'⟩
     ·have hr' : (oldOf k g i).bind E.ρ = some m := hr
      rw [k1] at hr'
      cases hr'
   obtain ⟨j, q1, q2, q3⟩ := ex i m h1 h3
   obtain ⟨j', q1', q2', q3'⟩ := ex i' m h2 h4
   obtain rfl : j = j' := S.heap.inj j j' m q2 q2' q3 q3'
   have mem : ∀ i, heapL heap i ≠ none → i ∈ heap.map (·.1) := by
    intro i hi
    cases hq : heapL heap i with
    | none => exact absurd hq hi
    | some ys => exact heapL_mem hq
   exact filterMap_inj (nodupB_ok g4) i (mem i h1) i' (mem i' h2) j q1 q1' (nodupB_ok g5)
  ·intro hz
   cases hq : heapL heap i with
   | none => exact absurd hq h1
   | some ys =>
    rcases heapLe_ok hh i ys hq with ⟨j, xs, k1, k2, k3⟩ | ⟨k1, k2⟩
    ·have hr' : (oldOf k g i).bind E.ρ = some m := h2
     rw [k1] at hr'
     exact S.heap.apart j m (by rw [k2]; simp) hr' hz
    ·have hr' : (oldOf k g i).bind E.ρ = some m := h2
     rw [k1] at hr'
     cases hr'
  ·show (oldOf k g i).bind E.ρ = none
   have hb : Nat.blt i k = false := by
    cases hb : Nat.blt i k with
    | false => rfl
    | true => have : i < k := Nat.le_of_ble_eq_true hb; have hi' : nx ≤ i := hi; omega
   cases hf : findR g i with
   | none => simp [oldOf, hb, hf]
   | some j =>
    obtain ⟨p, hp, he⟩ := findR_mem hf
    have : p.1 < nx := Nat.le_of_ble_eq_true (g2 p hp)
    have hi' : nx ≤ i := hi
    omega
  ·show heapL heap i = none
   cases hq : heapL heap i with
   | none => rfl
   | some ys =>
    obtain ⟨p, hp, he⟩ := List.mem_map.1 (heapL_mem hq)
    have : p.1 < nx := Nat.le_of_ble_eq_true (g3 p hp)
    have hi' : nx ≤ i := hi
    omega
  ·have hr' : (oldOf k g i).bind E.ρ = some m := hi
   cases ho : oldOf k g i with
   | none => rw [ho] at hr'; cases hr'
   | some j => rw [ho] at hr'; exact S.heap.old j m hr'
 ·have hb : Nat.blt id k = true := by
   simp [Nat.blt]; omega
  exact hρ id id m (by simp [oldOf, hb]) hρm
end
section

def bys (l : List Int) : List AV := l.map (AV.int .u8)
def ints (l : List Int) : List AV := l.map (AV.int .i64)
theorem pureL_map (k : IntKind) (l : List Int) : pureL (l.map (AV.int k)) = true := by
 induction l with
 | nil => rfl
 | cons x l ih => simp [pureL, pureV] at ih ⊢; exact ih
theorem pureL_bys (l : List Int) : pureL (bys l) = true := pureL_map _ l
theorem pureL_ints (l : List Int) : pureL (ints l) = true := pureL_map _ l
theorem noRoL_map (k : IntKind) (l : List Int) : noRoL (l.map (AV.int k)) = true := by
 induction l with
 | nil => rfl
 | cons x l ih => simp [noRoL, noRoV] at ih ⊢; exact ih
theorem noRoL_bys (l : List Int) : noRoL (bys l) = true := noRoL_map _ l
@[simp] theorem bys_length (l : List Int) : (bys l).length = l.length := by simp [bys]
@[simp] theorem ints_length (l : List Int) : (ints l).length = l.length := by simp [ints]
theorem ones_bys (l : List Int) : (bys l).all AV.one = true := by simp [bys, AV.one]
theorem ones_ints (l : List Int) : (ints l).all AV.one = true := by simp [ints, AV.one]
theorem bys_append (a b : List Int) : bys a ++ bys b = bys (a ++ b) := by simp [bys]
theorem bys_snoc (a : List Int) (x : Int) : bys a ++ [.int .u8 x] = bys (a ++ [x]) := by simp [bys]
theorem bys_take (a : List Int) (n : Nat) : (bys a).take n = bys (a.take n) := by simp [bys]
theorem bys_drop (a : List Int) (n : Nat) : (bys a).drop n = bys (a.drop n) := by simp [bys]
theorem bys_nil {l : List Int} (h : bys l = []) : l = [] := by
 cases l with
 | nil => rfl
 | cons x l => simp [bys] at h
theorem lesP_map (o : Nat → Option Nat) (k : IntKind) (l : List Int) : lesP o (l.map (AV.int k)) (l.map (AV.int k)) := by
 induction l with
 | nil => simp [lesP]
 | cons x l ih => simp only [List.map_cons, lesP, leP]; exact ⟨⟨trivial, trivial⟩, ih⟩
theorem lesP_bys {o : Nat → Option Nat} {l : List Int} {xs : List AV} (h : xs = bys l) : lesP o (bys l) xs := by
 subst h; exact lesP_map _ _ _
theorem wrap_u8 (n : Int) : IntKind.u8.wrap n = n % 256 := by simp [IntKind.wrap, IntKind.bits, IntKind.signed]
theorem wrap_u64 (n : Int) : IntKind.u64.wrap n = n % 18446744073709551616 := by simp [IntKind.wrap, IntKind.bits, IntKind.signed]
theorem wrap_u32 (n : Int) : IntKind.u32.wrap n = n % 4294967296 := by simp [IntKind.wrap, IntKind.bits, IntKind.signed]
def noCut : Nat → Bool := fun _ => false
def cutAt (l : List Nat) : Nat → Bool := fun i => l.any (Nat.beq i)
def takes : List Nat → Plan
 | [] => .done
 | i :: r => .take i (takes r)
def plans : List (Nat × (Bool × Plan)) → Nat → Bool × Plan
 | [], _ => (true, .done)
 | (f, m) :: r, g => cond (Nat.beq g f) m (plans r g)
def modes : List (Nat × List Mode) → FuncId → List Mode
 | [], _ => []
 | (f, m) :: r, g => cond (Nat.beq g f) m (modes r g)
theorem ifB_pos {b : Bool} {A B : Prop} (hb : b = true) (h : A) : ifB b A B := by subst hb; exact ifB_t h
theorem ifB_neg {b : Bool} {A B : Prop} (hb : b = false) (h : B) : ifB b A B := by subst hb; exact ifB_f h
theorem get_bys {l : List Int} {c : Nat} (h : c < l.length) : ((bys l).drop c)[0]? = some (.int .u8 l[c]) := by
 simp [bys, h]
theorem setN_bys (l : List Int) (c : Nat) (x : Int) (h : c < l.length) : setN (bys l) c [.int .u8 x] = bys (l.set c x) := by
 simp [setN, bys, List.map_set]
def Byt (l : List Int) : Prop := ∀ x ∈ l, 0 ≤ x ∧ x < 256
end
section
def tyList : List (Nat × TI) := [
 (0, ⟨.other, 1, 0, .top, []⟩),
 (2, ⟨.int .i64, 1, 8, .int .i64 0, []⟩),
 (3, ⟨.int .i64, 1, 8, .int .i64 0, []⟩),
 (4, ⟨.bool, 1, 1, .bool false, []⟩),
 (5, ⟨.int .u8, 1, 1, .int .u8 0, []⟩),
 (6, ⟨.int .u8, 1, 1, .int .u8 0, []⟩),
 (7, ⟨.struct [(0, 2), (1, 3), (2, 4), (3, 6)], 4, 24, .agg ([.int .i64 0, .int .i64 0, .bool false, .int .u8 0]), [⟨0, 1, [.int .i64 0]⟩, ⟨1, 1, [.int .i64 0]⟩, ⟨2, 1, [.bool false]⟩, ⟨3, 1, [.int .u8 0]⟩]⟩),
 (8, ⟨.struct [(0, 2), (1, 3), (2, 4), (3, 6)], 4, 24, .agg ([.int .i64 0, .int .i64 0, .bool false, .int .u8 0]), [⟨0, 1, [.int .i64 0]⟩, ⟨1, 1, [.int .i64 0]⟩, ⟨2, 1, [.bool false]⟩, ⟨3, 1, [.int .u8 0]⟩]⟩),
 (9, ⟨.str, 1, 16, .str [], []⟩),
 (10, ⟨.str, 1, 16, .str [], []⟩),
 (11, ⟨.str, 1, 16, .str [], []⟩),
 (12, ⟨.int .u64, 1, 8, .int .u64 0, []⟩),
 (13, ⟨.struct [(0, 9), (1, 12)], 2, 24, .agg ([.str [], .int .u64 0]), [⟨0, 1, [.str []]⟩, ⟨1, 1, [.int .u64 0]⟩]⟩),
 (14, ⟨.struct [(0, 9), (1, 12)], 2, 24, .agg ([.str [], .int .u64 0]), [⟨0, 1, [.str []]⟩, ⟨1, 1, [.int .u64 0]⟩]⟩),
 (15, ⟨.ptr 220, 1, 8, .nilp, []⟩),
 (16, ⟨.ptr 223, 1, 8, .nilp, []⟩),
 (17, ⟨.ptr 231, 1, 8, .nilp, []⟩),
 (18, ⟨.struct [(0, 17)], 1, 8, .agg ([.nilp]), [⟨0, 1, [.nilp]⟩]⟩),
 (19, ⟨.struct [(0, 17)], 1, 8, .agg ([.nilp]), [⟨0, 1, [.nilp]⟩]⟩),
 (20, ⟨.other, 1, 16, .top, []⟩),
 (21, ⟨.int .i32, 1, 4, .int .i32 0, []⟩),
 (22, ⟨.arr 32 5, 32, 32, .agg (List.replicate 32 (.int .u8 0)), [⟨0, 1, [.int .u8 0]⟩, ⟨1, 1, [.int .u8 0]⟩, ⟨2, 1, [.int .u8 0]⟩, ⟨3, 1, [.int .u8 0]⟩, ⟨4, 1, [.int .u8 0]⟩, ⟨5, 1, [.int .u8 0]⟩, ⟨6, 1, [.int .u8 0]⟩, ⟨7, 1, [.int .u8 0]⟩, ⟨8, 1, [.int .u8 0]⟩, ⟨9, 1, [.int .u8 0]⟩, ⟨10, 1, [.int .u8 0]⟩, ⟨11, 1, [.int .u8 0]⟩, ⟨12, 1, [.int .u8 0]⟩, ⟨13, 1, [.int .u8 0]⟩, ⟨14, 1, [.int .u8 0]⟩, ⟨15, 1, [.int .u8 0]⟩, ⟨16, 1, [.int .u8 0]⟩, ⟨17, 1, [.int .u8 0]⟩, ⟨18, 1, [.int .u8 0]⟩, ⟨19, 1, [.int .u8 0]⟩, ⟨20, 1, [.int .u8 0]⟩, ⟨21, 1, [.int .u8 0]⟩, ⟨22, 1, [.int .u8 0]⟩, ⟨23, 1, [.int .u8 0]⟩, ⟨24, 1, [.int .u8 0]⟩, ⟨25, 1, [.int .u8 0]⟩, ⟨26, 1, [.int .u8 0]⟩, ⟨27, 1, [.int .u8 0]⟩, ⟨28, 1, [.int .u8 0]⟩, ⟨29, 1, [.int .u8 0]⟩, ⟨30, 1, [.int .u8 0]⟩, ⟨31, 1, [.int .u8 0]⟩]⟩),
 (23, ⟨.slice 5, 1, 24, .nil, []⟩),
 (24, ⟨.struct [(0, 3), (1, 9), (2, 23)], 3, 48, .agg ([.int .i64 0, .str [], .nil]), [⟨0, 1, [.int .i64 0]⟩, ⟨1, 1, [.str []]⟩, ⟨2, 1, [.nil]⟩]⟩),
 (25, ⟨.struct [(0, 3), (1, 9), (2, 23)], 3, 48, .agg ([.int .i64 0, .str [], .nil]), [⟨0, 1, [.int .i64 0]⟩, ⟨1, 1, [.str []]⟩, ⟨2, 1, [.nil]⟩]⟩),
 (26, ⟨.arr 64 5, 64, 64, .agg (List.replicate 64 (.int .u8 0)), [⟨0, 1, [.int .u8 0]⟩, ⟨1, 1, [.int .u8 0]⟩, ⟨2, 1, [.int .u8 0]⟩, ⟨3, 1, [.int .u8 0]⟩, ⟨4, 1, [.int .u8 0]⟩, ⟨5, 1, [.int .u8 0]⟩, ⟨6, 1, [.int .u8 0]⟩, ⟨7, 1, [.int .u8 0]⟩, ⟨8, 1, [.int .u8 0]⟩, ⟨9, 1, [.int .u8 0]⟩, ⟨10, 1, [.int .u8 0]⟩, ⟨11, 1, [.int .u8 0]⟩, ⟨12, 1, [.int .u8 0]⟩, ⟨13, 1, [.int .u8 0]⟩, ⟨14, 1, [.int .u8 0]⟩, ⟨15, 1, [.int .u8 0]⟩, ⟨16, 1, [.int .u8 0]⟩, ⟨17, 1, [.int .u8 0]⟩, ⟨18, 1, [.int .u8 0]⟩, ⟨19, 1, [.int .u8 0]⟩, ⟨20, 1, [.int .u8 0]⟩, ⟨21, 1, [.int .u8 0]⟩, ⟨22, 1, [.int .u8 0]⟩, ⟨23, 1, [.int .u8 0]⟩, ⟨24, 1, [.int .u8 0]⟩, ⟨25, 1, [.int .u8 0]⟩, ⟨26, 1, [.int .u8 0]⟩, ⟨27, 1, [.int .u8 0]⟩, ⟨28, 1, [.int .u8 0]⟩, ⟨29, 1, [.int .u8 0]⟩, ⟨30, 1, [.int .u8 0]⟩, ⟨31, 1, [.int .u8 0]⟩, ⟨32, 1, [.int .u8 0]⟩, ⟨33, 1, [.int .u8 0]⟩, ⟨34, 1, [.int .u8 0]⟩, ⟨35, 1, [.int .u8 0]⟩, ⟨36, 1, [.int .u8 0]⟩, ⟨37, 1, [.int .u8 0]⟩, ⟨38, 1, [.int .u8 0]⟩, ⟨39, 1, [.int .u8 0]⟩, ⟨40, 1, [.int .u8 0]⟩, ⟨41, 1, [.int .u8 0]⟩, ⟨42, 1, [.int .u8 0]⟩, ⟨43, 1, [.int .u8 0]⟩, ⟨44, 1, [.int .u8 0]⟩, ⟨45, 1, [.int .u8 0]⟩, ⟨46, 1, [.int .u8 0]⟩, ⟨47, 1, [.int .u8 0]⟩, ⟨48, 1, [.int .u8 0]⟩, ⟨49, 1, [.int .u8 0]⟩, ⟨50, 1, [.int .u8 0]⟩, ⟨51, 1, [.int .u8 0]⟩, ⟨52, 1, [.int .u8 0]⟩, ⟨53, 1, [.int .u8 0]⟩, ⟨54, 1, [.int .u8 0]⟩, ⟨55, 1, [.int .u8 0]⟩, ⟨56, 1, [.int .u8 0]⟩, ⟨57, 1, [.int .u8 0]⟩, ⟨58, 1, [.int .u8 0]⟩, ⟨59, 1, [.int .u8 0]⟩, ⟨60, 1, [.int .u8 0]⟩, ⟨61, 1, [.int .u8 0]⟩, ⟨62, 1, [.int .u8 0]⟩, ⟨63, 1, [.int .u8 0]⟩]⟩),
 (27, ⟨.struct [(0, 22), (32, 3), (33, 22), (65, 3), (66, 25), (69, 26)], 133, 192, .agg ([.int .u8 0, .int .u8 0, .int .u8 0, .int .u8 0, .int .u8 0, .int .u8 0, .int .u8 0, .int .u8 0, .int .u8 0, .int .u8 0, .int .u8 0, .int .u8 0, .int .u8 0, .int .u8 0, .int .u8 0, .int .u8 0, .int .u8 0, .int .u8 0, .int .u8 0, .int .u8 0, .int .u8 0, .int .u8 0, .int .u8 0, .int .u8 0, .int .u8 0, .int .u8 0, .int .u8 0, .int .u8 0, .int .u8 0, .int .u8 0, .int .u8 0, .int .u8 0, .int .i64 0, .int .u8 0, .int .u8 0, .int .u8 0, .int .u8 0, .int .u8 0, .int .u8 0, .int .u8 0, .int .u8 0, .int .u8 0, .int .u8 0, .int .u8 0, .int .u8 0, .int .u8 0, .int .u8 0, .int .u8 0, .int .u8 0, .int .u8 0, .int .u8 0, .int .u8 0, .int .u8 0, .int .u8 0, .int .u8 0, .int .u8 0, .int .u8 0, .int .u8 0, .int .u8 0, .int .u8 0, .int .u8 0, .int .u8 0, .int .u8 0, .int .u8 0, .int .u8 0, .int .i64 0, .int .i64 0, .str [], .nil, .int .u8 0, .int .u8 0, .int .u8 0, .int .u8 0, .int .u8 0, .int .u8 0, .int .u8 0, .int .u8 0, .int .u8 0, .int .u8 0, .int .u8 0, .int .u8 0, .int .u8 0, .int .u8 0, .int .u8 0, .int .u8 0, .int .u8 0, .int .u8 0, .int .u8 0, .int .u8 0, .int .u8 0, .int .u8 0, .int .u8 0, .int .u8 0, .int .u8 0, .int .u8 0, .int .u8 0, .int .u8 0, .int .u8 0, .int .u8 0, .int .u8 0, .int .u8 0, .int .u8 0, .int .u8 0, .int .u8 0, .int .u8 0, .int .u8 0, .int .u8 0, .int .u8 0, .int .u8 0, .int .u8 0, .int .u8 0, .int .u8 0, .int .u8 0, .int .u8 0, .int .u8 0, .int .u8 0, .int .u8 0, .int .u8 0, .int .u8 0, .int .u8 0, .int .u8 0, .int .u8 0, .int .u8 0, .int .u8 0, .int .u8 0, .int .u8 0, .int .u8 0, .int .u8 0, .int .u8 0, .int .u8 0, .int .u8 0, .int .u8 0, .int .u8 0]), [⟨0, 32, List.replicate 32 (.int .u8 0)⟩, ⟨32, 1, [.int .i64 0]⟩, ⟨33, 32, List.replicate 32 (.int .u8 0)⟩, ⟨65, 1, [.int .i64 0]⟩, ⟨66, 3, [.int .i64 0, .str [], .nil]⟩, ⟨69, 64, List.replicate 64 (.int .u8 0)⟩]⟩),
 (28, ⟨.struct [(0, 22), (32, 3), (33, 22), (65, 3), (66, 25), (69, 26)], 133, 192, .agg ([.int .u8 0, .int .u8 0, .int .u8 0, .int .u8 0, .int .u8 0, .int .u8 0, .int .u8 0, .int .u8 0, .int .u8 0, .int .u8 0, .int .u8 0, .int .u8 0, .int .u8 0, .int .u8 0, .int .u8 0, .int .u8 0, .int .u8 0, .int .u8 0, .int .u8 0, .int .u8 0, .int .u8 0, .int .u8 0, .int .u8 0, .int .u8 0, .int .u8 0, .int .u8 0, .int .u8 0, .int .u8 0, .int .u8 0, .int .u8 0, .int .u8 0, .int .u8 0, .int .i64 0, .int .u8 0, .int .u8 0, .int .u8 0, .int .u8 0, .int .u8 0, .int .u8 0, .int .u8 0, .int .u8 0, .int .u8 0, .int .u8 0, .int .u8 0, .int .u8 0, .int .u8 0, .int .u8 0, .int .u8 0, .int .u8 0, .int .u8 0, .int .u8 0, .int .u8 0, .int .u8 0, .int .u8 0, .int .u8 0, .int .u8 0, .int .u8 0, .int .u8 0, .int .u8 0, .int .u8 0, .int .u8 0, .int .u8 0, .int .u8 0, .int .u8 0, .int .u8 0, .int .i64 0, .int .i64 0, .str [], .nil, .int .u8 0, .int .u8 0, .int .u8 0, .int .u8 0, .int .u8 0, .int .u8 0, .int .u8 0, .int .u8 0, .int .u8 0, .int .u8 0, .int .u8 0, .int .u8 0, .int .u8 0, .int .u8 0, .int .u8 0, .int .u8 0, .int .u8 0, .int .u8 0, .int .u8 0, .int .u8 0, .int .u8 0, .int .u8 0, .int .u8 0, .int .u8 0, .int .u8 0, .int .u8 0, .int .u8 0, .int .u8 0, .int .u8 0, .int .u8 0, .int .u8 0, .int .u8 0, .int .u8 0, .int .u8 0, .int .u8 0, .int .u8 0, .int .u8 0, .int .u8 0, .int .u8 0, .int .u8 0, .int .u8 0, .int .u8 0, .int .u8 0, .int .u8 0, .int .u8 0, .int .u8 0, .int .u8 0, .int .u8 0, .int .u8 0, .int .u8 0, .int .u8 0, .int .u8 0, .int .u8 0, .int .u8 0, .int .u8 0, .int .u8 0, .int .u8 0, .int .u8 0, .int .u8 0, .int .u8 0, .int .u8 0, .int .u8 0, .int .u8 0, .int .u8 0]), [⟨0, 32, List.replicate 32 (.int .u8 0)⟩, ⟨32, 1, [.int .i64 0]⟩, ⟨33, 32, List.replicate 32 (.int .u8 0)⟩, ⟨65, 1, [.int .i64 0]⟩, ⟨66, 3, [.int .i64 0, .str [], .nil]⟩, ⟨69, 64, List.replicate 64 (.int .u8 0)⟩]⟩),
 (31, ⟨.struct [(0, 28), (133, 28)], 266, 384, .agg ([.int .u8 0, .int .u8 0, .int .u8 0, .int .u8 0, .int .u8 0, .int .u8 0, .int .u8 0, .int .u8 0, .int .u8 0, .int .u8 0, .int .u8 0, .int .u8 0, .int .u8 0, .int .u8 0, .int .u8 0, .int .u8 0, .int .u8 0, .int .u8 0, .int .u8 0, .int .u8 0, .int .u8 0, .int .u8 0, .int .u8 0, .int .u8 0, .int .u8 0, .int .u8 0, .int .u8 0, .int .u8 0, .int .u8 0, .int .u8 0, .int .u8 0, .int .u8 0, .int .i64 0, .int .u8 0, .int .u8 0, .int .u8 0, .int .u8 0, .int .u8 0, .int .u8 0, .int .u8 0, .int .u8 0, .int .u8 0, .int .u8 0, .int .u8 0, .int .u8 0, .int .u8 0, .int .u8 0, .int .u8 0, .int .u8 0, .int .u8 0, .int .u8 0, .int .u8 0, .int .u8 0, .int .u8 0, .int .u8 0, .int .u8 0, .int .u8 0, .int .u8 0, .int .u8 0, .int .u8 0, .int .u8 0, .int .u8 0, .int .u8 0, .int .u8 0, .int .u8 0, .int .i64 0, .int .i64 0, .str [], .nil, .int .u8 0, .int .u8 0, .int .u8 0, .int .u8 0, .int .u8 0, .int .u8 0, .int .u8 0, .int .u8 0, .int .u8 0, .int .u8 0, .int .u8 0, .int .u8 0, .int .u8 0, .int .u8 0, .int .u8 0, .int .u8 0, .int .u8 0, .int .u8 0, .int .u8 0, .int .u8 0, .int .u8 0, .int .u8 0, .int .u8 0, .int .u8 0, .int .u8 0, .int .u8 0, .int .u8 0, .int .u8 0, .int .u8 0, .int .u8 0, .int .u8 0, .int .u8 0, .int .u8 0, .int .u8 0, .int .u8 0, .int .u8 0, .int .u8 0, .int .u8 0, .int .u8 0, .int .u8 0, .int .u8 0, .int .u8 0, .int .u8 0, .int .u8 0, .int .u8 0, .int .u8 0, .int .u8 0, .int .u8 0, .int .u8 0, .int .u8 0, .int .u8 0, .int .u8 0, .int .u8 0, .int .u8 0, .int .u8 0, .int .u8 0, .int .u8 0, .int .u8 0, .int .u8 0, .int .u8 0, .int .u8 0, .int .u8 0, .int .u8 0, .int .u8 0, .int .u8 0, .int .u8 0, .int .u8 0, .int .u8 0, .int .u8 0, .int .u8 0, .int .u8 0, .int .u8 0, .int .u8 0, .int .u8 0, .int .u8 0, .int .u8 0, .int .u8 0, .int .u8 0, .int .u8 0, .int .u8 0, .int .u8 0, .int .u8 0, .int .u8 0, .int .u8 0, .int .u8 0, .int .u8 0, .int .u8 0, .int .u8 0, .int .u8 0, .int .u8 0, .int .u8 0, .int .u8 0, .int .u8 0, .int .u8 0, .int .u8 0, .int .u8 0, .int .i64 0, .int .u8 0, .int .u8 0, .int .u8 0, .int .u8 0, .int .u8 0, .int .u8 0, .int .u8 0, .int .u8 0, .int .u8 0, .int .u8 0, .int .u8 0, .int .u8 0, .int .u8 0, .int .u8 0, .int .u8 0, .int .u8 0, .int .u8 0, .int .u8 0, .int .u8 0, .int .u8 0, .int .u8 0, .int .u8 0, .int .u8 0, .int .u8 0, .int .u8 0, .int .u8 0, .int .u8 0, .int .u8 0, .int .u8 0, .int .u8 0, .int .u8 0, .int .u8 0, .int .i64 0, .int .i64 0, .str [], .nil, .int .u8 0, .int .u8 0, .int .u8 0, .int .u8 0, .int .u8 0, .int .u8 0, .int .u8 0, .int .u8 0, .int .u8 0, .int .u8 0, .int .u8 0, .int .u8 0, .int .u8 0, .int .u8 0, .int .u8 0, .int .u8 0, .int .u8 0, .int .u8 0, .int .u8 0, .int .u8 0, .int .u8 0, .int .u8 0, .int .u8 0, .int .u8 0, .int .u8 0, .int .u8 0, .int .u8 0, .int .u8 0, .int .u8 0, .int .u8 0, .int .u8 0, .int .u8 0, .int .u8 0, .int .u8 0, .int .u8 0, .int .u8 0, .int .u8 0, .int .u8 0, .int .u8 0, .int .u8 0, .int .u8 0, .int .u8 0, .int .u8 0, .int .u8 0, .int .u8 0, .int .u8 0, .int .u8 0, .int .u8 0, .int .u8 0, .int .u8 0, .int .u8 0, .int .u8 0, .int .u8 0, .int .u8 0, .int .u8 0, .int .u8 0, .int .u8 0, .int .u8 0, .int .u8 0, .int .u8 0, .int .u8 0, .int .u8 0, .int .u8 0, .int .u8 0]), [⟨0, 133, [.int .u8 0, .int .u8 0, .int .u8 0, .int .u8 0, .int .u8 0, .int .u8 0, .int .u8 0, .int .u8 0, .int .u8 0, .int .u8 0, .int .u8 0, .int .u8 0, .int .u8 0, .int .u8 0, .int .u8 0, .int .u8 0, .int .u8 0, .int .u8 0, .int .u8 0, .int .u8 0, .int .u8 0, .int .u8 0, .int .u8 0, .int .u8 0, .int .u8 0, .int .u8 0, .int .u8 0, .int .u8 0, .int .u8 0, .int .u8 0, .int .u8 0, .int .u8 0, .int .i64 0, .int .u8 0, .int .u8 0, .int .u8 0, .int .u8 0, .int .u8 0, .int .u8 0, .int .u8 0, .int .u8 0, .int .u8 0, .int .u8 0, .int .u8 0, .int .u8 0, .int .u8 0, .int .u8 0, .int .u8 0, .int .u8 0, .int .u8 0, .int .u8 0, .int .u8 0, .int .u8 0, .int .u8 0, .int .u8 0, .int .u8 0, .int .u8 0, .int .u8 0, .int .u8 0, .int .u8 0, .int .u8 0, .int .u8 0, .int .u8 0, .int .u8 0, .int .u8 0, .int .i64 0, .int .i64 0, .str [], .nil, .int .u8 0, .int .u8 0, .int .u8 0, .int .u8 0, .int .u8 0, .int .u8 0, .int .u8 0, .int .u8 0, .int .u8 0, .int .u8 0, .int .u8 0, .int .u8 0, .int .u8 0, .int .u8 0, .int .u8 0, .int .u8 0, .int .u8 0, .int .u8 0, .int .u8 0, .int .u8 0, .int .u8 0, .int .u8 0, .int .u8 0, .int .u8 0, .int .u8 0, .int .u8 0, .int .u8 0, .int .u8 0, .int .u8 0, .int .u8 0, .int .u8 0, .int .u8 0, .int .u8 0, .int .u8 0, .int .u8 0, .int .u8 0, .int .u8 0, .int .u8 0, .int .u8 0, .int .u8 0, .int .u8 0, .int .u8 0, .int .u8 0, .int .u8 0, .int .u8 0, .int .u8 0, .int .u8 0, .int .u8 0, .int .u8 0, .int .u8 0, .int .u8 0, .int .u8 0, .int .u8 0, .int .u8 0, .int .u8 0, .int .u8 0, .int .u8 0, .int .u8 0, .int .u8 0, .int .u8 0, .int .u8 0, .int .u8 0, .int .u8 0, .int .u8 0]⟩, ⟨133, 133, [.int .u8 0, .int .u8 0, .int .u8 0, .int .u8 0, .int .u8 0, .int .u8 0, .int .u8 0, .int .u8 0, .int .u8 0, .int .u8 0, .int .u8 0, .int .u8 0, .int .u8 0, .int .u8 0, .int .u8 0, .int .u8 0, .int .u8 0, .int .u8 0, .int .u8 0, .int .u8 0, .int .u8 0, .int .u8 0, .int .u8 0, .int .u8 0, .int .u8 0, .int .u8 0, .int .u8 0, .int .u8 0, .int .u8 0, .int .u8 0, .int .u8 0, .int .u8 0, .int .i64 0, .int .u8 0, .int .u8 0, .int .u8 0, .int .u8 0, .int .u8 0, .int .u8 0, .int .u8 0, .int .u8 0, .int .u8 0, .int .u8 0, .int .u8 0, .int .u8 0, .int .u8 0, .int .u8 0, .int .u8 0, .int .u8 0, .int .u8 0, .int .u8 0, .int .u8 0, .int .u8 0, .int .u8 0, .int .u8 0, .int .u8 0, .int .u8 0, .int .u8 0, .int .u8 0, .int .u8 0, .int .u8 0, .int .u8 0, .int .u8 0, .int .u8 0, .int .u8 0, .int .i64 0, .int .i64 0, .str [], .nil, .int .u8 0, .int .u8 0, .int .u8 0, .int .u8 0, .int .u8 0, .int .u8 0, .int .u8 0, .int .u8 0, .int .u8 0, .int .u8 0, .int .u8 0, .int .u8 0, .int .u8 0, .int .u8 0, .int .u8 0, .int .u8 0, .int .u8 0, .int .u8 0, .int .u8 0, .int .u8 0, .int .u8 0, .int .u8 0, .int .u8 0, .int .u8 0, .int .u8 0, .int .u8 0, .int .u8 0, .int .u8 0, .int .u8 0, .int .u8 0, .int .u8 0, .int .u8 0, .int .u8 0, .int .u8 0, .int .u8 0, .int .u8 0, .int .u8 0, .int .u8 0, .int .u8 0, .int .u8 0, .int .u8 0, .int .u8 0, .int .u8 0, .int .u8 0, .int .u8 0, .int .u8 0, .int .u8 0, .int .u8 0, .int .u8 0, .int .u8 0, .int .u8 0, .int .u8 0, .int .u8 0, .int .u8 0, .int .u8 0, .int .u8 0, .int .u8 0, .int .u8 0, .int .u8 0, .int .u8 0, .int .u8 0, .int .u8 0, .int .u8 0, .int .u8 0]⟩]⟩),
 (32, ⟨.struct [(0, 28), (133, 28)], 266, 384, .agg ([.int .u8 0, .int .u8 0, .int .u8 0, .int .u8 0, .int .u8 0, .int .u8 0, .int .u8 0, .int .u8 0, .int .u8 0, .int .u8 0, .int .u8 0, .int .u8 0, .int .u8 0, .int .u8 0, .int .u8 0, .int .u8 0, .int .u8 0, .int .u8 0, .int .u8 0, .int .u8 0, .int .u8 0, .int .u8 0, .int .u8 0, .int .u8 0, .int .u8 0, .int .u8 0, .int .u8 0, .int .u8 0, .int .u8 0, .int .u8 0, .int .u8 0, .int .u8 0, .int .i64 0, .int .u8 0, .int .u8 0, .int .u8 0, .int .u8 0, .int .u8 0, .int .u8 0, .int .u8 0, .int .u8 0, .int .u8 0, .int .u8 0, .int .u8 0, .int .u8 0, .int .u8 0, .int .u8 0, .int .u8 0, .int .u8 0, .int .u8 0, .int .u8 0, .int .u8 0, .int .u8 0, .int .u8 0, .int .u8 0, .int .u8 0, .int .u8 0, .int .u8 0, .int .u8 0, .int .u8 0, .int .u8 0, .int .u8 0, .int .u8 0, .int .u8 0, .int .u8 0, .int .i64 0, .int .i64 0, .str [], .nil, .int .u8 0, .int .u8 0, .int .u8 0, .int .u8 0, .int .u8 0, .int .u8 0, .int .u8 0, .int .u8 0, .int .u8 0, .int .u8 0, .int .u8 0, .int .u8 0, .int .u8 0, .int .u8 0, .int .u8 0, .int .u8 0, .int .u8 0, .int .u8 0, .int .u8 0, .int .u8 0, .int .u8 0, .int .u8 0, .int .u8 0, .int .u8 0, .int .u8 0, .int .u8 0, .int .u8 0, .int .u8 0, .int .u8 0, .int .u8 0, .int .u8 0, .int .u8 0, .int .u8 0, .int .u8 0, .int .u8 0, .int .u8 0, .int .u8 0, .int .u8 0, .int .u8 0, .int .u8 0, .int .u8 0, .int .u8 0, .int .u8 0, .int .u8 0, .int .u8 0, .int .u8 0, .int .u8 0, .int .u8 0, .int .u8 0, .int .u8 0, .int .u8 0, .int .u8 0, .int .u8 0, .int .u8 0, .int .u8 0, .int .u8 0, .int .u8 0, .int .u8 0, .int .u8 0, .int .u8 0, .int .u8 0, .int .u8 0, .int .u8 0, .int .u8 0, .int .u8 0, .int .u8 0, .int .u8 0, .int .u8 0, .int .u8 0, .int .u8 0, .int .u8 0, .int .u8 0, .int .u8 0, .int .u8 0, .int .u8 0, .int .u8 0, .int .u8 0, .int .u8 0, .int .u8 0, .int .u8 0, .int .u8 0, .int .u8 0, .int .u8 0, .int .u8 0, .int .u8 0, .int .u8 0, .int .u8 0, .int .u8 0, .int .u8 0, .int .u8 0, .int .u8 0, .int .u8 0, .int .u8 0, .int .u8 0, .int .u8 0, .int .u8 0, .int .i64 0, .int .u8 0, .int .u8 0, .int .u8 0, .int .u8 0, .int .u8 0, .int .u8 0, .int .u8 0, .int .u8 0, .int .u8 0, .int .u8 0, .int .u8 0, .int .u8 0, .int .u8 0, .int .u8 0, .int .u8 0, .int .u8 0, .int .u8 0, .int .u8 0, .int .u8 0, .int .u8 0, .int .u8 0, .int .u8 0, .int .u8 0, .int .u8 0, .int .u8 0, .int .u8 0, .int .u8 0, .int .u8 0, .int .u8 0, .int .u8 0, .int .u8 0, .int .u8 0, .int .i64 0, .int .i64 0, .str [], .nil, .int .u8 0, .int .u8 0, .int .u8 0, .int .u8 0, .int .u8 0, .int .u8 0, .int .u8 0, .int .u8 0, .int .u8 0, .int .u8 0, .int .u8 0, .int .u8 0, .int .u8 0, .int .u8 0, .int .u8 0, .int .u8 0, .int .u8 0, .int .u8 0, .int .u8 0, .int .u8 0, .int .u8 0, .int .u8 0, .int .u8 0, .int .u8 0, .int .u8 0, .int .u8 0, .int .u8 0, .int .u8 0, .int .u8 0, .int .u8 0, .int .u8 0, .int .u8 0, .int .u8 0, .int .u8 0, .int .u8 0, .int .u8 0, .int .u8 0, .int .u8 0, .int .u8 0, .int .u8 0, .int .u8 0, .int .u8 0, .int .u8 0, .int .u8 0, .int .u8 0, .int .u8 0, .int .u8 0, .int .u8 0, .int .u8 0, .int .u8 0, .int .u8 0, .int .u8 0, .int .u8 0, .int .u8 0, .int .u8 0, .int .u8 0, .int .u8 0, .int .u8 0, .int .u8 0, .int .u8 0, .int .u8 0, .int .u8 0, .int .u8 0, .int .u8 0]), [⟨0, 133, [.int .u8 0, .int .u8 0, .int .u8 0, .int .u8 0, .int .u8 0, .int .u8 0, .int .u8 0, .int .u8 0, .int .u8 0, .int .u8 0, .int .u8 0, .int .u8 0, .int .u8 0, .int .u8 0, .int .u8 0, .int .u8 0, .int .u8 0, .int .u8 0, .int .u8 0, .int .u8 0, .int .u8 0, .int .u8 0, .int .u8 0, .int .u8 0, .int .u8 0, .int .u8 0, .int .u8 0, .int .u8 0, .int .u8 0, .int .u8 0, .int .u8 0, .int .u8 0, .int .i64 0, .int .u8 0, .int .u8 0, .int .u8 0, .int .u8 0, .int .u8 0, .int .u8 0, .int .u8 0, .int .u8 0, .int .u8 0, .int .u8 0, .int .u8 0, .int .u8 0, .int .u8 0, .int .u8 0, .int .u8 0, .int .u8 0, .int .u8 0, .int .u8 0, .int .u8 0, .int .u8 0, .int .u8 0, .int .u8 0, .int .u8 0, .int .u8 0, .int .u8 0, .int .u8 0, .int .u8 0, .int .u8 0, .int .u8 0, .int .u8 0, .int .u8 0, .int .u8 0, .int .i64 0, .int .i64 0, .str [], .nil, .int .u8 0, .int .u8 0, .int .u8 0, .int .u8 0, .int .u8 0, .int .u8 0, .int .u8 0, .int .u8 0, .int .u8 0, .int .u8 0, .int .u8 0, .int .u8 0, .int .u8 0, .int .u8 0, .int .u8 0, .int .u8 0, .int .u8 0, .int .u8 0, .int .u8 0, .int .u8 0, .int .u8 0, .int .u8 0, .int .u8 0, .int .u8 0, .int .u8 0, .int .u8 0, .int .u8 0, .int .u8 0, .int .u8 0, .int .u8 0, .int .u8 0, .int .u8 0, .int .u8 0, .int .u8 0, .int .u8 0, .int .u8 0, .int .u8 0, .int .u8 0, .int .u8 0, .int .u8 0, .int .u8 0, .int .u8 0, .int .u8 0, .int .u8 0, .int .u8 0, .int .u8 0, .int .u8 0, .int .u8 0, .int .u8 0, .int .u8 0, .int .u8 0, .int .u8 0, .int .u8 0, .int .u8 0, .int .u8 0, .int .u8 0, .int .u8 0, .int .u8 0, .int .u8 0, .int .u8 0, .int .u8 0, .int .u8 0, .int .u8 0, .int .u8 0]⟩, ⟨133, 133, [.int .u8 0, .int .u8 0, .int .u8 0, .int .u8 0, .int .u8 0, .int .u8 0, .int .u8 0, .int .u8 0, .int .u8 0, .int .u8 0, .int .u8 0, .int .u8 0, .int .u8 0, .int .u8 0, .int .u8 0, .int .u8 0, .int .u8 0, .int .u8 0, .int .u8 0, .int .u8 0, .int .u8 0, .int .u8 0, .int .u8 0, .int .u8 0, .int .u8 0, .int .u8 0, .int .u8 0, .int .u8 0, .int .u8 0, .int .u8 0, .int .u8 0, .int .u8 0, .int .i64 0, .int .u8 0, .int .u8 0, .int .u8 0, .int .u8 0, .int .u8 0, .int .u8 0, .int .u8 0, .int .u8 0, .int .u8 0, .int .u8 0, .int .u8 0, .int .u8 0, .int .u8 0, .int .u8 0, .int .u8 0, .int .u8 0, .int .u8 0, .int .u8 0, .int .u8 0, .int .u8 0, .int .u8 0, .int .u8 0, .int .u8 0, .int .u8 0, .int .u8 0, .int .u8 0, .int .u8 0, .int .u8 0, .int .u8 0, .int .u8 0, .int .u8 0, .int .u8 0, .int .i64 0, .int .i64 0, .str [], .nil, .int .u8 0, .int .u8 0, .int .u8 0, .int .u8 0, .int .u8 0, .int .u8 0, .int .u8 0, .int .u8 0, .int .u8 0, .int .u8 0, .int .u8 0, .int .u8 0, .int .u8 0, .int .u8 0, .int .u8 0, .int .u8 0, .int .u8 0, .int .u8 0, .int .u8 0, .int .u8 0, .int .u8 0, .int .u8 0, .int .u8 0, .int .u8 0, .int .u8 0, .int .u8 0, .int .u8 0, .int .u8 0, .int .u8 0, .int .u8 0, .int .u8 0, .int .u8 0, .int .u8 0, .int .u8 0, .int .u8 0, .int .u8 0, .int .u8 0, .int .u8 0, .int .u8 0, .int .u8 0, .int .u8 0, .int .u8 0, .int .u8 0, .int .u8 0, .int .u8 0, .int .u8 0, .int .u8 0, .int .u8 0, .int .u8 0, .int .u8 0, .int .u8 0, .int .u8 0, .int .u8 0, .int .u8 0, .int .u8 0, .int .u8 0, .int .u8 0, .int .u8 0, .int .u8 0, .int .u8 0, .int .u8 0, .int .u8 0, .int .u8 0, .int .u8 0]⟩]⟩),
 (33, ⟨.int .i64, 1, 8, .int .i64 0, []⟩),
 (34, ⟨.other, 1, 0, .top, []⟩),
 (42, ⟨.other, 1, 0, .top, []⟩),
 (44, ⟨.other, 1, 0, .top, []⟩),
 (47, ⟨.other, 1, 0, .top, []⟩),
 (52, ⟨.slice 28, 1, 24, .nil, []⟩),
 (53, ⟨.struct [(0, 22), (32, 52), (33, 4), (34, 32)], 300, 448, .agg ([.int .u8 0, .int .u8 0, .int .u8 0, .int .u8 0, .int .u8 0, .int .u8 0, .int .u8 0, .int .u8 0, .int .u8 0, .int .u8 0, .int .u8 0, .int .u8 0, .int .u8 0, .int .u8 0, .int .u8 0, .int .u8 0, .int .u8 0, .int .u8 0, .int .u8 0, .int .u8 0, .int .u8 0, .int .u8 0, .int .u8 0, .int .u8 0, .int .u8 0, .int .u8 0, .int .u8 0, .int .u8 0, .int .u8 0, .int .u8 0, .int .u8 0, .int .u8 0, .nil, .bool false, .int .u8 0, .int .u8 0, .int .u8 0, .int .u8 0, .int .u8 0, .int .u8 0, .int .u8 0, .int .u8 0, .int .u8 0, .int .u8 0, .int .u8 0, .int .u8 0, .int .u8 0, .int .u8 0, .int .u8 0, .int .u8 0, .int .u8 0, .int .u8 0, .int .u8 0, .int .u8 0, .int .u8 0, .int .u8 0, .int .u8 0, .int .u8 0, .int .u8 0, .int .u8 0, .int .u8 0, .int .u8 0, .int .u8 0, .int .u8 0, .int .u8 0, .int .u8 0, .int .i64 0, .int .u8 0, .int .u8 0, .int .u8 0, .int .u8 0, .int .u8 0, .int .u8 0, .int .u8 0, .int .u8 0, .int .u8 0, .int .u8 0, .int .u8 0, .int .u8 0, .int .u8 0, .int .u8 0, .int .u8 0, .int .u8 0, .int .u8 0, .int .u8 0, .int .u8 0, .int .u8 0, .int .u8 0, .int .u8 0, .int .u8 0, .int .u8 0, .int .u8 0, .int .u8 0, .int .u8 0, .int .u8 0, .int .u8 0, .int .u8 0, .int .u8 0, .int .u8 0, .int .i64 0, .int .i64 0, .str [], .nil, .int .u8 0, .int .u8 0, .int .u8 0, .int .u8 0, .int .u8 0, .int .u8 0, .int .u8 0, .int .u8 0, .int .u8 0, .int .u8 0, .int .u8 0, .int .u8 0, .int .u8 0, .int .u8 0, .int .u8 0, .int .u8 0, .int .u8 0, .int .u8 0, .int .u8 0, .int .u8 0, .int .u8 0, .int .u8 0, .int .u8 0, .int .u8 0, .int .u8 0, .int .u8 0, .int .u8 0, .int .u8 0, .int .u8 0, .int .u8 0, .int .u8 0, .int .u8 0, .int .u8 0, .int .u8 0, .int .u8 0, .int .u8 0, .int .u8 0, .int .u8 0, .int .u8 0, .int .u8 0, .int .u8 0, .int .u8 0, .int .u8 0, .int .u8 0, .int .u8 0, .int .u8 0, .int .u8 0, .int .u8 0, .int .u8 0, .int .u8 0, .int .u8 0, .int .u8 0, .int .u8 0, .int .u8 0, .int .u8 0, .int .u8 0, .int .u8 0, .int .u8 0, .int .u8 0, .int .u8 0, .int .u8 0, .int .u8 0, .int .u8 0, .int .u8 0, .int .u8 0, .int .u8 0, .int .u8 0, .int .u8 0, .int .u8 0, .int .u8 0, .int .u8 0, .int .u8 0, .int .u8 0, .int .u8 0, .int .u8 0, .int .u8 0, .int .u8 0, .int .u8 0, .int .u8 0, .int .u8 0, .int .u8 0, .int .u8 0, .int .u8 0, .int .u8 0, .int .u8 0, .int .u8 0, .int .u8 0, .int .u8 0, .int .u8 0, .int .u8 0, .int .u8 0, .int .u8 0, .int .u8 0, .int .u8 0, .int .u8 0, .int .u8 0, .int .i64 0, .int .u8 0, .int .u8 0, .int .u8 0, .int .u8 0, .int .u8 0, .int .u8 0, .int .u8 0, .int .u8 0, .int .u8 0, .int .u8 0, .int .u8 0, .int .u8 0, .int .u8 0, .int .u8 0, .int .u8 0, .int .u8 0, .int .u8 0, .int .u8 0, .int .u8 0, .int .u8 0, .int .u8 0, .int .u8 0, .int .u8 0, .int .u8 0, .int .u8 0, .int .u8 0, .int .u8 0, .int .u8 0, .int .u8 0, .int .u8 0, .int .u8 0, .int .u8 0, .int .i64 0, .int .i64 0, .str [], .nil, .int .u8 0, .int .u8 0, .int .u8 0, .int .u8 0, .int .u8 0, .int .u8 0, .int .u8 0, .int .u8 0, .int .u8 0, .int .u8 0, .int .u8 0, .int .u8 0, .int .u8 0, .int .u8 0, .int .u8 0, .int .u8 0, .int .u8 0, .int .u8 0, .int .u8 0, .int .u8 0, .int .u8 0, .int .u8 0, .int .u8 0, .int .u8 0, .int .u8 0, .int .u8 0, .int .u8 0, .int .u8 0, .int .u8 0, .int .u8 0, .int .u8 0, .int .u8 0, .int .u8 0, .int .u8 0, .int .u8 0, .int .u8 0, .int .u8 0, .int .u8 0, .int .u8 0, .int .u8 0, .int .u8 0, .int .u8 0, .int .u8 0, .int .u8 0, .int .u8 0, .int .u8 0, .int .u8 0, .int .u8 0, .int .u8 0, .int .u8 0, .int .u8 0, .int .u8 0, .int .u8 0, .int .u8 0, .int .u8 0, .int .u8 0, .int .u8 0, .int .u8 0, .int .u8 0, .int .u8 0, .int .u8 0, .int .u8 0, .int .u8 0, .int .u8 0]), [⟨0, 32, List.replicate 32 (.int .u8 0)⟩, ⟨32, 1, [.nil]⟩, ⟨33, 1, [.bool false]⟩, ⟨34, 266, [.int .u8 0, .int .u8 0, .int .u8 0, .int .u8 0, .int .u8 0, .int .u8 0, .int .u8 0, .int .u8 0, .int .u8 0, .int .u8 0, .int .u8 0, .int .u8 0, .int .u8 0, .int .u8 0, .int .u8 0, .int .u8 0, .int .u8 0, .int .u8 0, .int .u8 0, .int .u8 0, .int .u8 0, .int .u8 0, .int .u8 0, .int .u8 0, .int .u8 0, .int .u8 0, .int .u8 0, .int .u8 0, .int .u8 0, .int .u8 0, .int .u8 0, .int .u8 0, .int .i64 0, .int .u8 0, .int .u8 0, .int .u8 0, .int .u8 0, .int .u8 0, .int .u8 0, .int .u8 0, .int .u8 0, .int .u8 0, .int .u8 0, .int .u8 0, .int .u8 0, .int .u8 0, .int .u8 0, .int .u8 0, .int .u8 0, .int .u8 0, .int .u8 0, .int .u8 0, .int .u8 0, .int .u8 0, .int .u8 0, .int .u8 0, .int .u8 0, .int .u8 0, .int .u8 0, .int .u8 0, .int .u8 0, .int .u8 0, .int .u8 0, .int .u8 0, .int .u8 0, .int .i64 0, .int .i64 0, .str [], .nil, .int .u8 0, .int .u8 0, .int .u8 0, .int .u8 0, .int .u8 0, .int .u8 0, .int .u8 0, .int .u8 0, .int .u8 0, .int .u8 0, .int .u8 0, .int .u8 0, .int .u8 0, .int .u8 0, .int .u8 0, .int .u8 0, .int .u8 0, .int .u8 0, .int .u8 0, .int .u8 0, .int .u8 0, .int .u8 0, .int .u8 0, .int .u8 0, .int .u8 0, .int .u8 0, .int .u8 0, .int .u8 0, .int .u8 0, .int .u8 0, .int .u8 0, .int .u8 0, .int .u8 0, .int .u8 0, .int .u8 0, .int .u8 0, .int .u8 0, .int .u8 0, .int .u8 0, .int .u8 0, .int .u8 0, .int .u8 0, .int .u8 0, .int .u8 0, .int .u8 0, .int .u8 0, .int .u8 0, .int .u8 0, .int .u8 0, .int .u8 0, .int .u8 0, .int .u8 0, .int .u8 0, .int .u8 0, .int .u8 0, .int .u8 0, .int .u8 0, .int .u8 0, .int .u8 0, .int .u8 0, .int .u8 0, .int .u8 0, .int .u8 0, .int .u8 0, .int .u8 0, .int .u8 0, .int .u8 0, .int .u8 0, .int .u8 0, .int .u8 0, .int .u8 0, .int .u8 0, .int .u8 0, .int .u8 0, .int .u8 0, .int .u8 0, .int .u8 0, .int .u8 0, .int .u8 0, .int .u8 0, .int .u8 0, .int .u8 0, .int .u8 0, .int .u8 0, .int .u8 0, .int .u8 0, .int .u8 0, .int .u8 0, .int .u8 0, .int .u8 0, .int .u8 0, .int .u8 0, .int .u8 0, .int .u8 0, .int .u8 0, .int .u8 0, .int .i64 0, .int .u8 0, .int .u8 0, .int .u8 0, .int .u8 0, .int .u8 0, .int .u8 0, .int .u8 0, .int .u8 0, .int .u8 0, .int .u8 0, .int .u8 0, .int .u8 0, .int .u8 0, .int .u8 0, .int .u8 0, .int .u8 0, .int .u8 0, .int .u8 0, .int .u8 0, .int .u8 0, .int .u8 0, .int .u8 0, .int .u8 0, .int .u8 0, .int .u8 0, .int .u8 0, .int .u8 0, .int .u8 0, .int .u8 0, .int .u8 0, .int .u8 0, .int .u8 0, .int .i64 0, .int .i64 0, .str [], .nil, .int .u8 0, .int .u8 0, .int .u8 0, .int .u8 0, .int .u8 0, .int .u8 0, .int .u8 0, .int .u8 0, .int .u8 0, .int .u8 0, .int .u8 0, .int .u8 0, .int .u8 0, .int .u8 0, .int .u8 0, .int .u8 0, .int .u8 0, .int .u8 0, .int .u8 0, .int .u8 0, .int .u8 0, .int .u8 0, .int .u8 0, .int .u8 0, .int .u8 0, .int .u8 0, .int .u8 0, .int .u8 0, .int .u8 0, .int .u8 0, .int .u8 0, .int .u8 0, .int .u8 0, .int .u8 0, .int .u8 0, .int .u8 0, .int .u8 0, .int .u8 0, .int .u8 0, .int .u8 0, .int .u8 0, .int .u8 0, .int .u8 0, .int .u8 0, .int .u8 0, .int .u8 0, .int .u8 0, .int .u8 0, .int .u8 0, .int .u8 0, .int .u8 0, .int .u8 0, .int .u8 0, .int .u8 0, .int .u8 0, .int .u8 0, .int .u8 0, .int .u8 0, .int .u8 0, .int .u8 0, .int .u8 0, .int .u8 0, .int .u8 0, .int .u8 0]⟩]⟩),
 (54, ⟨.struct [(0, 22), (32, 52), (33, 4), (34, 32)], 300, 448, .agg ([.int .u8 0, .int .u8 0, .int .u8 0, .int .u8 0, .int .u8 0, .int .u8 0, .int .u8 0, .int .u8 0, .int .u8 0, .int .u8 0, .int .u8 0, .int .u8 0, .int .u8 0, .int .u8 0, .int .u8 0, .int .u8 0, .int .u8 0, .int .u8 0, .int .u8 0, .int .u8 0, .int .u8 0, .int .u8 0, .int .u8 0, .int .u8 0, .int .u8 0, .int .u8 0, .int .u8 0, .int .u8 0, .int .u8 0, .int .u8 0, .int .u8 0, .int .u8 0, .nil, .bool false, .int .u8 0, .int .u8 0, .int .u8 0, .int .u8 0, .int .u8 0, .int .u8 0, .int .u8 0, .int .u8 0, .int .u8 0, .int .u8 0, .int .u8 0, .int .u8 0, .int .u8 0, .int .u8 0, .int .u8 0, .int .u8 0, .int .u8 0, .int .u8 0, .int .u8 0, .int .u8 0, .int .u8 0, .int .u8 0, .int .u8 0, .int .u8 0, .int .u8 0, .int .u8 0, .int .u8 0, .int .u8 0, .int .u8 0, .int .u8 0, .int .u8 0, .int .u8 0, .int .i64 0, .int .u8 0, .int .u8 0, .int .u8 0, .int .u8 0, .int .u8 0, .int .u8 0, .int .u8 0, .int .u8 0, .int .u8 0, .int .u8 0, .int .u8 0, .int .u8 0, .int .u8 0, .int .u8 0, .int .u8 0, .int .u8 0, .int .u8 0, .int .u8 0, .int .u8 0, .int .u8 0, .int .u8 0, .int .u8 0, .int .u8 0, .int .u8 0, .int .u8 0, .int .u8 0, .int .u8 0, .int .u8 0, .int .u8 0, .int .u8 0, .int .u8 0, .int .u8 0, .int .i64 0, .int .i64 0, .str [], .nil, .int .u8 0, .int .u8 0, .int .u8 0, .int .u8 0, .int .u8 0, .int .u8 0, .int .u8 0, .int .u8 0, .int .u8 0, .int .u8 0, .int .u8 0, .int .u8 0, .int .u8 0, .int .u8 0, .int .u8 0, .int .u8 0, .int .u8 0, .int .u8 0, .int .u8 0, .int .u8 0, .int .u8 0, .int .u8 0, .int .u8 0, .int .u8 0, .int .u8 0, .int .u8 0, .int .u8 0, .int .u8 0, .int .u8 0, .int .u8 0, .int .u8 0, .int .u8 0, .int .u8 0, .int .u8 0, .int .u8 0, .int .u8 0, .int .u8 0, .int .u8 0, .int .u8 0, .int .u8 0, .int .u8 0, .int .u8 0, .int .u8 0, .int .u8 0, .int .u8 0, .int .u8 0, .int .u8 0, .int .u8 0, .int .u8 0, .int .u8 0, .int .u8 0, .int .u8 0, .int .u8 0, .int .u8 0, .int .u8 0, .int .u8 0, .int .u8 0, .int .u8 0, .int .u8 0, .int .u8 0, .int .u8 0, .int .u8 0, .int .u8 0, .int .u8 0, .int .u8 0, .int .u8 0, .int .u8 0, .int .u8 0, .int .u8 0, .int .u8 0, .int .u8 0, .int .u8 0, .int .u8 0, .int .u8 0, .int .u8 0, .int .u8 0, .int .u8 0, .int .u8 0, .int .u8 0, .int .u8 0, .int .u8 0, .int .u8 0, .int .u8 0, .int .u8 0, .int .u8 0, .int .u8 0, .int .u8 0, .int .u8 0, .int .u8 0, .int .u8 0, .int .u8 0, .int .u8 0, .int .u8 0, .int .u8 0, .int .u8 0, .int .u8 0, .int .i64 0, .int .u8 0, .int .u8 0, .int .u8 0, .int .u8 0, .int .u8 0, .int .u8 0, .int .u8 0, .int .u8 0, .int .u8 0, .int .u8 0, .int .u8 0, .int .u8 0, .int .u8 0, .int .u8 0, .int .u8 0, .int .u8 0, .int .u8 0, .int .u8 0, .int .u8 0, .int .u8 0, .int .u8 0, .int .u8 0, .int .u8 0, .int .u8 0, .int .u8 0, .int .u8 0, .int .u8 0, .int .u8 0, .int .u8 0, .int .u8 0, .int .u8 0, .int .u8 0, .int .i64 0, .int .i64 0, .str [], .nil, .int .u8 0, .int .u8 0, .int .u8 0, .int .u8 0, .int .u8 0, .int .u8 0, .int .u8 0, .int .u8 0, .int .u8 0, .int .u8 0, .int .u8 0, .int .u8 0, .int .u8 0, .int .u8 0, .int .u8 0, .int .u8 0, .int .u8 0, .int .u8 0, .int .u8 0, .int .u8 0, .int .u8 0, .int .u8 0, .int .u8 0, .int .u8 0, .int .u8 0, .int .u8 0, .int .u8 0, .int .u8 0, .int .u8 0, .int .u8 0, .int .u8 0, .int .u8 0, .int .u8 0, .int .u8 0, .int .u8 0, .int .u8 0, .int .u8 0, .int .u8 0, .int .u8 0, .int .u8 0, .int .u8 0, .int .u8 0, .int .u8 0, .int .u8 0, .int .u8 0, .int .u8 0, .int .u8 0, .int .u8 0, .int .u8 0, .int .u8 0, .int .u8 0, .int .u8 0, .int .u8 0, .int .u8 0, .int .u8 0, .int .u8 0, .int .u8 0, .int .u8 0, .int .u8 0, .int .u8 0, .int .u8 0, .int .u8 0, .int .u8 0, .int .u8 0]), [⟨0, 32, List.replicate 32 (.int .u8 0)⟩, ⟨32, 1, [.nil]⟩, ⟨33, 1, [.bool false]⟩, ⟨34, 266, [.int .u8 0, .int .u8 0, .int .u8 0, .int .u8 0, .int .u8 0, .int .u8 0, .int .u8 0, .int .u8 0, .int .u8 0, .int .u8 0, .int .u8 0, .int .u8 0, .int .u8 0, .int .u8 0, .int .u8 0, .int .u8 0, .int .u8 0, .int .u8 0, .int .u8 0, .int .u8 0, .int .u8 0, .int .u8 0, .int .u8 0, .int .u8 0, .int .u8 0, .int .u8 0, .int .u8 0, .int .u8 0, .int .u8 0, .int .u8 0, .int .u8 0, .int .u8 0, .int .i64 0, .int .u8 0, .int .u8 0, .int .u8 0, .int .u8 0, .int .u8 0, .int .u8 0, .int .u8 0, .int .u8 0, .int .u8 0, .int .u8 0, .int .u8 0, .int .u8 0, .int .u8 0, .int .u8 0, .int .u8 0, .int .u8 0, .int .u8 0, .int .u8 0, .int .u8 0, .int .u8 0, .int .u8 0, .int .u8 0, .int .u8 0, .int .u8 0, .int .u8 0, .int .u8 0, .int .u8 0, .int .u8 0, .int .u8 0, .int .u8 0, .int .u8 0, .int .u8 0, .int .i64 0, .int .i64 0, .str [], .nil, .int .u8 0, .int .u8 0, .int .u8 0, .int .u8 0, .int .u8 0, .int .u8 0, .int .u8 0, .int .u8 0, .int .u8 0, .int .u8 0, .int .u8 0, .int .u8 0, .int .u8 0, .int .u8 0, .int .u8 0, .int .u8 0, .int .u8 0, .int .u8 0, .int .u8 0, .int .u8 0, .int .u8 0, .int .u8 0, .int .u8 0, .int .u8 0, .int .u8 0, .int .u8 0, .int .u8 0, .int .u8 0, .int .u8 0, .int .u8 0, .int .u8 0, .int .u8 0, .int .u8 0, .int .u8 0, .int .u8 0, .int .u8 0, .int .u8 0, .int .u8 0, .int .u8 0, .int .u8 0, .int .u8 0, .int .u8 0, .int .u8 0, .int .u8 0, .int .u8 0, .int .u8 0, .int .u8 0, .int .u8 0, .int .u8 0, .int .u8 0, .int .u8 0, .int .u8 0, .int .u8 0, .int .u8 0, .int .u8 0, .int .u8 0, .int .u8 0, .int .u8 0, .int .u8 0, .int .u8 0, .int .u8 0, .int .u8 0, .int .u8 0, .int .u8 0, .int .u8 0, .int .u8 0, .int .u8 0, .int .u8 0, .int .u8 0, .int .u8 0, .int .u8 0, .int .u8 0, .int .u8 0, .int .u8 0, .int .u8 0, .int .u8 0, .int .u8 0, .int .u8 0, .int .u8 0, .int .u8 0, .int .u8 0, .int .u8 0, .int .u8 0, .int .u8 0, .int .u8 0, .int .u8 0, .int .u8 0, .int .u8 0, .int .u8 0, .int .u8 0, .int .u8 0, .int .u8 0, .int .u8 0, .int .u8 0, .int .u8 0, .int .u8 0, .int .i64 0, .int .u8 0, .int .u8 0, .int .u8 0, .int .u8 0, .int .u8 0, .int .u8 0, .int .u8 0, .int .u8 0, .int .u8 0, .int .u8 0, .int .u8 0, .int .u8 0, .int .u8 0, .int .u8 0, .int .u8 0, .int .u8 0, .int .u8 0, .int .u8 0, .int .u8 0, .int .u8 0, .int .u8 0, .int .u8 0, .int .u8 0, .int .u8 0, .int .u8 0, .int .u8 0, .int .u8 0, .int .u8 0, .int .u8 0, .int .u8 0, .int .u8 0, .int .u8 0, .int .i64 0, .int .i64 0, .str [], .nil, .int .u8 0, .int .u8 0, .int .u8 0, .int .u8 0, .int .u8 0, .int .u8 0, .int .u8 0, .int .u8 0, .int .u8 0, .int .u8 0, .int .u8 0, .int .u8 0, .int .u8 0, .int .u8 0, .int .u8 0, .int .u8 0, .int .u8 0, .int .u8 0, .int .u8 0, .int .u8 0, .int .u8 0, .int .u8 0, .int .u8 0, .int .u8 0, .int .u8 0, .int .u8 0, .int .u8 0, .int .u8 0, .int .u8 0, .int .u8 0, .int .u8 0, .int .u8 0, .int .u8 0, .int .u8 0, .int .u8 0, .int .u8 0, .int .u8 0, .int .u8 0, .int .u8 0, .int .u8 0, .int .u8 0, .int .u8 0, .int .u8 0, .int .u8 0, .int .u8 0, .int .u8 0, .int .u8 0, .int .u8 0, .int .u8 0, .int .u8 0, .int .u8 0, .int .u8 0, .int .u8 0, .int .u8 0, .int .u8 0, .int .u8 0, .int .u8 0, .int .u8 0, .int .u8 0, .int .u8 0, .int .u8 0, .int .u8 0, .int .u8 0, .int .u8 0]⟩]⟩),
 (55, ⟨.other, 1, 0, .top, []⟩),
 (62, ⟨.other, 1, 0, .top, []⟩),
 (64, ⟨.int .u64, 1, 8, .int .u64 0, []⟩),
 (70, ⟨.other, 1, 0, .top, []⟩),
 (86, ⟨.ptr 118, 1, 8, .nilp, []⟩),
 (94, ⟨.slice 96, 1, 24, .nil, []⟩),
 (95, ⟨.struct [(0, 3), (1, 3), (2, 23)], 3, 40, .agg ([.int .i64 0, .int .i64 0, .nil]), [⟨0, 1, [.int .i64 0]⟩, ⟨1, 1, [.int .i64 0]⟩, ⟨2, 1, [.nil]⟩]⟩),
 (96, ⟨.struct [(0, 3), (1, 3), (2, 23)], 3, 40, .agg ([.int .i64 0, .int .i64 0, .nil]), [⟨0, 1, [.int .i64 0]⟩, ⟨1, 1, [.int .i64 0]⟩, ⟨2, 1, [.nil]⟩]⟩),
 (99, ⟨.other, 1, 0, .top, []⟩),
 (102, ⟨.other, 1, 0, .top, []⟩),
 (108, ⟨.other, 1, 0, .top, []⟩),
 (112, ⟨.ptr 141, 1, 8, .nilp, []⟩),
 (115, ⟨.other, 1, 0, .top, []⟩),
 (117, ⟨.struct [(0, 94), (1, 4)], 2, 32, .agg ([.nil, .bool false]), [⟨0, 1, [.nil]⟩, ⟨1, 1, [.bool false]⟩]⟩),
 (118, ⟨.struct [(0, 94), (1, 4)], 2, 32, .agg ([.nil, .bool false]), [⟨0, 1, [.nil]⟩, ⟨1, 1, [.bool false]⟩]⟩),
 (119, ⟨.struct [(0, 3), (1, 23), (2, 4)], 3, 40, .agg ([.int .i64 0, .nil, .bool false]), [⟨0, 1, [.int .i64 0]⟩, ⟨1, 1, [.nil]⟩, ⟨2, 1, [.bool false]⟩]⟩),
 (120, ⟨.struct [(0, 3), (1, 23), (2, 4)], 3, 40, .agg ([.int .i64 0, .nil, .bool false]), [⟨0, 1, [.int .i64 0]⟩, ⟨1, 1, [.nil]⟩, ⟨2, 1, [.bool false]⟩]⟩),
 (122, ⟨.int .u32, 1, 4, .int .u32 0, []⟩),
 (123, ⟨.arr 64 122, 64, 256, .agg (List.replicate 64 (.int .u32 0)), [⟨0, 1, [.int .u32 0]⟩, ⟨1, 1, [.int .u32 0]⟩, ⟨2, 1, [.int .u32 0]⟩, ⟨3, 1, [.int .u32 0]⟩, ⟨4, 1, [.int .u32 0]⟩, ⟨5, 1, [.int .u32 0]⟩, ⟨6, 1, [.int .u32 0]⟩, ⟨7, 1, [.int .u32 0]⟩, ⟨8, 1, [.int .u32 0]⟩, ⟨9, 1, [.int .u32 0]⟩, ⟨10, 1, [.int .u32 0]⟩, ⟨11, 1, [.int .u32 0]⟩, ⟨12, 1, [.int .u32 0]⟩, ⟨13, 1, [.int .u32 0]⟩, ⟨14, 1, [.int .u32 0]⟩, ⟨15, 1, [.int .u32 0]⟩, ⟨16, 1, [.int .u32 0]⟩, ⟨17, 1, [.int .u32 0]⟩, ⟨18, 1, [.int .u32 0]⟩, ⟨19, 1, [.int .u32 0]⟩, ⟨20, 1, [.int .u32 0]⟩, ⟨21, 1, [.int .u32 0]⟩, ⟨22, 1, [.int .u32 0]⟩, ⟨23, 1, [.int .u32 0]⟩, ⟨24, 1, [.int .u32 0]⟩, ⟨25, 1, [.int .u32 0]⟩, ⟨26, 1, [.int .u32 0]⟩, ⟨27, 1, [.int .u32 0]⟩, ⟨28, 1, [.int .u32 0]⟩, ⟨29, 1, [.int .u32 0]⟩, ⟨30, 1, [.int .u32 0]⟩, ⟨31, 1, [.int .u32 0]⟩, ⟨32, 1, [.int .u32 0]⟩, ⟨33, 1, [.int .u32 0]⟩, ⟨34, 1, [.int .u32 0]⟩, ⟨35, 1, [.int .u32 0]⟩, ⟨36, 1, [.int .u32 0]⟩, ⟨37, 1, [.int .u32 0]⟩, ⟨38, 1, [.int .u32 0]⟩, ⟨39, 1, [.int .u32 0]⟩, ⟨40, 1, [.int .u32 0]⟩, ⟨41, 1, [.int .u32 0]⟩, ⟨42, 1, [.int .u32 0]⟩, ⟨43, 1, [.int .u32 0]⟩, ⟨44, 1, [.int .u32 0]⟩, ⟨45, 1, [.int .u32 0]⟩, ⟨46, 1, [.int .u32 0]⟩, ⟨47, 1, [.int .u32 0]⟩, ⟨48, 1, [.int .u32 0]⟩, ⟨49, 1, [.int .u32 0]⟩, ⟨50, 1, [.int .u32 0]⟩, ⟨51, 1, [.int .u32 0]⟩, ⟨52, 1, [.int .u32 0]⟩, ⟨53, 1, [.int .u32 0]⟩, ⟨54, 1, [.int .u32 0]⟩, ⟨55, 1, [.int .u32 0]⟩, ⟨56, 1, [.int .u32 0]⟩, ⟨57, 1, [.int .u32 0]⟩, ⟨58, 1, [.int .u32 0]⟩, ⟨59, 1, [.int .u32 0]⟩, ⟨60, 1, [.int .u32 0]⟩, ⟨61, 1, [.int .u32 0]⟩, ⟨62, 1, [.int .u32 0]⟩, ⟨63, 1, [.int .u32 0]⟩]⟩),
 (125, ⟨.arr 8 122, 8, 32, .agg (List.replicate 8 (.int .u32 0)), [⟨0, 1, [.int .u32 0]⟩, ⟨1, 1, [.int .u32 0]⟩, ⟨2, 1, [.int .u32 0]⟩, ⟨3, 1, [.int .u32 0]⟩, ⟨4, 1, [.int .u32 0]⟩, ⟨5, 1, [.int .u32 0]⟩, ⟨6, 1, [.int .u32 0]⟩, ⟨7, 1, [.int .u32 0]⟩]⟩),
 (133, ⟨.ptr 135, 1, 8, .nilp, []⟩),
 (134, ⟨.struct [(0, 94), (1, 3), (2, 23), (3, 4)], 4, 64, .agg ([.nil, .int .i64 0, .nil, .bool false]), [⟨0, 1, [.nil]⟩, ⟨1, 1, [.int .i64 0]⟩, ⟨2, 1, [.nil]⟩, ⟨3, 1, [.bool false]⟩]⟩),
 (135, ⟨.struct [(0, 94), (1, 3), (2, 23), (3, 4)], 4, 64, .agg ([.nil, .int .i64 0, .nil, .bool false]), [⟨0, 1, [.nil]⟩, ⟨1, 1, [.int .i64 0]⟩, ⟨2, 1, [.nil]⟩, ⟨3, 1, [.bool false]⟩]⟩),
 (138, ⟨.arr 8 122, 8, 32, .agg (List.replicate 8 (.int .u32 0)), [⟨0, 1, [.int .u32 0]⟩, ⟨1, 1, [.int .u32 0]⟩, ⟨2, 1, [.int .u32 0]⟩, ⟨3, 1, [.int .u32 0]⟩, ⟨4, 1, [.int .u32 0]⟩, ⟨5, 1, [.int .u32 0]⟩, ⟨6, 1, [.int .u32 0]⟩, ⟨7, 1, [.int .u32 0]⟩]⟩),
 (140, ⟨.struct [(0, 138), (8, 23), (9, 3)], 10, 64, .agg ([.int .u32 0, .int .u32 0, .int .u32 0, .int .u32 0, .int .u32 0, .int .u32 0, .int .u32 0, .int .u32 0, .nil, .int .i64 0]), [⟨0, 8, List.replicate 8 (.int .u32 0)⟩, ⟨8, 1, [.nil]⟩, ⟨9, 1, [.int .i64 0]⟩]⟩),
 (141, ⟨.struct [(0, 138), (8, 23), (9, 3)], 10, 64, .agg ([.int .u32 0, .int .u32 0, .int .u32 0, .int .u32 0, .int .u32 0, .int .u32 0, .int .u32 0, .int .u32 0, .nil, .int .i64 0]), [⟨0, 8, List.replicate 8 (.int .u32 0)⟩, ⟨8, 1, [.nil]⟩, ⟨9, 1, [.int .i64 0]⟩]⟩),
 (144, ⟨.int .u64, 1, 8, .int .u64 0, []⟩),
 (146, ⟨.ptr 148, 1, 8, .nilp, []⟩),
 (147, ⟨.struct [(0, 23), (1, 3), (2, 94), (3, 4)], 4, 64, .agg ([.nil, .int .i64 0, .nil, .bool false]), [⟨0, 1, [.nil]⟩, ⟨1, 1, [.int .i64 0]⟩, ⟨2, 1, [.nil]⟩, ⟨3, 1, [.bool false]⟩]⟩),
 (148, ⟨.struct [(0, 23), (1, 3), (2, 94), (3, 4)], 4, 64, .agg ([.nil, .int .i64 0, .nil, .bool false]), [⟨0, 1, [.nil]⟩, ⟨1, 1, [.int .i64 0]⟩, ⟨2, 1, [.nil]⟩, ⟨3, 1, [.bool false]⟩]⟩),
 (150, ⟨.other, 1, 0, .top, []⟩),
 (152, ⟨.slice 23, 1, 24, .nil, []⟩),
 (159, ⟨.slice 122, 1, 24, .nil, []⟩),
 (163, ⟨.arr 256 5, 256, 256, .agg (List.replicate 256 (.int .u8 0)), []⟩),
 (164, ⟨.struct [(0, 5), (1, 5)], 2, 2, .agg ([.int .u8 0, .int .u8 0]), [⟨0, 1, [.int .u8 0]⟩, ⟨1, 1, [.int .u8 0]⟩]⟩),
 (165, ⟨.struct [(0, 5), (1, 5)], 2, 2, .agg ([.int .u8 0, .int .u8 0]), [⟨0, 1, [.int .u8 0]⟩, ⟨1, 1, [.int .u8 0]⟩]⟩),
 (166, ⟨.arr 16 165, 32, 32, .agg (List.replicate 32 (.int .u8 0)), [⟨0, 2, [.int .u8 0, .int .u8 0]⟩, ⟨2, 2, [.int .u8 0, .int .u8 0]⟩, ⟨4, 2, [.int .u8 0, .int .u8 0]⟩, ⟨6, 2, [.int .u8 0, .int .u8 0]⟩, ⟨8, 2, [.int .u8 0, .int .u8 0]⟩, ⟨10, 2, [.int .u8 0, .int .u8 0]⟩, ⟨12, 2, [.int .u8 0, .int .u8 0]⟩, ⟨14, 2, [.int .u8 0, .int .u8 0]⟩, ⟨16, 2, [.int .u8 0, .int .u8 0]⟩, ⟨18, 2, [.int .u8 0, .int .u8 0]⟩, ⟨20, 2, [.int .u8 0, .int .u8 0]⟩, ⟨22, 2, [.int .u8 0, .int .u8 0]⟩, ⟨24, 2, [.int .u8 0, .int .u8 0]⟩, ⟨26, 2, [.int .u8 0, .int .u8 0]⟩, ⟨28, 2, [.int .u8 0, .int .u8 0]⟩, ⟨30, 2, [.int .u8 0, .int .u8 0]⟩]⟩),
 (169, ⟨.other, 1, 0, .top, []⟩),
 (173, ⟨.arr 5 144, 5, 40, .agg (List.replicate 5 (.int .u64 0)), [⟨0, 1, [.int .u64 0]⟩, ⟨1, 1, [.int .u64 0]⟩, ⟨2, 1, [.int .u64 0]⟩, ⟨3, 1, [.int .u64 0]⟩, ⟨4, 1, [.int .u64 0]⟩]⟩),
 (174, ⟨.arr 5 144, 5, 40, .agg (List.replicate 5 (.int .u64 0)), [⟨0, 1, [.int .u64 0]⟩, ⟨1, 1, [.int .u64 0]⟩, ⟨2, 1, [.int .u64 0]⟩, ⟨3, 1, [.int .u64 0]⟩, ⟨4, 1, [.int .u64 0]⟩]⟩),
 (175, ⟨.struct [(0, 174), (5, 174), (10, 174), (15, 174)], 20, 160, .agg (List.replicate 20 (.int .u64 0)), [⟨0, 5, List.replicate 5 (.int .u64 0)⟩, ⟨5, 5, List.replicate 5 (.int .u64 0)⟩, ⟨10, 5, List.replicate 5 (.int .u64 0)⟩, ⟨15, 5, List.replicate 5 (.int .u64 0)⟩]⟩),
 (176, ⟨.struct [(0, 174), (5, 174), (10, 174), (15, 174)], 20, 160, .agg (List.replicate 20 (.int .u64 0)), [⟨0, 5, List.replicate 5 (.int .u64 0)⟩, ⟨5, 5, List.replicate 5 (.int .u64 0)⟩, ⟨10, 5, List.replicate 5 (.int .u64 0)⟩, ⟨15, 5, List.replicate 5 (.int .u64 0)⟩]⟩),
 (180, ⟨.arr 4 144, 4, 32, .agg ([.int .u64 0, .int .u64 0, .int .u64 0, .int .u64 0]), [⟨0, 1, [.int .u64 0]⟩, ⟨1, 1, [.int .u64 0]⟩, ⟨2, 1, [.int .u64 0]⟩, ⟨3, 1, [.int .u64 0]⟩]⟩),
 (181, ⟨.arr 4 144, 4, 32, .agg ([.int .u64 0, .int .u64 0, .int .u64 0, .int .u64 0]), [⟨0, 1, [.int .u64 0]⟩, ⟨1, 1, [.int .u64 0]⟩, ⟨2, 1, [.int .u64 0]⟩, ⟨3, 1, [.int .u64 0]⟩]⟩),
 (188, ⟨.other, 1, 0, .top, []⟩),
 (191, ⟨.other, 1, 0, .top, []⟩),
 (193, ⟨.arr 8 144, 8, 64, .agg (List.replicate 8 (.int .u64 0)), [⟨0, 1, [.int .u64 0]⟩, ⟨1, 1, [.int .u64 0]⟩, ⟨2, 1, [.int .u64 0]⟩, ⟨3, 1, [.int .u64 0]⟩, ⟨4, 1, [.int .u64 0]⟩, ⟨5, 1, [.int .u64 0]⟩, ⟨6, 1, [.int .u64 0]⟩, ⟨7, 1, [.int .u64 0]⟩]⟩),
 (200, ⟨.arr 9 144, 9, 72, .agg (List.replicate 9 (.int .u64 0)), [⟨0, 1, [.int .u64 0]⟩, ⟨1, 1, [.int .u64 0]⟩, ⟨2, 1, [.int .u64 0]⟩, ⟨3, 1, [.int .u64 0]⟩, ⟨4, 1, [.int .u64 0]⟩, ⟨5, 1, [.int .u64 0]⟩, ⟨6, 1, [.int .u64 0]⟩, ⟨7, 1, [.int .u64 0]⟩, ⟨8, 1, [.int .u64 0]⟩]⟩),
 (201, ⟨.other, 1, 0, .top, []⟩),
 (206, ⟨.other, 1, 0, .top, []⟩),
 (211, ⟨.slice 144, 1, 24, .nil, []⟩),
 (213, ⟨.arr 80 144, 80, 640, .agg (List.replicate 80 (.int .u64 0)), []⟩),
 (219, ⟨.struct [(0, 17), (1, 17), (2, 17), (3, 9)], 4, 40, .agg ([.nilp, .nilp, .nilp, .str []]), [⟨0, 1, [.nilp]⟩, ⟨1, 1, [.nilp]⟩, ⟨2, 1, [.nilp]⟩, ⟨3, 1, [.str []]⟩]⟩),
 (220, ⟨.struct [(0, 17), (1, 17), (2, 17), (3, 9)], 4, 40, .agg ([.nilp, .nilp, .nilp, .str []]), [⟨0, 1, [.nilp]⟩, ⟨1, 1, [.nilp]⟩, ⟨2, 1, [.nilp]⟩, ⟨3, 1, [.str []]⟩]⟩),
 (221, ⟨.arr 0 16, 0, 0, .agg ([]), []⟩),
 (222, ⟨.struct [(0, 221)], 0, 0, .agg ([]), [⟨0, 0, []⟩]⟩),
 (223, ⟨.struct [(0, 221)], 0, 0, .agg ([]), [⟨0, 0, []⟩]⟩),
 (224, ⟨.int .u8, 1, 1, .int .u8 0, []⟩),
 (225, ⟨.int .u8, 1, 1, .int .u8 0, []⟩),
 (227, ⟨.ptr 5, 1, 8, .nilp, []⟩),
 (228, ⟨.int .i32, 1, 4, .int .i32 0, []⟩),
 (229, ⟨.int .i32, 1, 4, .int .i32 0, []⟩),
 (230, ⟨.struct [(0, 12), (1, 12), (2, 122), (3, 224), (4, 5), (5, 5), (6, 225), (7, 226), (8, 227), (9, 228), (10, 229)], 11, 48, .agg ([.int .u64 0, .int .u64 0, .int .u32 0, .int .u8 0, .int .u8 0, .int .u8 0, .int .u8 0, .top, .nilp, .int .i32 0, .int .i32 0]), [⟨0, 1, [.int .u64 0]⟩, ⟨1, 1, [.int .u64 0]⟩, ⟨2, 1, [.int .u32 0]⟩, ⟨3, 1, [.int .u8 0]⟩, ⟨4, 1, [.int .u8 0]⟩, ⟨5, 1, [.int .u8 0]⟩, ⟨6, 1, [.int .u8 0]⟩, ⟨7, 1, [.top]⟩, ⟨8, 1, [.nilp]⟩, ⟨9, 1, [.int .i32 0]⟩, ⟨10, 1, [.int .i32 0]⟩]⟩),
 (231, ⟨.struct [(0, 12), (1, 12), (2, 122), (3, 224), (4, 5), (5, 5), (6, 225), (7, 226), (8, 227), (9, 228), (10, 229)], 11, 48, .agg ([.int .u64 0, .int .u64 0, .int .u32 0, .int .u8 0, .int .u8 0, .int .u8 0, .int .u8 0, .top, .nilp, .int .i32 0, .int .i32 0]), [⟨0, 1, [.int .u64 0]⟩, ⟨1, 1, [.int .u64 0]⟩, ⟨2, 1, [.int .u32 0]⟩, ⟨3, 1, [.int .u8 0]⟩, ⟨4, 1, [.int .u8 0]⟩, ⟨5, 1, [.int .u8 0]⟩, ⟨6, 1, [.int .u8 0]⟩, ⟨7, 1, [.top]⟩, ⟨8, 1, [.nilp]⟩, ⟨9, 1, [.int .i32 0]⟩, ⟨10, 1, [.int .i32 0]⟩]⟩)]
def TT : Types := lookT tyList
theorem TTok : TOK Tryz.prog TT := tabChk_ok (by kernel_rfl)
theorem mixed : Tryz.prog.follows .mixedOrders = true := by kernel_rfl
end
end Go.Proofs.YtbkclacjamlebaaGreatDoor.Abs
