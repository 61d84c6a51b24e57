/- Steps of regions on abstract states; regions in the order of the text; regions whose order is drawn. -/
import Derived.Test.YtaefmhdpfmpijaaFX
set_option linter.unusedVariables false
set_option linter.unusedSimpArgs false
namespace Go.Proofs.Ytaefmhdpfmpijaa.Abs
open Go

def St.after (st : St) (dst : Option Tmp) (x : AV) (H : Heap) (nx : Nat) (K : St → Prop) : Prop :=
  match st with
  | ⟨env, _, _, n⟩ => match dst with
    | none => K ⟨env, H, nx, n⟩
    | some d => cond (Nat.blt d n) (K ⟨setE env d x, H, nx, n⟩) False

def runP (P : Program) (T : Types) (M : FuncId → List Mode) (o : Oper) (st : St) (K : St → Prop) : Prop :=
  match st with
  | ⟨env, H, nx, n⟩ => opP P T M env H nx o.op fun x H' nx' => St.after ⟨env, H, nx, n⟩ o.dst x H' nx' K

theorem runP_eq (P : Program) (T : Types) (M : FuncId → List Mode) (o : Oper) (st : St) (K : St → Prop) :
    runP P T M o st K = opP P T M st.env st.heap st.nx o.op fun x H' nx' => st.after o.dst x H' nx' K := by cases st; rfl

def skipP (o : Oper) (st : St) (K : St → Prop) : Prop :=
  match st with
  | ⟨env, H, nx, n⟩ => St.after ⟨env, H, nx, n⟩ o.dst (.tuple []) H nx K

def guardTmp (ops : Array Oper) (j : Nat) : Option Tmp :=
  match ops[j]? with
  | some o => o.dst
  | none => none

def St.lit (st : St) (d : Tmp) (b : Bool) : St :=
  match st with
  | ⟨env, H, nx, n⟩ => ⟨setE env d (.bool b), H, nx, n⟩

/-- An operation, with its guard, if it has one. -/
def stepP (P : Program) (T : Types) (M : FuncId → List Mode) (ops : Array Oper) (o : Oper) (st : St) (K : St → Prop) : Prop :=
  match o.guard with
  | none => runP P T M o st K
  | some (j, want) => match guardTmp ops j with
    | none => False
    | some d => cond (Nat.blt d st.n) (match st.env d with
      | .bool b => ifB b (cond want (runP P T M o (st.lit d true) K) (skipP o (st.lit d true) K)) (cond want (skipP o (st.lit d false) K) (runP P T M o (st.lit d false) K))
      | .anyb => cond want (runP P T M o (st.lit d true) K) (skipP o (st.lit d true) K) ∧ cond want (skipP o (st.lit d false) K) (runP P T M o (st.lit d false) K)
      | .tuple _ => skipP o st K
      | _ => False) False

def opsP (P : Program) (T : Types) (M : FuncId → List Mode) (ops : Array Oper) : List Oper → St → (St → Prop) → Prop
  | [], st, K => K st
  | o :: r, st, K => stepP P T M ops o st fun st' => opsP P T M ops r st' K

theorem Sim.lit {Z : Nat → Prop} {E : Env} {st : St} {a : Act} (S : Sim Z E st a) {d : Tmp} {b : Bool} (h : a.tmps.getD d undef = .bool b) : Sim Z E (st.lit d b) a :=
  ⟨fun t => by
    by_cases ht : t = d
    · subst ht; simp only [St.lit, setE_same, RepV]; exact h
    · simp only [St.lit, setE_ne _ _ ht]; exact S.env t, S.sz, S.dfr, S.heap⟩

/-- What an operation that is carried out, or left, makes of the state. -/
theorem after_sim {Z : Nat → Prop} {E E' : Env} {st : St} {a : Act} (S : Sim Z E st a) {dst : Option Tmp} {x : AV} {H' : Heap} {nx' : Nat} {v : Value} {K : St → Prop}
    (A : After Z E st.heap x H' nx' v E') (h : st.after dst x H' nx' K) : ∃ st', K st' ∧ Sim Z E' st' (a.put dst v) := by
  unfold St.after at h
  obtain ⟨env, H, nx, n⟩ := st
  cases dst with
  | none => exact ⟨_, h, S.next' A⟩
  | some d =>
    simp only at h
    cases hd : Nat.blt d n with
    | false => rw [hd] at h; exact h.elim
    | true => rw [hd] at h; exact ⟨_, h, S.next (Nat.le_of_ble_eq_true hd) A⟩

theorem skip_sim {Z : Nat → Prop} {E : Env} {st : St} {a : Act} (S : Sim Z E st a) {o : Oper} {K : St → Prop} (h : skipP o st K) : ∃ st', K st' ∧ Sim Z E st' (a.put o.dst undef) := by
  obtain ⟨env, H, nx, n⟩ := st
  exact after_sim S (After.pure S.heap (x := .tuple []) (by simp [RepV, RepL, undef])) h

theorem yielded_of {ops : Array Oper} {a : Act} {j : Nat} {d : Tmp} {b : Bool} {n : Nat} (hg : guardTmp ops j = some d) (hs : a.tmps.size = n) (hd : d < n) (h : a.tmps.getD d undef = .bool b) :
    yielded ops a.tmps j = some b := by
  unfold guardTmp at hg
  split at hg
  · rename_i o ho
    have hlt : d < a.tmps.size := by rw [hs]; exact hd
    have : a.tmps[d] = .bool b := by simpa [hlt] using h
    simp [yielded, ho, hg, this, hlt]
  · cases hg

/-- The ways of a step: carried out, or left; either from a state that says the same. -/
theorem step_cases {P : Program} {T : Types} {M : FuncId → List Mode} {ops : Array Oper} {o : Oper} {Z : Nat → Prop} {E : Env} {st : St} {a : Act} {K : St → Prop} (S : Sim Z E st a)
    (h : stepP P T M ops o st K) : ∃ st1, Sim Z E st1 a ∧ st1.heap = st.heap ∧ (o.guard = none → st1 = st) ∧
      ((Region.wanted o (yielded ops a.tmps) = true ∧ runP P T M o st1 K) ∨ (Region.wanted o (yielded ops a.tmps) = false ∧ skipP o st1 K)) := by
  unfold stepP at h
  cases hg : o.guard with
  | none =>
    simp only [hg] at h
    exact ⟨st, S, rfl, fun _ => rfl, .inl ⟨by simp [Region.wanted, hg], h⟩⟩
  | some jw =>
    obtain ⟨j, want⟩ := jw
    simp only [hg] at h
    cases hd : guardTmp ops j with
    | none => rw [hd] at h; exact h.elim
    | some d =>
      rw [hd] at h
      simp only at h
      cases hb : Nat.blt d st.n with
      | false => rw [hb] at h; exact h.elim
      | true =>
        rw [hb] at h
        have hlt : d < st.n := Nat.le_of_ble_eq_true hb
        simp only [cond_true] at h
        have key : ∀ b, a.tmps.getD d undef = .bool b →
            (b = true → cond want (runP P T M o (st.lit d true) K) (skipP o (st.lit d true) K)) → (b = false → cond want (skipP o (st.lit d false) K) (runP P T M o (st.lit d false) K)) →
            ∃ st1, Sim Z E st1 a ∧ st1.heap = st.heap ∧ (some (j, want) = none → st1 = st) ∧
              ((Region.wanted o (yielded ops a.tmps) = true ∧ runP P T M o st1 K) ∨ (Region.wanted o (yielded ops a.tmps) = false ∧ skipP o st1 K)) := by
          intro b hv h1 h2
          have hy := yielded_of hd S.sz hlt hv
          refine ⟨st.lit d b, S.lit hv, rfl, nofun, ?_⟩
          cases b <;> cases want <;> simp [Region.wanted, hg, hy] at h1 h2 ⊢ <;> first | exact h1 | exact h2
        split at h
        · rename_i b he
          have hv := S.env d
          rw [he] at hv
          simp only [RepV] at hv
          exact key b hv h.1 h.2
        · rename_i he
          have hv := S.env d
          rw [he] at hv
          simp only [RepV] at hv
          obtain ⟨b, hv⟩ := hv
          exact key b hv (fun _ => h.1) (fun _ => h.2)
        · rename_i cs he
          have hv := S.env d
          rw [he] at hv
          simp only [RepV] at hv
          obtain ⟨vs, hv, _⟩ := hv
          refine ⟨st, S, rfl, fun _ => rfl, .inr ⟨?_, h⟩⟩
          have hy : yielded ops a.tmps j = none := by
            unfold guardTmp at hd
            split at hd
            · rename_i o' ho'
              have hsz : d < a.tmps.size := by rw [S.sz]; exact hlt
              have ht : a.tmps[d] = .tuple vs := by simpa [hsz] using hv
              simp [yielded, ho', hd, ht, hsz]
            · cases hd
          simp [Region.wanted, hg, hy]
        · exact h.elim

/-- From the state E to the state behind: a chain. -/
structure Chain (E : Env) (W : Nat → Prop) (E' : Env) : Prop where
  later : Later E E'
  evo : Evo W E.w E'.w

theorem Chain.refl (E : Env) (W : Nat → Prop) : Chain E W E := ⟨Later.refl E, Evo.refl _ _⟩

theorem wr_back {Z : Nat → Prop} {E E' : Env} {H H' : Heap} {nx nx' : Nat} (h : HeapRep Z E H nx) (L : Later E E') (h' : HeapRep Z E' H' nx') : ∀ b, b < E.w.heap.size → Wr E'.ρ H' b → Wr E.ρ H b := by
  rintro b hb ⟨id, cs, h1, h2⟩
  have hv : E.V b := L.V b hb ((h'.V b).2 (.inr ⟨id, cs, h1, h2⟩))
  rcases (h.V b).1 hv with hz | hw
  · exact absurd hz (h'.apart id b (by rw [h1]; simp) h2)
  · exact hw

theorem Chain.next {Z : Nat → Prop} {E E' E'' : Env} {H H' : Heap} {nx nx' : Nat} (h : HeapRep Z E H nx) (c : Chain E (Wr E.ρ H) E') (h' : HeapRep Z E' H' nx') (L : Later E' E'') (ev : Evo (Wr E'.ρ H') E'.w E''.w) :
    Chain E (Wr E.ρ H) E'' :=
  ⟨c.later.trans L, c.evo.trans ev fun b hb hw => wr_back h c.later h' b hb hw⟩

/-- What is left of a region, from the states it began with. -/
def RegPost (Z : Nat → Prop) (E : Env) (H : Heap) (K : St → Prop) (e : Exit) (a : Act) (w : World) : Prop :=
  ∃ st' E', e = .normal ∧ K st' ∧ Sim Z E' st' a ∧ E'.w = w ∧ Chain E (Wr E.ρ H) E'

theorem opsP_sound {P : Program} {T : Types} (hT : TOK P T) {M : FuncId → List Mode} {ops : Array Oper} {Z : Nat → Prop} {E : Env} {H : Heap} {nx : Nat} (h0 : HeapRep Z E H nx) {K : St → Prop} :
    ∀ (l : List Oper) (st : St) (E1 : Env) (a : Act), Sim Z E1 st a → Chain E (Wr E.ρ H) E1 → opsP P T M ops l st K → wpList P ops (RegPost Z E H K) l a E1.w
  | [], st, E1, a, S, c, h => by
    unfold wpList
    exact ⟨st, E1, rfl, h, S, rfl, c⟩
  | o :: r, st, E1, a, S, c, h => by
    unfold opsP at h
    obtain ⟨st1, S1, e1, e2, hh⟩ := step_cases S h
    unfold wpList
    rcases hh with ⟨hw, hr⟩ | ⟨hw, hs⟩
    · rw [if_pos hw]
      left
      rw [runP_eq] at hr
      refine opP_sound hT S1 hr _ _ fun x H' nx' E' v hk A => ?_
      obtain ⟨st', hk', S'⟩ := after_sim S1 A hk
      exact opsP_sound hT h0 r st' E' _ S' (c.next h0 S1.heap A.later A.evo) hk'
    · rw [if_neg (by simp [hw])]
      obtain ⟨st', hk', S'⟩ := skip_sim S1 hs
      exact opsP_sound hT h0 r st' E1 _ S' c hk'

/-- How a region whose order is drawn is walked: which operation is taken first, or which may come up. -/
inductive Plan where
  | done
  | take (i : Nat) (p : Plan)
  | all (ps : List (Nat × Plan))

def roLoad (st : St) : Op → Bool
  | .load _ a => match evalO st.env a with
    | .rop (_ :: _) => true
    | _ => false
  | _ => false

def isLoad : Op → Bool
  | .load _ _ => true
  | _ => false

mutual
/-- The plan fits the region; `x`: no operation of it changes memory. -/
def planOk (T : Types) (x : Bool) (ops : Array Oper) : Nat → Array Bool → Plan → Bool
  | fuel, listed, .done => (Region.ready .any ops listed).isEmpty
  | 0, _, .take _ _ => false
  | fuel + 1, listed, .take i p => match ops[i]? with
    | some o => (Region.ready .any ops listed).contains i && Region.free .any ops listed i && (pureOp T o.op || (isLoad o.op && (x || o.guard.isNone))) && planOk T x ops fuel (listed.setIfInBounds i true) p
    | none => false
  | 0, _, .all _ => false
  | fuel + 1, listed, .all ps => !x && !ps.isEmpty && (Region.ready .any ops listed == ps.map (·.1)) && planOks T x ops fuel listed ps
def planOks (T : Types) (x : Bool) (ops : Array Oper) : Nat → Array Bool → List (Nat × Plan) → Bool
  | _, _, [] => true
  | fuel, listed, (i, p) :: r => planOk T x ops fuel (listed.setIfInBounds i true) p && planOks T x ops fuel listed r
end

mutual
def planP (P : Program) (T : Types) (M : FuncId → List Mode) (x : Bool) (ops : Array Oper) : Plan → St → (St → Prop) → Prop
  | .done, st, K => K st
  | .take i p, st, K => match ops[i]? with
    | some o => cond (isLoad o.op && !x) (roLoad st o.op = true ∧ stepP P T M ops o st fun st' => planP P T M x ops p st' K) (stepP P T M ops o st fun st' => planP P T M x ops p st' K)
    | none => False
  | .all ps, st, K => plansP P T M x ops ps st K
def plansP (P : Program) (T : Types) (M : FuncId → List Mode) (x : Bool) (ops : Array Oper) : List (Nat × Plan) → St → (St → Prop) → Prop
  | [], _, _ => True
  | (i, p) :: r, st, K => match ops[i]? with
    | some o => match r with
      | [] => stepP P T M ops o st fun st' => planP P T M x ops p st' K
      | _ :: _ => (stepP P T M ops o st fun st' => planP P T M x ops p st' K) ∧ plansP P T M x ops r st K
    | none => False
end

end Go.Proofs.Ytaefmhdpfmpijaa.Abs
