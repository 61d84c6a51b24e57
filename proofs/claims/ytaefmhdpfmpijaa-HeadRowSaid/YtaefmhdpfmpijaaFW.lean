/- Operations, regions in the order of the text, code: what the evaluator says of them holds. -/
import Derived.Test.YtaefmhdpfmpijaaFV
set_option linter.unusedVariables false
set_option linter.unusedSimpArgs false
namespace Go.Proofs.Ytaefmhdpfmpijaa.Abs
open Go

def evalPs (env : Nat → AV) : List (Nat × Operand) → List (Nat × AV)
  | [] => []
  | (i, x) :: r => (i, evalO env x) :: evalPs env r

def evalL (env : Nat → AV) : List Operand → List AV
  | [] => []
  | x :: r => evalO env x :: evalL env r

def evalOpt (env : Nat → AV) : Option Operand → Option AV
  | none => none
  | some x => some (evalO env x)

def minP (xs : List AV) (K : AV → Prop) : Prop :=
  match xs with
  | [.int k a, .int _ b] => K (.int k (if b < a then b else a))
  | _ => False

def builtinP (T : Types) (H : Heap) (nx : Nat) (b : Builtin) (ts : List TypeId) (xs : List AV) (K : AV → Heap → Nat → Prop) : Prop :=
  match b, ts, xs with
  | .len, [t], [x] => lenP T t x fun v => K v H nx
  | .append, [t, tx], [x, y] => appendP T H nx t tx x y K
  | .copy, [t, tx], [x, y] => copyP T H t x y fun v H' => K v H' nx
  | .min, _, xs => minP xs fun v => K v H nx
  | _, _, _ => False

/-- Is it a test of equality of what is no number, truth value or string? -/
def eqKind (op : BinOp) (x : AV) : Bool :=
  match op with
  | .eql | .neq => match x with
    | .bool _ | .agg _ | .ptr _ _ | .rop _ | .nil | .ro _ _ | .sl _ _ _ _ _ => true
    | _ => false
  | _ => false

/-- What an operation does to an abstract state: its value, the heap, the next name. -/
def opP (P : Program) (T : Types) (M : FuncId → List Mode) (env : Nat → AV) (H : Heap) (nx : Nat) (o : Op) (K : AV → Heap → Nat → Prop) : Prop :=
  match o with
  | .move x => force (evalO env x) fun v => K v H nx
  | .assign x => force (evalO env x) fun v => K v H nx
  | .pick c a b => match evalO env c with
    | .bool t => ifB t (force (evalO env a) fun v => K v H nx) (force (evalO env b) fun v => K v H nx)
    | _ => False
  | .alloc e => allocP T H nx e K
  | .box e x => boxP H nx (evalO env x) K
  | .build t ps => buildP T t (evalPs env ps.toList) fun v => K v H nx
  | .buildSlice t n ps => buildSliceP T H nx t n (evalPs env ps.toList) K
  | .load t a => loadP T H t (evalO env a) fun v => force v fun v => K v H nx
  | .store t a x => force (evalO env x) fun X => storeP T H t (evalO env a) X fun H' => K .top H' nx
  | .nilCheck x => match evalO env x with
    | .ptr id off => K (.ptr id off) H nx
    | .rop cs => K (.rop cs) H nx
    | _ => False
  | .binOp op t x y _ => match eqKind op (evalO env x) with
    | false => binQ op (evalO env x) (evalO env y) fun v => K v H nx
    | true => match op with
      | .eql => eqP T t (evalO env x) (evalO env y) (fun v => K v H nx) .bool
      | .neq => eqP T t (evalO env x) (evalO env y) (fun v => K v H nx) fun b => .bool (!b)
      | _ => False
  | .unOp op _ x => unP op (evalO env x) fun v => K v H nx
  | .convert src dst x => convP T H nx src dst (evalO env x) K
  | .sliceToArrayPointer t x => arrayAtP T t (evalO env x) fun v => K v H nx
  | .makeSlice t l c => makeSliceP T H nx t (evalO env l) (evalO env c) K
  | .slice t x lo hi mx => match mx with
    | none => sliceP T H t (evalO env x) (evalOpt env lo) (evalOpt env hi) fun v => K v H nx
    | some _ => False
  | .fieldAddr t x f => fieldAddrP T t (evalO env x) f fun v => K v H nx
  | .field t x f => fieldP T t (evalO env x) f fun v => K v H nx
  | .indexAddr t x i => indexAddrP T t (evalO env x) (evalO env i) fun v => K v H nx
  | .index t x i => indexP T t (evalO env x) (evalO env i) fun v => K v H nx
  | .extract x i => extractP (evalO env x) i fun v => force v fun v => K v H nx
  | .makeFunc f first caps => match first.toList with
    | [] => K (.fn f (evalL env caps.toList)) H nx
    | _ => False
  | .call c => match c.callee with
    | .builtin b => builtinP T H nx b c.argTypes.toList (evalL env c.args.toList) K
    | .value f => match evalO env f with
      | .fn (.func g) caps => callP P (M g) g H nx (evalL env c.args.toList ++ caps) K
      | _ => False
    | _ => False
  | _ => False

theorem rep_evalL {Z : Nat → Prop} {E : Env} {st : St} {a : Act} (S : Sim Z E st a) : ∀ xs : List Operand, RepL E (evalL st.env xs) (xs.map a.eval)
  | [] => by simp [evalL, RepL]
  | x :: xs => by simp only [evalL, List.map_cons, RepL]; exact ⟨_, _, rfl, rep_evalO S x, rep_evalL S xs⟩

theorem rep_evalPs {Z : Nat → Prop} {E : Env} {st : St} {a : Act} (S : Sim Z E st a) : ∀ ps : List (Nat × Operand), RepPs E (evalPs st.env ps) (ps.map fun p => (p.1, a.eval p.2))
  | [] => by simp [evalPs, RepPs]
  | (i, x) :: ps => by simp only [evalPs, List.map_cons, RepPs]; exact ⟨_, _, rfl, rep_evalO S x, rep_evalPs S ps⟩

theorem rep_evalOpt {Z : Nat → Prop} {E : Env} {st : St} {a : Act} (S : Sim Z E st a) (x : Option Operand) : RepO E (evalOpt st.env x) (x.map a.eval) := by
  cases x with
  | none => simp [evalOpt, RepO]
  | some x => simp only [evalOpt, Option.map_some, RepO]; exact ⟨_, rfl, rep_evalO S x⟩

/-- The operation is carried out, and what it leaves is as K says. -/
def OpOk (P : Program) (Z : Nat → Prop) (E : Env) (st : St) (a : Act) (o : Oper) (K : AV → Heap → Nat → Prop) : Prop :=
  ∀ (next : Act → World → Prop) (Q : Exit → Act → World → Prop),
    (∀ x H' nx' E' v, K x H' nx' → After Z E st.heap x H' nx' v E' → next (a.put o.dst v) E'.w) → o.wp P a E.w next Q

theorem ok_value {P : Program} {Z : Nat → Prop} {E : Env} {st : St} {a : Act} {o : Oper} {K : AV → Heap → Nat → Prop} {x : AV} {H' : Heap} {nx' : Nat} {E' : Env} {v : Value}
    (hrun : (execOp a.eval o).run P E.w = .ok (.value v) E'.w) (hk : K x H' nx') (ha : After Z E st.heap x H' nx' v E') : OpOk P Z E st a o K := by
  intro next Q h
  unfold Oper.wp
  rw [hrun]
  exact h x H' nx' E' v hk ha

theorem ok_pure {P : Program} {Z : Nat → Prop} {E : Env} {st : St} {a : Act} {o : Oper} {K : AV → Heap → Nat → Prop} {x : AV} {v : Value} (S : Sim Z E st a)
    (hrun : (execOp a.eval o).run P E.w = .ok (.value v) E.w) (hk : K x st.heap st.nx) (hr : RepV E x v) : OpOk P Z E st a o K :=
  ok_value hrun hk (After.pure S.heap hr)

theorem vrun {P : Program} {s : Sem Value} {w w' : World} {v : Value} (h : s.run P w = .ok v w') : (do Pure.pure (Next.value (← s)) : Sem Next).run P w = .ok (.value v) w' := by
  simp [h]

theorem repL2 {E : Env} {xs : List AV} {vs : List Value} (h : RepL E xs vs) {x y : AV} (hx : xs = [x, y]) : ∃ u v, vs = [u, v] ∧ RepV E x u ∧ RepV E y v := by
  subst hx
  simp only [RepL] at h
  obtain ⟨u, us, rfl, hu, v, vs, rfl, hv, rfl⟩ := h
  exact ⟨u, v, rfl, hu, hv⟩

theorem repL1 {E : Env} {xs : List AV} {vs : List Value} (h : RepL E xs vs) {x : AV} (hx : xs = [x]) : ∃ u, vs = [u] ∧ RepV E x u := by
  subst hx
  simp only [RepL] at h
  obtain ⟨u, us, rfl, hu, rfl⟩ := h
  exact ⟨u, rfl, hu⟩

theorem builtinP_sound {P : Program} {T : Types} (hT : TOK P T) {Z : Nat → Prop} {E : Env} {H : Heap} {nx : Nat} (hr : HeapRep Z E H nx) {b : Builtin} {ts : List TypeId} {xs : List AV} {vs : List Value} {ty : TypeId} {cn : Array Bool}
    {K : AV → Heap → Nat → Prop} (hx : RepL E xs vs) (h : builtinP T H nx b ts xs K) :
    ∃ x H' nx' E' v, K x H' nx' ∧ (builtin b ts.toArray ty cn vs.toArray).run P E.w = .ok (.value v) E'.w ∧ After Z E H x H' nx' v E' := by
  unfold builtinP at h
  split at h
  · rename_i t x
    obtain ⟨u, rfl, hu⟩ := repL1 hx rfl
    obtain ⟨y, r, h1, h2, h3⟩ := lenP_sound (ty := ty) hT hu h
    exact ⟨y, H, nx, E, r, h1, vrun (h2 E.w), After.pure hr h3⟩
  · rename_i t tx x y
    obtain ⟨u, v, rfl, hu, hv⟩ := repL2 hx rfl
    obtain ⟨z, H', nx', E', r, h1, h2, h3⟩ := appendP_sound (ty := ty) hT hr hu hv h
    exact ⟨z, H', nx', E', r, h1, vrun h2, h3⟩
  · rename_i t tx x y
    obtain ⟨u, v, rfl, hu, hv⟩ := repL2 hx rfl
    obtain ⟨z, H', E', r, h1, h2, h3⟩ := copyP_sound (tx := tx) (ty := ty) hT hr hu hv h
    exact ⟨z, H', nx, E', r, h1, vrun h2, h3⟩
  · unfold minP at h
    split at h
    · rename_i k a k' b
      obtain ⟨u, v, rfl, hu, hv⟩ := repL2 hx rfl
      simp only [RepV] at hu hv
      subst hu; subst hv
      exact ⟨_, H, nx, E, _, h, vrun (run_min_int2 E.w ts.toArray ty k k' a b), After.pure hr (rep_int E _ _)⟩
    · exact h.elim
  · exact h.elim

theorem toArray_map {α β : Type} (f : α → β) (xs : Array α) : (xs.toList.map f).toArray = xs.map f := by
  cases xs; simp

theorem eq_binOp {T : Types} {E : Env} {t : TypeId} {X Y : AV} {u v : Value} {K : AV → Prop} {f : Bool → AV} (hu : RepV E X u) (h : eqP T t X Y K f) :
    binOp .eql t u v = (do Pure.pure (.bool (← Op.equal t u v))) ∧ binOp .neq t u v = (do Pure.pure (.bool (!(← Op.equal t u v)))) := by
  unfold eqP at h
  split at h
  · simp only [RepV] at hu; obtain ⟨vs, rfl, _⟩ := hu; exact ⟨rfl, rfl⟩
  · simp only [RepV] at hu; subst hu; exact ⟨rfl, rfl⟩
  · simp only [RepV] at hu; obtain ⟨n, _, rfl⟩ := hu; exact ⟨rfl, rfl⟩
  · simp only [RepV] at hu; obtain ⟨b, off, rfl, _⟩ := hu; exact ⟨rfl, rfl⟩
  · simp only [RepV] at hu; subst hu; exact ⟨rfl, rfl⟩
  · simp only [RepV] at hu; obtain ⟨b, off, rfl, _⟩ := hu; exact ⟨rfl, rfl⟩
  · simp only [RepV] at hu; obtain ⟨b, off, rfl, _⟩ := hu; exact ⟨rfl, rfl⟩
  · exact h.elim

set_option maxHeartbeats 2000000 in
theorem opP_sound {P : Program} {T : Types} (hT : TOK P T) {M : FuncId → List Mode} {Z : Nat → Prop} {E : Env} {st : St} {a : Act} (S : Sim Z E st a) {o : Oper} {K : AV → Heap → Nat → Prop}
    (h : opP P T M st.env st.heap st.nx o.op K) : OpOk P Z E st a o K := by
  have hE := fun x => rep_evalO S x
  unfold opP at h
  split at h
  · rename_i x ho; rw [force_eq] at h; exact ok_pure S (by simp [execOp, ho]) h (hE x)
  · rename_i x ho; rw [force_eq] at h; exact ok_pure S (by simp [execOp, ho]) h (hE x)
  · rename_i c x y ho
    split at h
    · rename_i t hc
      have hcv := hE c
      rw [hc] at hcv
      simp only [RepV] at hcv
      simp only [force_eq] at h
      cases t with
      | true => exact ok_pure S (by simp [execOp, ho, hcv, asBool]) (h.1 rfl) (hE x)
      | false => exact ok_pure S (by simp [execOp, ho, hcv, asBool]) (h.2 rfl) (hE y)
    · exact h.elim
  · rename_i e ho
    obtain ⟨x, H', nx', E', r, h1, h2, h3⟩ := allocP_sound hT S.heap h
    exact ok_value (by simp only [execOp, ho]; exact vrun h2) h1 h3
  · rename_i e x ho
    obtain ⟨x', H', nx', E', r, h1, h2, h3⟩ := boxP_sound (P := P) (e := e) S.heap (hE x) h
    exact ok_value (by simp only [execOp, ho]; exact vrun h2) h1 h3
  · rename_i t ps ho
    obtain ⟨x', r, h1, h2, h3⟩ := buildP_sound hT S.heap.one (rep_evalPs S ps.toList) h
    refine ok_pure S ?_ h1 h3
    simp only [execOp, ho]
    have := h2 E.w
    rw [toArray_map] at this
    exact vrun this
  · rename_i t n ps ho
    obtain ⟨x', H', nx', E', r, h1, h2, h3⟩ := buildSliceP_sound hT S.heap (rep_evalPs S ps.toList) h
    refine ok_value ?_ h1 h3
    simp only [execOp, ho]
    rw [toArray_map] at h2
    exact vrun h2
  · rename_i t x ho
    simp only [force_eq] at h
    obtain ⟨x', r, h1, h2, h3⟩ := loadP_sound hT S.heap (hE x) h
    exact ok_pure S (by simp only [execOp, ho]; exact vrun h2) h1 h3
  · rename_i t x y ho
    rw [force_eq] at h
    obtain ⟨H', E', h1, h2, h3, h4, h5⟩ := storeP_sound hT S.heap (hE x) (hE y) h
    intro next Q hn
    have hrun : (execOp a.eval o).run P E.w = .ok .skip E'.w := by simp [execOp, ho, h2]
    unfold Oper.wp
    rw [hrun]
    exact hn .top H' st.nx E' undef h1 ⟨h3, h4, by simp [RepV], h5⟩
  · rename_i x ho
    split at h
    · rename_i id off hc
      have hv := hE x
      rw [hc] at hv
      have hv' := hv
      simp only [RepV] at hv'
      obtain ⟨n, hn, hv'⟩ := hv'
      refine ok_pure S ?_ h hv
      simp [execOp, ho, hv']
    · rename_i cs hc
      have hv := hE x
      rw [hc] at hv
      have hv' := hv
      simp only [RepV] at hv'
      obtain ⟨b, off, hv', _⟩ := hv'
      refine ok_pure S ?_ h hv
      simp [execOp, ho, hv']
    · exact h.elim
  · rename_i op t x y ty ho
    split at h
    · obtain ⟨x', r, h1, h2, h3⟩ := binP_sound (P := P) (hE x) (hE y) h
      refine ok_pure S ?_ h1 h2
      simp only [execOp, ho]
      exact vrun (h3 t x y E.w)
    · split at h
      · obtain ⟨x', b, h1, h2, h3, h4⟩ := eqP_sound (g := fun b => b) hT (fun _ => rfl) (hE x) (hE y) h
        refine ok_pure S (v := .bool b) ?_ h1 h2
        simp only [execOp, ho]
        refine vrun ?_
        simp only [Sem.run_bind, h4, Result.andThen_ok]
        rw [(eq_binOp (hE x) h).1, Sem.run_bind, h3]
        rfl
      · obtain ⟨x', b, h1, h2, h3, h4⟩ := eqP_sound (g := fun b => !b) hT (fun _ => rfl) (hE x) (hE y) h
        refine ok_pure S (v := .bool (!b)) ?_ h1 h2
        simp only [execOp, ho]
        refine vrun ?_
        simp only [Sem.run_bind, h4, Result.andThen_ok]
        rw [(eq_binOp (hE x) h).2, Sem.run_bind, h3]
        rfl
      · exact h.elim
  · rename_i op t x ho
    obtain ⟨x', r, h1, h2, h3⟩ := unP_sound (P := P) (hE x) h
    exact ok_pure S (by simp only [execOp, ho]; exact vrun (h3 E.w)) h1 h2
  · rename_i src dst x ho
    obtain ⟨x', H', nx', E', r, h1, h2, h3⟩ := convP_sound hT S.heap (hE x) h
    exact ok_value (by simp only [execOp, ho]; exact vrun h2) h1 h3
  · rename_i t x ho
    obtain ⟨x', r, h1, h2, h3⟩ := arrayAtP_sound hT (hE x) h
    exact ok_pure S (by simp only [execOp, ho]; exact vrun (h2 E.w)) h1 h3
  · rename_i t l c ho
    obtain ⟨x', H', nx', E', r, h1, h2, h3⟩ := makeSliceP_sound hT S.heap (hE l) (hE c) h
    exact ok_value (by simp only [execOp, ho]; exact vrun h2) h1 h3
  · rename_i t x lo hi mx ho
    split at h
    · obtain ⟨x', r, h1, h2, h3⟩ := sliceP_sound hT S.heap (hE x) (rep_evalOpt S lo) (rep_evalOpt S hi) h
      exact ok_pure S (by simp only [execOp, ho, Option.map_none]; exact vrun (h2 E.w)) h1 h3
    · exact h.elim
  · rename_i t x f ho
    obtain ⟨x', r, h1, h2, h3⟩ := fieldAddrP_sound hT (hE x) h
    exact ok_pure S (by simp only [execOp, ho]; exact vrun (h2 E.w)) h1 h3
  · rename_i t x f ho
    obtain ⟨x', r, h1, h2, h3⟩ := fieldP_sound hT (hE x) h
    exact ok_pure S (by simp only [execOp, ho]; exact vrun (h2 E.w)) h1 h3
  · rename_i t x i ho
    obtain ⟨x', r, h1, h2, h3⟩ := indexAddrP_sound hT (hE x) (hE i) h
    exact ok_pure S (by simp only [execOp, ho]; exact vrun (h2 E.w)) h1 h3
  · rename_i t x i ho
    obtain ⟨x', r, h1, h2, h3⟩ := indexP_sound hT (hE x) (hE i) h
    exact ok_pure S (by simp only [execOp, ho]; exact vrun (h2 E.w)) h1 h3
  · rename_i x i ho
    simp only [force_eq] at h
    obtain ⟨x', r, h1, h2, h3⟩ := extractP_sound (P := P) (hE x) h
    exact ok_pure S (by simp only [execOp, ho]; exact vrun (h2 E.w)) h1 h3
  · rename_i f first caps ho
    split at h
    · rename_i hf
      have hfe : first = #[] := by simpa using hf
      refine ok_pure S (v := .func f #[] (caps.map a.eval)) ?_ h ?_
      · simp only [execOp, ho, hfe]
        simp [Instr.makeFunc]
      · simp only [RepV]
        refine ⟨_, rfl, ?_⟩
        have := rep_evalL S caps.toList
        simpa using this
    · exact h.elim
  · rename_i c ho
    split at h
    · rename_i b hcal
      obtain ⟨x', H', nx', E', r, h1, h2, h3⟩ := builtinP_sound (ty := o.type) (cn := c.args.map fun | .const _ => true | _ => false) hT S.heap (rep_evalL S c.args.toList) h
      refine ok_value ?_ h1 h3
      simp only [execOp, ho, resolve, hcal, Sem.run_bind, Sem.run_pure, Result.andThen_ok, invoke]
      have e1 : (c.args.toList.map a.eval).toArray = c.args.map a.eval := toArray_map _ _
      rw [e1, Array.toArray_toList] at h2
      exact h2
    · rename_i f hcal
      split at h
      · rename_i g caps hf
        have hv := hE f
        rw [hf] at hv
        simp only [RepV] at hv
        obtain ⟨vs, hv, hcaps⟩ := hv
        have hargs : RepL E (evalL st.env c.args.toList ++ caps) (c.args.toList.map a.eval ++ vs.toList) := by
          have : ∀ (xs ys : List AV) (us ws : List Value), RepL E xs us → RepL E ys ws → RepL E (xs ++ ys) (us ++ ws) := by
            intro xs
            induction xs with
            | nil => intro ys us ws h1 h2; simp only [RepL] at h1; subst h1; exact h2
            | cons x xs ih =>
              intro ys us ws h1 h2
              simp only [RepL] at h1
              obtain ⟨u, us', rfl, hu, h1⟩ := h1
              simp only [List.cons_append, RepL]
              exact ⟨u, us' ++ ws, rfl, hu, ih ys us' ws h1 h2⟩
          exact this _ _ _ _ (rep_evalL S c.args.toList) hcaps
        have hex : Enters P g := by
          have h0 := h
          unfold callP at h0
          obtain ⟨ys, ids, bs, ⟨_, r, outs, hc, _⟩, _⟩ := passAll_ok _ _ _ h0
          exact hc.1
        have hc := callP_sound S.heap hargs h
        intro next Q hn
        have hrun : (execOp a.eval o).run P E.w = .ok (.enter g (c.args.map a.eval ++ vs)) E.w := by
          simp only [execOp, ho, resolve, hcal, Sem.run_bind, hv, Deferred.ofValue, Sem.run_pure, Result.andThen_ok, invoke]
          rw [Array.empty_append]
          exact hex _ _
        unfold Oper.wp
        rw [hrun, Oper.upon_enter]
        have he : (c.args.toList.map a.eval ++ vs.toList).toArray = c.args.map a.eval ++ vs := by simp
        rw [he] at hc
        refine hc.mono ?_
        rintro e w' ⟨x', H', nx', E', v, rfl, hk, rfl, ha⟩
        exact hn x' H' nx' E' v hk ha
      · exact h.elim
    · exact h.elim
  · exact h.elim

end Go.Proofs.Ytaefmhdpfmpijaa.Abs
