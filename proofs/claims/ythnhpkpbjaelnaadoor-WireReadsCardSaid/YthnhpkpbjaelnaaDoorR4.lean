/- Texts FW to GD, merged. -/
import Derived.OrdersHeld
import Derived.Laws.Sem
import Derived.Test.YthnhpkpbjaelnaaDoorR3
set_option linter.unusedVariables false
set_option linter.unusedSimpArgs false
namespace Go.Proofs.YthnhpkpbjaelnaaDoor.Abs
open Go
section

def evalPs (env : Nat → AV) : List (Nat × Operand) → List (Nat × AV)
 | [] => []
 | (i, x) :: r => (i, evalO env x) :: evalPs env r
def evalL (env : Nat → AV) : List Operand → List AV
 | [] => []
 | x :: r => evalO env x :: evalL env r
def evalOpt (env : Nat → AV) : Option Operand → Option AV
 | none => none
 | some x => some (evalO env x)
def minP (xs : List AV) (K : AV → Prop) : Prop :=
 match xs with
 | [.int k a, .int _ b] => K (.int k (if b < a then b else a))
 | _ => False
def apB (T : Types) (H : Heap) (nx : Nat) (t tx : TypeId) (x y : AV) (K : AV → Heap → Nat → Prop) : Prop :=
 match x, y with
 | .nil, .int .i64 n => appendZ T H nx t tx n K
 | _, _ => appendP T H nx t tx x y K
def capP (T : Types) (t : TypeId) (x : AV) (K : AV → Prop) : Prop :=
 match T t, x with
 | some ⟨.slice _, _, _, _, _⟩, .nil => K (.int .i64 0)
 | _, _ => False
theorem apB_sound {P : Program} {T : Types} (hT : TOK P T) {Z : Nat → Prop} {E : Env} {H : Heap} {nx : Nat} (hr : HeapRep Z E H nx) {t tx ty : TypeId} {B X : AV} {vb vx : Value} {K : AV → Heap → Nat → Prop}
  (hb : RepV E B vb) (hx : RepV E X vx) (h : apB T H nx t tx B X K) :
  ∃ x H' nx' E' r, K x H' nx' ∧ (Builtin.append_ #[t, tx] ty #[vb, vx]).run P E.w = .ok r E'.w ∧ After Z E H x H' nx' r E' := by
 unfold apB at h
 split at h
 ·simp only [RepV] at hb hx
  subst hb; subst hx
  exact appendZ_sound hT hr h
 ·exact appendP_sound hT hr hb hx h
theorem capP_sound {P : Program} {T : Types} (hT : TOK P T) {E : Env} {t ty : TypeId} {X : AV} {v : Value} {K : AV → Prop} (hx : RepV E X v) (h : capP T t X K) :
  ∃ y r, K y ∧ (∀ w, (Builtin.cap_ #[t] ty #[v]).run P w = .ok r w) ∧ RepV E y r := by
 unfold capP at h
 split at h
 ·rename_i e a b z sg ht
  obtain ⟨d, hd, hdo, _⟩ := (hT t _ ht).und
  have ho' : d = .slice e := hdo
  subst ho'
  simp only [RepV] at hx
  subst hx
  exact ⟨_, _, h, fun w => cap_nil (ts := #[]) w hd, rep_int E _ _⟩
 ·exact h.elim
def builtinP (T : Types) (H : Heap) (nx : Nat) (b : Builtin) (ts : List TypeId) (xs : List AV) (K : AV → Heap → Nat → Prop) : Prop :=
 match b, ts, xs with
 | .len, [t], [x] => lenP T t x fun v => K v H nx
 | .append, [t, tx], [x, y] => apB T H nx t tx x y K
 | .cap, [t], [x] => capP T t x fun v => K v H nx
 | .copy, [t, tx], [x, y] => copyP T H t x y fun v H' => K v H' nx
 | .min, _, xs => minP xs fun v => K v H nx
 | _, _, _ => False
def eqKind (op : BinOp) (x : AV) : Bool :=
 match op with
 | .eql | .neq => match x with
  | .bool _ | .agg _ | .ptr _ _ | .rop _ | .nil | .ro _ _ | .sl _ _ _ _ _ => true
  | _ => false
 | _ => false
def opP (P : Program) (T : Types) (M : FuncId → List Mode) (env : Nat → AV) (H : Heap) (nx : Nat) (o : Op) (K : AV → Heap → Nat → Prop) : Prop :=
 match o with
 | .move x => force (evalO env x) fun v => K v H nx
 | .assign x => force (evalO env x) fun v => K v H nx
 | .pick c a b => match evalO env c with
  | .bool t => ifB t (force (evalO env a) fun v => K v H nx) (force (evalO env b) fun v => K v H nx)
  | _ => False
 | .alloc e => allocP T H nx e K
 | .box e x => boxP H nx (evalO env x) K
 | .build t ps => buildP T t (evalPs env ps.toList) fun v => K v H nx
 | .buildSlice t n ps => buildSliceP T H nx t n (evalPs env ps.toList) K
 | .load t a => loadP T H t (evalO env a) fun v => force v fun v => K v H nx
 | .store t a x => force (evalO env x) fun X => storeP T H t (evalO env a) X fun H' => K .top H' nx
 | .nilCheck x => match evalO env x with
  | .ptr id off => K (.ptr id off) H nx
  | .rop cs => K (.rop cs) H nx
  | _ => False
 | .binOp op t x y _ => match eqKind op (evalO env x) with
  | false => binQ op (evalO env x) (evalO env y) fun v => K v H nx
  | true => match op with
   | .eql => eqP T t (evalO env x) (evalO env y) (fun v => K v H nx) .bool
   | .neq => eqP T t (evalO env x) (evalO env y) (fun v => K v H nx) fun b => .bool (!b)
   | _ => False
 | .unOp op _ x => unP op (evalO env x) fun v => K v H nx
 | .convert src dst x => cond (Nat.beq src dst && isSlV (evalO env x)) (strishP T H nx src (evalO env x) K) (convP T H nx src dst (evalO env x) K)
 | .sliceToArrayPointer t x => arrayAtP T t (evalO env x) fun v => K v H nx
 | .makeSlice t l c => makeSliceP T H nx t (evalO env l) (evalO env c) K
 | .slice t x lo hi mx => match mx with
  | none => sliceP T H t (evalO env x) (evalOpt env lo) (evalOpt env hi) fun v => K v H nx
  | some m => slice3P T t (evalO env x) (evalOpt env lo) (evalOpt env hi) (evalO env m) fun v => K v H nx
 | .fieldAddr t x f => fieldAddrP T t (evalO env x) f fun v => K v H nx
 | .field t x f => fieldP T t (evalO env x) f fun v => K v H nx
 | .indexAddr t x i => indexAddrP T t (evalO env x) (evalO env i) fun v => K v H nx
 | .index t x i => indexP T t (evalO env x) (evalO env i) fun v => K v H nx
 | .extract x i => extractP (evalO env x) i fun v => force v fun v => K v H nx
 | .makeFunc f first caps => match first.toList with
  | [] => K (.fn f (evalL env caps.toList)) H nx
  | _ => False
 | .call c => match c.callee with
  | .builtin b => builtinP T H nx b c.argTypes.toList (evalL env c.args.toList) K
  | .value f => match evalO env f with
   | .fn (.func g) caps => cond (isCmp (M g)) (cmpP P g H (evalL env c.args.toList ++ caps) fun v => K v H nx) (callQ P (M g) g H nx (evalL env c.args.toList ++ caps) K)
   | _ => False
  | _ => False
 | _ => False
theorem rep_evalL {Z : Nat → Prop} {E : Env} {st : St} {a : Act} (S : Sim Z E st a) : ∀ xs : List Operand, RepL E (evalL st.env xs) (xs.map a.eval)
 | [] => by simp [evalL, RepL]
 | x :: xs => by simp only [evalL, List.map_cons, RepL]; exact ⟨_, _, rfl, rep_evalO S x, rep_evalL S xs⟩
theorem rep_evalPs {Z : Nat → Prop} {E : Env} {st : St} {a : Act} (S : Sim Z E st a) : ∀ ps : List (Nat × Operand), RepPs E (evalPs st.env ps) (ps.map fun p => (p.1, a.eval p.2))
 | [] => by simp [evalPs, RepPs]
 | (i, x) :: ps => by simp only [evalPs, List.map_cons, RepPs]; exact ⟨_, _, rfl, rep_evalO S x, rep_evalPs S ps⟩
theorem rep_evalOpt {Z : Nat → Prop} {E : Env} {st : St} {a : Act} (S : Sim Z E st a) (x : Option Operand) : RepO E (evalOpt st.env x) (x.map a.eval) := by
 cases x with
 | none => simp [evalOpt, RepO]
 | some x => simp only [evalOpt, Option.map_some, RepO]; exact ⟨_, rfl, rep_evalO S x⟩
def OpOk (P : Program) (Z : Nat → Prop) (E : Env) (st : St) (a : Act) (o : Oper) (K : AV → Heap → Nat → Prop) : Prop :=
 ∀ (next : Act → World → Prop) (Q : Exit → Act → World → Prop),
  (∀ x H' nx' E' v, K x H' nx' → After Z E st.heap x H' nx' v E' → next (a.put o.dst v) E'.w) → o.wp P a E.w next Q
theorem ok_value {P : Program} {Z : Nat → Prop} {E : Env} {st : St} {a : Act} {o : Oper} {K : AV → Heap → Nat → Prop} {x : AV} {H' : Heap} {nx' : Nat} {E' : Env} {v : Value}
  (hrun : (execOp a.eval o).run P E.w = .ok (.value v) E'.w) (hk : K x H' nx') (ha : After Z E st.heap x H' nx' v E') : OpOk P Z E st a o K := by
 intro next Q h
 unfold Oper.wp
 rw [hrun]
 exact h x H' nx' E' v hk ha
theorem ok_pure {P : Program} {Z : Nat → Prop} {E : Env} {st : St} {a : Act} {o : Oper} {K : AV → Heap → Nat → Prop} {x : AV} {v : Value} (S : Sim Z E st a)
  (hrun : (execOp a.eval o).run P E.w = .ok (.value v) E.w) (hk : K x st.heap st.nx) (hr : RepV E x v) : OpOk P Z E st a o K :=
 ok_value hrun hk (After.pure S.heap hr)
theorem vrun {P : Program} {s : Sem Value} {w w' : World} {v : Value} (h : s.run P w = .ok v w') : (do Pure.pure (Next.value (← s)) : Sem Next).run P w = .ok (.value v) w' := by
 simp [h]
theorem repL2 {E : Env} {xs : List AV} {vs : List Value} (h : RepL E xs vs) {x y : AV} (hx : xs = [x, y]) : ∃ u v, vs = [u, v] ∧ RepV E x u ∧ RepV E y v := by
 subst hx
 simp only [RepL] at h
 obtain ⟨u, us, rfl, hu, v, vs, rfl, hv, rfl⟩ := h
 exact ⟨u, v, rfl, hu, hv⟩
theorem repL1 {E : Env} {xs : List AV} {vs : List Value} (h : RepL E xs vs) {x : AV} (hx : xs = [x]) : ∃ u, vs = [u] ∧ RepV E x u := by
 subst hx
 simp only [RepL] at h
 obtain ⟨u, us, rfl, hu, rfl⟩ := h
 exact ⟨u, rfl, hu⟩
theorem builtinP_sound {P : Program} {T : Types} (hT : TOK P T) {Z : Nat → Prop} {E : Env} {H : Heap} {nx : Nat} (hr : HeapRep Z E H nx) {b : Builtin} {ts : List TypeId} {xs : List AV} {vs : List Value} {ty : TypeId} {cn : Array Bool}
  {K : AV → Heap → Nat → Prop} (hx : RepL E xs vs) (h : builtinP T H nx b ts xs K) :
  ∃ x H' nx' E' v, K x H' nx' ∧ (builtin b ts.toArray ty cn vs.toArray).run P E.w = .ok (.value v) E'.w ∧ After Z E H x H' nx' v E' := by
 unfold builtinP at h
 split at h
 ·rename_i t x
  obtain ⟨u, rfl, hu⟩ := repL1 hx rfl
  obtain ⟨y, r, h1, h2, h3⟩ := lenP_sound (ty := ty) hT hu h
  exact ⟨y, H, nx, E, r, h1, vrun (h2 E.w), After.pure hr h3⟩
 ·rename_i t tx x y
  obtain ⟨u, v, rfl, hu, hv⟩ := repL2 hx rfl
  obtain ⟨z, H', nx', E', r, h1, h2, h3⟩ := apB_sound (ty := ty) hT hr hu hv h
  exact ⟨z, H', nx', E', r, h1, vrun h2, h3⟩
 ·rename_i t x
  obtain ⟨u, rfl, hu⟩ := repL1 hx rfl
  obtain ⟨y, r, h1, h2, h3⟩ := capP_sound (ty := ty) hT hu h
  exact ⟨y, H, nx, E, r, h1, vrun (h2 E.w), After.pure hr h3⟩
 ·rename_i t tx x y
  obtain ⟨u, v, rfl, hu, hv⟩ := repL2 hx rfl
  obtain ⟨z, H', E', r, h1, h2, h3⟩ := copyP_sound (tx := tx) (ty := ty) hT hr hu hv h
  exact ⟨z, H', nx, E', r, h1, vrun h2, h3⟩
 ·unfold minP at h
  split at h
  ·rename_i k a k' b
   obtain ⟨u, v, rfl, hu, hv⟩ := repL2 hx rfl
   simp only [RepV] at hu hv
   subst hu; subst hv
   exact ⟨_, H, nx, E, _, h, vrun (run_min_int2 E.w ts.toArray ty k k' a b), After.pure hr (rep_int E _ _)⟩
  ·exact h.elim
 ·exact h.elim
theorem toArray_map {α β : Type} (f : α → β) (xs : Array α) : (xs.toList.map f).toArray = xs.map f := by
 cases xs; simp
theorem eq_binOp {T : Types} {E : Env} {t : TypeId} {X Y : AV} {u v : Value} {K : AV → Prop} {f : Bool → AV} (hu : RepV E X u) (h : eqP T t X Y K f) :
  binOp .eql t u v = (do Pure.pure (.bool (← Op.equal t u v))) ∧ binOp .neq t u v = (do Pure.pure (.bool (!(← Op.equal t u v)))) := by
 unfold eqP at h
 split at h
 ·simp only [RepV] at hu; obtain ⟨vs, rfl, _⟩ := hu; exact ⟨rfl, rfl⟩
 ·simp only [RepV] at hu; subst hu; exact ⟨rfl, rfl⟩
 ·simp only [RepV] at hu; obtain ⟨n, _, rfl⟩ := hu; exact ⟨rfl, rfl⟩
 ·simp only [RepV] at hu; obtain ⟨b, off, rfl, _⟩ := hu; exact ⟨rfl, rfl⟩
 ·simp only [RepV] at hu; subst hu; exact ⟨rfl, rfl⟩
 ·simp only [RepV] at hu; obtain ⟨b, off, rfl, _⟩ := hu; exact ⟨rfl, rfl⟩
 ·simp only [RepV] at hu; obtain ⟨b, off, rfl, _⟩ := hu; exact ⟨rfl, rfl⟩
 ·exact h.elim
set_option maxHeartbeats 2000000 in
theorem opP_sound {P : Program} {T : Types} (hT : TOK P T) {M : FuncId → List Mode} {Z : Nat → Prop} {E : Env} {st : St} {a : Act} (S : Sim Z E st a) {o : Oper} {K : AV → Heap → Nat → Prop}
  (h : opP P T M st.env st.heap st.nx o.op K) : OpOk P Z E st a o K := by
 have hE := fun x => rep_evalO S x
 unfold opP at h
 split at h
 ·rename_i x ho; rw [force_eq] at h; exact ok_pure S (by simp [execOp, ho]) h (hE x)
 ·rename_i x ho; rw [force_eq] at h; exact ok_pure S (by simp [execOp, ho]) h (hE x)
 ·rename_i c x y ho
  split at h
  ·rename_i t hc
   have hcv := hE c
   rw [hc] at hcv
   simp only [RepV] at hcv
   simp only [force_eq] at h
   cases t with
   | true => exact ok_pure S (by simp [execOp, ho, hcv, asBool]) (h.1 rfl) (hE x)
   | false => exact ok_pure S (by simp [execOp, ho, hcv, asBool]) (h.2 rfl) (hE y)
  ·exact h.elim
 ·rename_i e ho
  obtain ⟨x, H', nx', E', r, h1, h2, h3⟩ := allocP_sound hT S.heap h
  exact ok_value (by simp only [execOp, ho]; exact vrun h2) h1 h3
 ·rename_i e x ho
  obtain ⟨x', H', nx', E', r, h1, h2, h3⟩ := boxP_sound (P := P) (e := e) S.heap (hE x) h
  exact ok_value (by simp only [execOp, ho]; exact vrun h2) h1 h3
 ·rename_i t ps ho
  obtain ⟨x', r, h1, h2, h3⟩ := buildP_sound hT S.heap.one (rep_evalPs S ps.toList) h
  refine ok_pure S ?_ h1 h3
  simp only [execOp, ho]
  have := h2 E.w
  rw [toArray_map] at this
  exact vrun this
 ·rename_i t n ps ho
  obtain ⟨x', H', nx', E', r, h1, h2, h3⟩ := buildSliceP_sound hT S.heap (rep_evalPs S ps.toList) h
  refine ok_value ?_ h1 h3
  simp only [execOp, ho]
  rw [toArray_map] at h2
  exact vrun h2
 ·rename_i t x ho
  simp only [force_eq] at h
  obtain ⟨x', r, h1, h2, h3⟩ := loadP_sound hT S.heap (hE x) h
  exact ok_pure S (by simp only [execOp, ho]; exact vrun h2) h1 h3
 ·rename_i t x y ho
  rw [force_eq] at h
  obtain ⟨H', E', h1, h2, h3, h4, h5⟩ := storeP_sound hT S.heap (hE x) (hE y) h
  intro next Q hn
  have hrun : (execOp a.eval o).run P E.w = .ok .skip E'.w := by simp [execOp, ho, h2]
  unfold Oper.wp
  rw [hrun]
  exact hn .top H' st.nx E' undef h1 ⟨h3, h4, by simp [RepV], h5⟩
 ·rename_i x ho
  split at h
  ·rename_i id off hc
   have hv := hE x
   rw [hc] at hv
   have hv' := hv
   simp only [RepV] at hv'
   obtain ⟨n, hn, hv'⟩ := hv'
   refine ok_pure S ?_ h hv
   simp [execOp, ho, hv']
  ·rename_i cs hc
   have hv := hE x
   rw [hc] at hv
   have hv' := hv
   simp only [RepV] at hv'
   obtain ⟨b, off, hv', _⟩ := hv'
   refine ok_pure S ?_ h hv
   simp [execOp, ho, hv']
  ·exact h.elim
 ·rename_i op t x y ty ho
  split at h
  ·obtain ⟨x', r, h1, h2, h3⟩ := binP_sound (P := P) (hE x) (hE y) h
   refine ok_pure S ?_ h1 h2
   simp only [execOp, ho]
   exact vrun (h3 t x y E.w)
  ·split at h
   ·obtain ⟨x', b, h1, h2, h3, h4⟩ := eqP_sound (g := fun b => b) hT (fun _ => rfl) (hE x) (hE y) h
    refine ok_pure S (v := .bool b) ?_ h1 h2
    simp only [execOp, ho]
    refine vrun ?_
    simp only [Sem.run_bind, h4, Result.andThen_ok]
    rw [(eq_binOp (hE x) h).1, Sem.run_bind, h3]
    rfl
   ·obtain ⟨x', b, h1, h2, h3, h4⟩ := eqP_sound (g := fun b => !b) hT (fun _ => rfl) (hE x) (hE y) h
    refine ok_pure S (v := .bool (!b)) ?_ h1 h2
    simp only [execOp, ho]
    refine vrun ?_
    simp only [Sem.run_bind, h4, Result.andThen_ok]
    rw [(eq_binOp (hE x) h).2, Sem.run_bind, h3]
    rfl
   ·exact h.elim
 ·rename_i op t x ho
  obtain ⟨x', r, h1, h2, h3⟩ := unP_sound (P := P) (hE x) h
  exact ok_pure S (by simp only [execOp, ho]; exact vrun (h3 E.w)) h1 h2
 ·rename_i src dst x ho
  cases hc : (Nat.beq src dst && isSlV (evalO st.env x)) with
  | true =>
   rw [hc, cond_true] at h
   simp only [Bool.and_eq_true] at hc
   obtain rfl := Nat.eq_of_beq_eq_true hc.1
   obtain ⟨x', H', nx', E', r, h1, h2, h3⟩ := strishP_sound hT S.heap (hE x) h
   exact ok_value (by simp only [execOp, ho]; exact vrun h2) h1 h3
  | false =>
  rw [hc, cond_false] at h
  obtain ⟨x', H', nx', E', r, h1, h2, h3⟩ := convP_sound hT S.heap (hE x) h
  exact ok_value (by simp only [execOp, ho]; exact vrun h2) h1 h3
 ·rename_i t x ho
  obtain ⟨x', r, h1, h2, h3⟩ := arrayAtP_sound hT (hE x) h
  exact ok_pure S (by simp only [execOp, ho]; exact vrun (h2 E.w)) h1 h3
 ·rename_i t l c ho
  obtain ⟨x', H', nx', E', r, h1, h2, h3⟩ := makeSliceP_sound hT S.heap (hE l) (hE c) h
  exact ok_value (by simp only [execOp, ho]; exact vrun h2) h1 h3
 ·rename_i t x lo hi mx ho
  split at h
  ·obtain ⟨x', r, h1, h2, h3⟩ := sliceP_sound hT S.heap (hE x) (rep_evalOpt S lo) (rep_evalOpt S hi) h
   exact ok_pure S (by simp only [execOp, ho, Option.map_none]; exact vrun (h2 E.w)) h1 h3
  ·rename_i m
   obtain ⟨x', r, h1, h2, h3⟩ := slice3P_sound hT (hE x) (rep_evalOpt S lo) (rep_evalOpt S hi) (hE m) h
   exact ok_pure S (by simp only [execOp, ho, Option.map_some]; exact vrun (h2 E.w)) h1 h3
 ·rename_i t x f ho
  obtain ⟨x', r, h1, h2, h3⟩ := fieldAddrP_sound hT (hE x) h
  exact ok_pure S (by simp only [execOp, ho]; exact vrun (h2 E.w)) h1 h3
 ·rename_i t x f ho
  obtain ⟨x', r, h1, h2, h3⟩ := fieldP_sound hT (hE x) h
  exact ok_pure S (by simp only [execOp, ho]; exact vrun (h2 E.w)) h1 h3
 ·rename_i t x i ho
  obtain ⟨x', r, h1, h2, h3⟩ := indexAddrP_sound hT (hE x) (hE i) h
  exact ok_pure S (by simp only [execOp, ho]; exact vrun (h2 E.w)) h1 h3
 ·rename_i t x i ho
  obtain ⟨x', r, h1, h2, h3⟩ := indexP_sound hT (hE x) (hE i) h
  exact ok_pure S (by simp only [execOp, ho]; exact vrun (h2 E.w)) h1 h3
 ·rename_i x i ho
  simp only [force_eq] at h
  obtain ⟨x', r, h1, h2, h3⟩ := extractP_sound (P := P) (hE x) h
  exact ok_pure S (by simp only [execOp, ho]; exact vrun (h2 E.w)) h1 h3
 ·rename_i f first caps ho
  split at h
  ·rename_i hf
   have hfe : first = #[] := by simpa using hf
   refine ok_pure S (v := .func f #[] (caps.map a.eval)) ?_ h ?_
   ·simp only [execOp, ho, hfe]
    simp [Instr.makeFunc]
   ·simp only [RepV]
    refine ⟨_, rfl, ?_⟩
    have := rep_evalL S caps.toList
    simpa using this
  ·exact h.elim
 ·rename_i c ho
  split at h
  ·rename_i b hcal
   obtain ⟨x', H', nx', E', r, h1, h2, h3⟩ := builtinP_sound (ty := o.type) (cn := c.args.map fun | .const _ => true | _ => false) hT S.heap (rep_evalL S c.args.toList) h
   refine ok_value ?_ h1 h3
   simp only [execOp, ho, resolve, hcal, Sem.run_bind, Sem.run_pure, Result.andThen_ok, invoke]
   have e1 : (c.args.toList.map a.eval).toArray = c.args.map a.eval := toArray_map _ _
   rw [e1, Array.toArray_toList] at h2
   exact h2
  ·rename_i f hcal
   split at h
   ·rename_i g caps hf
    have hv := hE f
    rw [hf] at hv
    simp only [RepV] at hv
    obtain ⟨vs, hv, hcaps⟩ := hv
    have hargs : RepL E (evalL st.env c.args.toList ++ caps) (c.args.toList.map a.eval ++ vs.toList) := by
     have : ∀ (xs ys : List AV) (us ws : List Value), RepL E xs us → RepL E ys ws → RepL E (xs ++ ys) (us ++ ws) := by
      intro xs
      induction xs with
      | nil => intro ys us ws h1 h2; simp only [RepL] at h1; subst h1; exact h2
      | cons x xs ih =>
       intro ys us ws h1 h2
       simp only [RepL] at h1
       obtain ⟨u, us', rfl, hu, h1⟩ := h1
       simp only [List.cons_append, RepL]
       exact ⟨u, us' ++ ws, rfl, hu, ih ys us' ws h1 h2⟩
     exact this _ _ _ _ (rep_evalL S c.args.toList) hcaps
    cases hcmp : isCmp (M g) with
    | true =>
     rw [hcmp, cond_true] at h
     obtain ⟨x', v, h1, h2, h3⟩ := cmpP_sound S.heap hargs h
     refine ok_pure S ?_ h1 h2
     simp only [execOp, ho, resolve, hcal, Sem.run_bind, hv, Deferred.ofValue, Sem.run_pure, Result.andThen_ok, invoke]
     rw [Array.empty_append]
     have he : (c.args.toList.map a.eval ++ vs.toList).toArray = c.args.map a.eval ++ vs := by simp
     rw [he] at h3
     exact h3
    | false =>
    rw [hcmp, cond_false] at h
    have hex : Enters P g := callQ_enters h
    have hc := callQ_sound S.heap hargs h
    intro next Q hn
    have hrun : (execOp a.eval o).run P E.w = .ok (.enter g (c.args.map a.eval ++ vs)) E.w := by
     simp only [execOp, ho, resolve, hcal, Sem.run_bind, hv, Deferred.ofValue, Sem.run_pure, Result.andThen_ok, invoke]
     rw [Array.empty_append]
     exact hex _ _
    unfold Oper.wp
    rw [hrun, Oper.upon_enter]
    have he : (c.args.toList.map a.eval ++ vs.toList).toArray = c.args.map a.eval ++ vs := by simp
    rw [he] at hc
    refine hc.mono ?_
    rintro e w' ⟨x', H', nx', E', v, rfl, hk, rfl, ha⟩
    exact hn x' H' nx' E' v hk ha
   ·exact h.elim
  ·exact h.elim
 ·exact h.elim
end
section

def intT (T : Types) (t : TypeId) : Bool :=
 match T t with
 | some i => match i.d with
  | .int _ => true
  | _ => false
 | none => false
def pureOp (T : Types) : Op → Bool
 | .move _ | .assign _ | .pick .. | .build .. | .nilCheck _ | .binOp .. | .unOp .. | .sliceToArrayPointer .. | .slice .. | .fieldAddr .. | .field .. | .indexAddr .. | .index .. | .extract .. => true
 | .convert src dst _ => intT T dst
 | .call c => match c.callee with
  | .builtin .len => true
  | .builtin .min => true
  | _ => false
 | _ => false
theorem run_of_value {P : Program} {s : Sem Value} {v : Value} (h : ∀ w, s.run P w = .ok v w) : ∀ w, (do Pure.pure (Next.value (← s)) : Sem Next).run P w = .ok (.value v) w := by
 intro w
 simp [h]
set_option maxHeartbeats 1000000 in
theorem opP_yields {P : Program} {T : Types} (hT : TOK P T) {M : FuncId → List Mode} {Z : Nat → Prop} {E : Env} {st : St} {a : Act} (S : Sim Z E st a) {o : Oper} {K : AV → Heap → Nat → Prop}
  (hp : pureOp T o.op = true) (h : opP P T M st.env st.heap st.nx o.op K) :
  ∃ x v, K x st.heap st.nx ∧ RepV E x v ∧ ∀ w, (execOp a.eval o).run P w = .ok (.value v) w := by
 have hE := fun x => rep_evalO S x
 unfold opP at h
 split at h
 ·rename_i x ho; rw [force_eq] at h; exact ⟨_, _, h, hE x, fun w => by simp [execOp, ho]⟩
 ·rename_i x ho; rw [force_eq] at h; exact ⟨_, _, h, hE x, fun w => by simp [execOp, ho]⟩
 ·rename_i c x y ho
  split at h
  ·rename_i t hc
   have hcv := hE c
   rw [hc] at hcv
   simp only [RepV] at hcv
   simp only [force_eq] at h
   cases t with
   | true => exact ⟨_, _, h.1 rfl, hE x, fun w => by simp [execOp, ho, hcv, asBool]⟩
   | false => exact ⟨_, _, h.2 rfl, hE y, fun w => by simp [execOp, ho, hcv, asBool]⟩
  ·exact h.elim
 ·rename_i ho; rw [ho] at hp; simp [pureOp] at hp
 ·rename_i ho; rw [ho] at hp; simp [pureOp] at hp
 ·rename_i t ps ho
  obtain ⟨x', r, h1, h2, h3⟩ := buildP_sound hT S.heap.one (rep_evalPs S ps.toList) h
  rw [toArray_map] at h2
  exact ⟨x', r, h1, h3, by simp only [execOp, ho]; exact run_of_value h2⟩
 ·rename_i ho; rw [ho] at hp; simp [pureOp] at hp
 ·rename_i ho; rw [ho] at hp; simp [pureOp] at hp
 ·rename_i ho; rw [ho] at hp; simp [pureOp] at hp
 ·rename_i x ho
  split at h
  ·rename_i id off hc
   have hv := hE x
   rw [hc] at hv
   have hv' := hv
   simp only [RepV] at hv'
   obtain ⟨n, hn, hv'⟩ := hv'
   exact ⟨_, _, h, hv, fun w => by simp [execOp, ho, hv']⟩
  ·rename_i cs hc
   have hv := hE x
   rw [hc] at hv
   have hv' := hv
   simp only [RepV] at hv'
   obtain ⟨b, off, hv', _⟩ := hv'
   exact ⟨_, _, h, hv, fun w => by simp [execOp, ho, hv']⟩
  ·exact h.elim
 ·rename_i op t x y ty ho
  split at h
  ·obtain ⟨x', r, h1, h2, h3⟩ := binP_sound (P := P) (hE x) (hE y) h
   exact ⟨x', r, h1, h2, by simp only [execOp, ho]; exact run_of_value (h3 t x y)⟩
  ·split at h
   ·obtain ⟨x', b, h1, h2, h3, h4⟩ := eqP_sound (g := fun b => b) hT (fun _ => rfl) (hE x) (hE y) h
    refine ⟨x', .bool b, h1, h2, ?_⟩
    simp only [execOp, ho]
    refine run_of_value fun w => ?_
    simp only [Sem.run_bind, h4, Result.andThen_ok]
    rw [(eq_binOp (hE x) h).1, Sem.run_bind, h3]
    rfl
   ·obtain ⟨x', b, h1, h2, h3, h4⟩ := eqP_sound (g := fun b => !b) hT (fun _ => rfl) (hE x) (hE y) h
    refine ⟨x', .bool (!b), h1, h2, ?_⟩
    simp only [execOp, ho]
    refine run_of_value fun w => ?_
    simp only [Sem.run_bind, h4, Result.andThen_ok]
    rw [(eq_binOp (hE x) h).2, Sem.run_bind, h3]
    rfl
   ·exact h.elim
 ·rename_i op t x ho
  obtain ⟨x', r, h1, h2, h3⟩ := unP_sound (P := P) (hE x) h
  exact ⟨x', r, h1, h2, by simp only [execOp, ho]; exact run_of_value h3⟩
 ·rename_i src dst x ho
  rw [ho] at hp
  simp only [pureOp, intT] at hp
  have h : convP T st.heap st.nx src dst (evalO st.env x) K := by
   cases hc : (Nat.beq src dst && isSlV (evalO st.env x)) with
   | false => rw [hc, cond_false] at h; exact h
   | true =>
    exfalso
    rw [hc, cond_true] at h
    simp only [Bool.and_eq_true] at hc
    obtain rfl := Nat.eq_of_beq_eq_true hc.1
    unfold strishP at h
    split at h
    case h_2 => exact h
    split at h
    case h_2 => exact h
    rename_i e a b c d _ ht _
    rw [ht] at hp
    cases hp
  unfold convP at h
  split at h
  case h_2 => exact h.elim
  rename_i si di hs hd
  obtain ⟨ds, hds, hso, _⟩ := (hT src _ hs).und
  obtain ⟨dd, hdd, hdo, _⟩ := (hT dst _ hd).und
  rw [hd] at hp
  simp only at hp
  split at hp
  case h_2 => cases hp
  rename_i k hdk
  rw [hdk] at hdo
  have ho' : dd = .int k := hdo
  subst ho'
  simp only [hdk] at h
  split at h
  ·rename_i k1 k2 n hk hxv
   injection hk with hk
   subst hk
   have hv := hE x
   rw [hxv] at hv
   simp only [RepV] at hv
   refine ⟨_, _, h.elim, rep_int E _ _, ?_⟩
   simp only [execOp, ho]
   exact run_of_value fun w => by simp [hv, convert, run_underlying hds, run_underlying hdd, Conv.intToInt]
  all_goals first | exact h.elim | (rename_i hk _; cases hk) | (rename_i hk _ _; cases hk) | (rename_i hk; cases hk)
 ·rename_i t x ho
  obtain ⟨x', r, h1, h2, h3⟩ := arrayAtP_sound hT (hE x) h
  exact ⟨x', r, h1, h3, by simp only [execOp, ho]; exact run_of_value h2⟩
 ·rename_i ho; rw [ho] at hp; simp [pureOp] at hp
 ·rename_i t x lo hi mx ho
  split at h
  ·obtain ⟨x', r, h1, h2, h3⟩ := sliceP_sound hT S.heap (hE x) (rep_evalOpt S lo) (rep_evalOpt S hi) h
   exact ⟨x', r, h1, h3, by simp only [execOp, ho, Option.map_none]; exact run_of_value h2⟩
  ·rename_i m
   obtain ⟨x', r, h1, h2, h3⟩ := slice3P_sound hT (hE x) (rep_evalOpt S lo) (rep_evalOpt S hi) (hE m) h
   exact ⟨x', r, h1, h3, by simp only [execOp, ho, Option.map_some]; exact run_of_value h2⟩
 ·rename_i t x f ho
  obtain ⟨x', r, h1, h2, h3⟩ := fieldAddrP_sound hT (hE x) h
  exact ⟨x', r, h1, h3, by simp only [execOp, ho]; exact run_of_value h2⟩
 ·rename_i t x f ho
  obtain ⟨x', r, h1, h2, h3⟩ := fieldP_sound hT (hE x) h
  exact ⟨x', r, h1, h3, by simp only [execOp, ho]; exact run_of_value h2⟩
 ·rename_i t x i ho
  obtain ⟨x', r, h1, h2, h3⟩ := indexAddrP_sound hT (hE x) (hE i) h
  exact ⟨x', r, h1, h3, by simp only [execOp, ho]; exact run_of_value h2⟩
 ·rename_i t x i ho
  obtain ⟨x', r, h1, h2, h3⟩ := indexP_sound hT (hE x) (hE i) h
  exact ⟨x', r, h1, h3, by simp only [execOp, ho]; exact run_of_value h2⟩
 ·rename_i x i ho
  simp only [force_eq] at h
  obtain ⟨x', r, h1, h2, h3⟩ := extractP_sound (P := P) (hE x) h
  exact ⟨x', r, h1, h3, by simp only [execOp, ho]; exact run_of_value h2⟩
 ·rename_i ho; rw [ho] at hp; simp [pureOp] at hp
 ·rename_i c ho
  rw [ho] at hp
  split at h
  ·rename_i b hcal
   simp only [pureOp, hcal] at hp
   have hargs := rep_evalL S c.args.toList
   simp only [execOp, ho, resolve, hcal, Sem.run_bind, Sem.run_pure, Result.andThen_ok, invoke]
   have e1 : (c.args.toList.map a.eval).toArray = c.args.map a.eval := toArray_map _ _
   have e2 : c.argTypes.toList.toArray = c.argTypes := Array.toArray_toList
   rw [← e1, ← e2]
   revert h hargs
   generalize c.args.toList.map a.eval = vs
   generalize evalL st.env c.args.toList = xs
   generalize c.argTypes.toList = ts
   intro h hargs
   unfold builtinP at h
   split at h
   ·rename_i t x
    obtain ⟨u, rfl, hu⟩ := repL1 hargs rfl
    obtain ⟨y, r, h1, h2, h3⟩ := lenP_sound (ty := o.type) hT hu h
    exact ⟨y, r, h1, h3, run_of_value h2⟩
   ·simp at hp
   ·simp at hp
   ·simp at hp
   ·unfold minP at h
    split at h
    ·rename_i k a' k' b'
     obtain ⟨u, v, rfl, hu, hv⟩ := repL2 hargs rfl
     simp only [RepV] at hu hv
     subst hu; subst hv
     exact ⟨_, _, h, rep_int E _ _, run_of_value fun w => run_min_int2 w _ _ k k' a' b'⟩
    ·exact h.elim
   ·exact h.elim
  ·rename_i f hcal
   simp [pureOp, hcal] at hp
  ·exact h.elim
 ·exact h.elim
theorem hids_det {E : Env} : ∀ (ns : List Nat) (vs : List Value), RepL E (ns.map AV.hid) vs → vs = ns.map E.η
 | [], vs, h => by simpa [RepL] using h
 | n :: ns, vs, h => by
  simp only [List.map_cons, RepL, RepV] at h
  obtain ⟨u, us, rfl, rfl, h⟩ := h
  rw [hids_det ns us h, List.map_cons]
theorem load_cong {P : Program} {T : Types} (hT : TOK P T) {E : Env} {t : TypeId} {b off : Nat} {cs : List AV} {K : AV → Prop} {v : Value}
  (hm : ∀ (j : Nat) x, cs[j]? = some x → ∃ u, E.w.cell? ⟨b, off + j, none⟩ = some u ∧ RepV E x u) (h : getP T t cs K) (hv : (loadVar t ⟨b, off, none⟩).run P E.w = .ok v E.w)
  {w' : World} (hs : w'.heap[b]? = E.w.heap[b]?) : (loadVar t ⟨b, off, none⟩).run P w' = .ok v w' := by
 let η : Nat → Value := fun j => (E.w.cell? ⟨b, off + j, none⟩).getD undef
 let ds : List AV := (List.range cs.length).map AV.hid
 have hlen : ds.length = cs.length := by simp [ds]
 have hds : ∀ (w : World) (hw : ∀ j, w.cell? ⟨b, off + j, none⟩ = E.w.cell? ⟨b, off + j, none⟩) (j : Nat) x, ds[j]? = some x →
   ∃ u, w.cell? ⟨b, off + j, none⟩ = some u ∧ RepV { E with η := η, w := w } x u := by
  intro w hw j x hx
  have hj : j < cs.length := by
   rcases Nat.lt_or_ge j ds.length with h' | h'
   ·omega
   ·rw [List.getElem?_eq_none h'] at hx; cases hx
  obtain ⟨u, hu, _⟩ := hm j cs[j] (by simp)
  refine ⟨u, by rw [hw]; exact hu, ?_⟩
  simp only [ds, List.getElem?_map, List.getElem?_range hj, Option.map_some] at hx
  injection hx with hx
  subst hx
  simp only [RepV, η, hu, Option.getD_some]
 have hg : ∃ y : AV, getP T t ds (fun x => x = y) ∧ ∀ (w1 w2 : World) v1 v2, RepV { E with η := η, w := w1 } y v1 → RepV { E with η := η, w := w2 } y v2 → v1 = v2 := by
  unfold getP at h ⊢
  split at h
  ·rename_i i hi
   cases ha : i.d.agg
   case true =>
    simp only [ha] at h
    obtain ⟨r, hr, h⟩ := h
    obtain ⟨hl, rfl⟩ := takeN_spec _ _ _ hr
    refine ⟨_, ⟨_, takeN_eq i.size ds (by omega), rfl⟩, fun w1 w2 v1 v2 h1 h2 => ?_⟩
    simp only [RepV] at h1 h2
    obtain ⟨a1, rfl, h1⟩ := h1
    obtain ⟨a2, rfl, h2⟩ := h2
    have hd : ds.take i.size = (List.range (min i.size cs.length)).map AV.hid := by
     simp only [ds, ← List.map_take, List.take_range]
    rw [hd] at h1 h2
    have e1 := hids_det _ _ h1
    have e2 := hids_det _ _ h2
    congr 1
    exact Array.toList_inj.1 (e1.trans e2.symm)
   case false =>
    simp only [ha] at h
    obtain ⟨x, hx, h⟩ := h
    have hc : 0 < cs.length := by
     rcases Nat.lt_or_ge 0 cs.length with h' | h'
     ·exact h'
     ·rw [List.getElem?_eq_none h'] at hx; cases hx
    have : ds[0]? = some (.hid 0) := by simp [ds, List.getElem?_range hc]
    refine ⟨_, ⟨_, this, rfl⟩, fun w1 w2 v1 v2 h1 h2 => ?_⟩
    simp only [RepV] at h1 h2
    rw [h1, h2]
  ·exact h.elim
 obtain ⟨y, hg, hdet⟩ := hg
 obtain ⟨x1, v1, rfl, r1, p1⟩ := getP_sound (P := P) hT (E := { E with η := η }) (b := b) (off := off) (hds E.w fun _ => rfl) hg
 obtain ⟨x2, v2, rfl, r2, p2⟩ := getP_sound (P := P) hT (E := { E with η := η, w := w' }) (b := b) (off := off) (hds w' fun j => cell_of_same (a := ⟨b, off + j, none⟩) hs) hg
 have hv1 : v1 = v := by
  have := r1.symm.trans hv
  injection this
 have := hdet _ _ _ _ p1 p2
 rw [← hv1, this]
 exact r2
theorem loadP_at {P : Program} {T : Types} (hT : TOK P T) {Z : Nat → Prop} {E : Env} {H : Heap} {nx : Nat} (hr : HeapRep Z E H nx) {t : TypeId} {A : AV} {va : Value} {K : AV → Prop}
  (ha : RepV E A va) (h : loadP T H t A K) : ∃ x v b, K x ∧ RepV E x v ∧ (∀ w', w'.heap[b]? = E.w.heap[b]? → (Instr.loadAt t va).run P w' = .ok v w') ∧
   (∀ c cs, A = .rop (c :: cs) → ¬ E.V b ∧ b < E.w.heap.size) := by
 unfold loadP at h
 split at h
 ·rename_i id off
  simp only [RepV] at ha
  obtain ⟨n, hn, rfl⟩ := ha
  split at h
  ·rename_i cs hcs
   have hm : ∀ (j : Nat) x, (cs.drop off)[j]? = some x → ∃ u, E.w.cell? ⟨n, off + j, none⟩ = some u ∧ RepV E x u := fun j x hx => blk_cells hr hcs hn (off + j) x (by simpa using hx)
   obtain ⟨x, v, h1, h2, h3⟩ := getP_sound (P := P) hT (b := n) (off := off) (E := E) hm h
   exact ⟨x, v, n, h1, h3, fun w' hs => by simp [Instr.loadAt, Instr.sureAddr, load_cong hT hm h h2 hs], nofun⟩
  ·exact h.elim
 ·rename_i cs
  simp only [RepV] at ha
  obtain ⟨b, off, rfl, hc⟩ := ha
  rcases hc with rfl | ⟨hV, hm⟩
  ·have hm : ∀ (j : Nat) x, ([] : List AV)[j]? = some x → ∃ u, E.w.cell? ⟨b, off + j, none⟩ = some u ∧ RepV E x u := fun j x hx => by simp at hx
   obtain ⟨x, v, h1, h2, h3⟩ := getP_sound (P := P) hT (b := b) (off := off) (E := E) hm h
   exact ⟨x, v, b, h1, h3, fun w' hs => by simp [Instr.loadAt, Instr.sureAddr, load_cong hT hm h h2 hs], nofun⟩
  ·have hm' := repM_get cs b off hm
   obtain ⟨x, v, h1, h2, h3⟩ := getP_sound (P := P) hT (b := b) (off := off) (E := E) hm' h
   refine ⟨x, v, b, h1, h3, fun w' hs => by simp [Instr.loadAt, Instr.sureAddr, load_cong hT hm' h h2 hs], fun c ds he => ⟨hV, ?_⟩⟩
   injection he with he
   subst he
   obtain ⟨u, hu, _⟩ := hm' 0 c rfl
   exact World.block_lt_of_cell? _ _ hu
 ·exact h.elim
end
section

def St.after (st : St) (dst : Option Tmp) (x : AV) (H : Heap) (nx : Nat) (K : St → Prop) : Prop :=
 match st with
 | ⟨env, _, _, n⟩ => match dst with
  | none => K ⟨env, H, nx, n⟩
  | some d => cond (Nat.blt d n) (K ⟨setE env d x, H, nx, n⟩) False
def runP (P : Program) (T : Types) (M : FuncId → List Mode) (o : Oper) (st : St) (K : St → Prop) : Prop :=
 match st with
 | ⟨env, H, nx, n⟩ => opP P T M env H nx o.op fun x H' nx' => St.after ⟨env, H, nx, n⟩ o.dst x H' nx' K
theorem runP_eq (P : Program) (T : Types) (M : FuncId → List Mode) (o : Oper) (st : St) (K : St → Prop) :
  runP P T M o st K = opP P T M st.env st.heap st.nx o.op fun x H' nx' => st.after o.dst x H' nx' K := by cases st; rfl
def skipP (o : Oper) (st : St) (K : St → Prop) : Prop :=
 match st with
 | ⟨env, H, nx, n⟩ => St.after ⟨env, H, nx, n⟩ o.dst (.tuple []) H nx K
def guardTmp (ops : Array Oper) (j : Nat) : Option Tmp :=
 match ops[j]? with
 | some o => o.dst
 | none => none
def St.lit (st : St) (d : Tmp) (b : Bool) : St :=
 match st with
 | ⟨env, H, nx, n⟩ => ⟨setE env d (.bool b), H, nx, n⟩
def stepP (P : Program) (T : Types) (M : FuncId → List Mode) (ops : Array Oper) (o : Oper) (st : St) (K : St → Prop) : Prop :=
 match o.guard with
 | none => runP P T M o st K
 | some (j, want) => match guardTmp ops j with
  | none => False
  | some d => cond (Nat.blt d st.n) (match st.env d with
   | .bool b => ifB b (cond want (runP P T M o (st.lit d true) K) (skipP o (st.lit d true) K)) (cond want (skipP o (st.lit d false) K) (runP P T M o (st.lit d false) K))
   | .anyb => cond want (runP P T M o (st.lit d true) K) (skipP o (st.lit d true) K) ∧ cond want (skipP o (st.lit d false) K) (runP P T M o (st.lit d false) K)
   | .tuple _ => skipP o st K
   | _ => False) False
def opsP (P : Program) (T : Types) (M : FuncId → List Mode) (ops : Array Oper) : List Oper → St → (St → Prop) → Prop
 | [], st, K => K st
 | o :: r, st, K => stepP P T M ops o st fun st' => opsP P T M ops r st' K
theorem Sim.lit {Z : Nat → Prop} {E : Env} {st : St} {a : Act} (S : Sim Z E st a) {d : Tmp} {b : Bool} (h : a.tmps.getD d undef = .bool b) : Sim Z E (st.lit d b) a :=
 ⟨fun t => by
  by_cases ht : t = d
  ·subst ht; simp only [St.lit, setE_same, RepV]; exact h
  ·simp only [St.lit, setE_ne _ _ ht]; exact S.env t, S.sz, S.dfr, S.heap⟩
theorem after_sim {Z : Nat → Prop} {E E' : Env} {st : St} {a : Act} (S : Sim Z E st a) {dst : Option Tmp} {x : AV} {H' : Heap} {nx' : Nat} {v : Value} {K : St → Prop}
  (A : After Z E st.heap x H' nx' v E') (h : st.after dst x H' nx' K) : ∃ st', K st' ∧ Sim Z E' st' (a.put dst v) := by
 unfold St.after at h
 obtain ⟨env, H, nx, n⟩ := st
 cases dst with
 | none => exact ⟨_, h, S.next' A⟩
 | some d =>
  simp only at h
  cases hd : Nat.blt d n with
  | false => rw [hd] at h; exact h.elim
  | true => rw [hd] at h; exact ⟨_, h, S.next (Nat.le_of_ble_eq_true hd) A⟩
theorem skip_sim {Z : Nat → Prop} {E : Env} {st : St} {a : Act} (S : Sim Z E st a) {o : Oper} {K : St → Prop} (h : skipP o st K) : ∃ st', K st' ∧ Sim Z E st' (a.put o.dst undef) := by
 obtain ⟨env, H, nx, n⟩ := st
 exact after_sim S (After.pure S.heap (x := .tuple []) (by simp [RepV, RepL, undef])) h
theorem yielded_of {ops : Array Oper} {a : Act} {j : Nat} {d : Tmp} {b : Bool} {n : Nat} (hg : guardTmp ops j = some d) (hs : a.tmps.size = n) (hd : d < n) (h : a.tmps.getD d undef = .bool b) :
  yielded ops a.tmps j = some b := by
 unfold guardTmp at hg
 split at hg
 ·rename_i o ho
  have hlt : d < a.tmps.size := by rw [hs]; exact hd
  have : a.tmps[d] = .bool b := by simpa [hlt] using h
  simp [yielded, ho, hg, this, hlt]
 ·cases hg
def roLoad (st : St) : Op → Bool
 | .load _ a => match evalO st.env a with
  | .rop (_ :: _) => true
  | _ => false
 | _ => false
def isLoad : Op → Bool
 | .load _ _ => true
 | _ => false
def takeOk (ops : Array Oper) (o : Oper) (st : St) : Bool :=
 match o.guard with
 | none => roLoad st o.op
 | some (j, want) => match guardTmp ops j with
  | none => false
  | some d => cond (roLoad st o.op) true (match st.env d with
   | .bool b => cond want (!b) b
   | .tuple _ => true
   | _ => false)
theorem roLoad_lit {st : St} {d : Tmp} {b : Bool} {op : Op} (h : (∃ c, st.env d = .bool c) ∨ st.env d = .anyb) (hr : roLoad st op = true) : roLoad (st.lit d b) op = true := by
 unfold roLoad at hr ⊢
 split at hr
 ·rename_i t x
  have e : evalO (st.lit d b).env x = evalO st.env x := by
   cases x with
   | tmp t =>
    simp only [evalO, St.lit]
    by_cases ht : t = d
    ·subst ht
     simp only [evalO] at hr
     rcases h with ⟨c, h⟩ | h <;> rw [h] at hr <;> cases hr
    ·exact setE_ne _ _ ht
   | const v => rfl
   | global g => rfl
   | func f => rfl
  simp only [e]
  exact hr
 ·cases hr
theorem step_cases {P : Program} {T : Types} {M : FuncId → List Mode} {ops : Array Oper} {o : Oper} {Z : Nat → Prop} {E : Env} {st : St} {a : Act} {K : St → Prop} (S : Sim Z E st a)
  (h : stepP P T M ops o st K) : ∃ st1, Sim Z E st1 a ∧ st1.heap = st.heap ∧ (Region.wanted o (yielded ops a.tmps) = true → takeOk ops o st = true → roLoad st1 o.op = true) ∧
   ((Region.wanted o (yielded ops a.tmps) = true ∧ runP P T M o st1 K) ∨ (Region.wanted o (yielded ops a.tmps) = false ∧ skipP o st1 K)) := by
 unfold stepP at h
 cases hg : o.guard with
 | none =>
  simp only [hg] at h
  exact ⟨st, S, rfl, fun _ ht => by unfold takeOk at ht; rw [hg] at ht; exact ht, .inl ⟨by simp [Region.wanted, hg], h⟩⟩
 | some jw =>
  obtain ⟨j, want⟩ := jw
  simp only [hg] at h
  cases hd : guardTmp ops j with
  | none => rw [hd] at h; exact h.elim
  | some d =>
   rw [hd] at h
   simp only at h
   cases hb : Nat.blt d st.n with
   | false => rw [hb] at h; exact h.elim
   | true =>
    rw [hb] at h
    have hlt : d < st.n := Nat.le_of_ble_eq_true hb
    simp only [cond_true] at h
    have key : ∀ b, a.tmps.getD d undef = .bool b → (st.env d = .bool b ∨ st.env d = .anyb) →
      (b = true → cond want (runP P T M o (st.lit d true) K) (skipP o (st.lit d true) K)) → (b = false → cond want (skipP o (st.lit d false) K) (runP P T M o (st.lit d false) K)) →
      ∃ st1, Sim Z E st1 a ∧ st1.heap = st.heap ∧ (Region.wanted o (yielded ops a.tmps) = true → takeOk ops o st = true → roLoad st1 o.op = true) ∧
       ((Region.wanted o (yielded ops a.tmps) = true ∧ runP P T M o st1 K) ∨ (Region.wanted o (yielded ops a.tmps) = false ∧ skipP o st1 K)) := by
     intro b hv hx h1 h2
     have hy := yielded_of hd S.sz hlt hv
     refine ⟨st.lit d b, S.lit hv, rfl, fun hw ht => ?_, ?_⟩
     ·unfold takeOk at ht
      rw [hg] at ht
      simp only [hd] at ht
      cases hr : roLoad st o.op with
      | true => exact roLoad_lit (hx.imp (fun h => ⟨_, h⟩) fun h => h) hr
      | false =>
       exfalso
       rw [hr] at ht
       rcases hx with hx | hx
       ·rw [hx] at ht
        cases b <;> cases want <;> simp [Region.wanted, hg, hy] at ht hw
       ·rw [hx] at ht
        cases ht
     cases b <;> cases want <;> simp [Region.wanted, hg, hy] at h1 h2 ⊢ <;> first | exact h1 | exact h2
    split at h
    ·rename_i b he
     have hv := S.env d
     rw [he] at hv
     simp only [RepV] at hv
     exact key b hv (.inl he) h.1 h.2
    ·rename_i he
     have hv := S.env d
     rw [he] at hv
     simp only [RepV] at hv
     obtain ⟨b, hv⟩ := hv
     exact key b hv (.inr he) (fun _ => h.1) (fun _ => h.2)
    ·rename_i cs he
     have hv := S.env d
     rw [he] at hv
     simp only [RepV] at hv
     obtain ⟨vs, hv, _⟩ := hv
     have hy : yielded ops a.tmps j = none := by
      unfold guardTmp at hd
      split at hd
      ·rename_i o' ho'
       have hsz : d < a.tmps.size := by rw [S.sz]; exact hlt
       have ht : a.tmps[d] = .tuple vs := by simpa [hsz] using hv
       simp [yielded, ho', hd, ht, hsz]
      ·cases hd
     have hwf : Region.wanted o (yielded ops a.tmps) = false := by simp [Region.wanted, hg, hy]
     exact ⟨st, S, rfl, (fun hw _ => absurd (hwf.symm.trans hw) (by decide)), .inr ⟨hwf, h⟩⟩
    ·exact h.elim
structure Chain (E : Env) (W : Nat → Prop) (E' : Env) : Prop where
 later : Later E E'
 evo : Evo W E.w E'.w
theorem Chain.refl (E : Env) (W : Nat → Prop) : Chain E W E := ⟨Later.refl E, Evo.refl _ _⟩
theorem wr_back {Z : Nat → Prop} {E E' : Env} {H H' : Heap} {nx nx' : Nat} (h : HeapRep Z E H nx) (L : Later E E') (h' : HeapRep Z E' H' nx') : ∀ b, b < E.w.heap.size → Wr E'.ρ H' b → Wr E.ρ H b := by
 rintro b hb ⟨id, cs, h1, h2⟩
 have hv : E.V b := L.V b hb ((h'.V b).2 (.inr ⟨id, cs, h1, h2⟩))
 rcases (h.V b).1 hv with hz | hw
 ·exact absurd hz (h'.apart id b (by rw [h1]; simp) h2)
 ·exact hw
theorem Chain.next {Z : Nat → Prop} {E E' E'' : Env} {H H' : Heap} {nx nx' : Nat} (h : HeapRep Z E H nx) (c : Chain E (Wr E.ρ H) E') (h' : HeapRep Z E' H' nx') (L : Later E' E'') (ev : Evo (Wr E'.ρ H') E'.w E''.w) :
  Chain E (Wr E.ρ H) E'' :=
 ⟨c.later.trans L, c.evo.trans ev fun b hb hw => wr_back h c.later h' b hb hw⟩
def RegPost (Z : Nat → Prop) (E : Env) (H : Heap) (K : St → Prop) (e : Exit) (a : Act) (w : World) : Prop :=
 ∃ st' E', e = .normal ∧ K st' ∧ Sim Z E' st' a ∧ E'.w = w ∧ Chain E (Wr E.ρ H) E'
theorem opsP_sound {P : Program} {T : Types} (hT : TOK P T) {M : FuncId → List Mode} {ops : Array Oper} {Z : Nat → Prop} {E : Env} {H : Heap} {nx : Nat} (h0 : HeapRep Z E H nx) {K : St → Prop} :
  ∀ (l : List Oper) (st : St) (E1 : Env) (a : Act), Sim Z E1 st a → Chain E (Wr E.ρ H) E1 → opsP P T M ops l st K → wpList P ops (RegPost Z E H K) l a E1.w
 | [], st, E1, a, S, c, h => by
  unfold wpList
  exact ⟨st, E1, rfl, h, S, rfl, c⟩
 | o :: r, st, E1, a, S, c, h => by
  unfold opsP at h
  obtain ⟨st1, S1, e1, e2, hh⟩ := step_cases S h
  unfold wpList
  rcases hh with ⟨hw, hr⟩ | ⟨hw, hs⟩
  ·rw [if_pos hw]
   left
   rw [runP_eq] at hr
   refine opP_sound hT S1 hr _ _ fun x H' nx' E' v hk A => ?_
   obtain ⟨st', hk', S'⟩ := after_sim S1 A hk
   exact opsP_sound hT h0 r st' E' _ S' (c.next h0 S1.heap A.later A.evo) hk'
  ·rw [if_neg (by simp [hw])]
   obtain ⟨st', hk', S'⟩ := skip_sim S1 hs
   exact opsP_sound hT h0 r st' E1 _ S' c hk'
inductive Plan where
 | done
 | take (i : Nat) (p : Plan)
 | all (ps : List (Nat × Plan))
mutual
def planOk (T : Types) (x : Bool) (ops : Array Oper) : Nat → Array Bool → Plan → Bool
 | fuel, listed, .done => (Region.ready .any ops listed).isEmpty
 | 0, _, .take _ _ => false
 | fuel + 1, listed, .take i p => match ops[i]? with
  | some o => (Region.ready .any ops listed).contains i && Region.free .any ops listed i && (pureOp T o.op || isLoad o.op) && planOk T x ops fuel (listed.setIfInBounds i true) p
  | none => false
 | 0, _, .all _ => false
 | fuel + 1, listed, .all ps => !x && !ps.isEmpty && (Region.ready .any ops listed == ps.map (·.1)) && planOks T x ops fuel listed ps
def planOks (T : Types) (x : Bool) (ops : Array Oper) : Nat → Array Bool → List (Nat × Plan) → Bool
 | _, _, [] => true
 | fuel, listed, (i, p) :: r => planOk T x ops fuel (listed.setIfInBounds i true) p && planOks T x ops fuel listed r
end
mutual
def planP (P : Program) (T : Types) (M : FuncId → List Mode) (x : Bool) (ops : Array Oper) : Plan → St → (St → Prop) → Prop
 | .done, st, K => K st
 | .take i p, st, K => match ops[i]? with
  | some o => cond (isLoad o.op && !x) (takeOk ops o st = true ∧ stepP P T M ops o st fun st' => planP P T M x ops p st' K) (stepP P T M ops o st fun st' => planP P T M x ops p st' K)
  | none => False
 | .all ps, st, K => plansP P T M x ops ps st K
def plansP (P : Program) (T : Types) (M : FuncId → List Mode) (x : Bool) (ops : Array Oper) : List (Nat × Plan) → St → (St → Prop) → Prop
 | [], _, _ => True
 | (i, p) :: r, st, K => match ops[i]? with
  | some o => match r with
   | [] => stepP P T M ops o st fun st' => planP P T M x ops p st' K
   | _ :: _ => (stepP P T M ops o st fun st' => planP P T M x ops p st' K) ∧ plansP P T M x ops r st K
  | none => False
end
end
section

theorem wpAnyH_mono {P : Program} {md : Region.Mode} {ops : Array Oper} {Q : Exit → Act → World → Prop} {S S' : World → Prop} (hS : ∀ w, S w → S' w) :
  ∀ (fuel : Nat) (listed : Array Bool) (a : Act) (w : World), wpAnyH P md ops Q S fuel listed a w → wpAnyH P md ops Q S' fuel listed a w
 | 0, _, _, _, h => h
 | fuel + 1, _, _, _, h => ⟨h.1, fun i hi => wpOp_mono (fun a' w' h' => ⟨hS _ h'.1, wpAnyH_mono hS fuel _ a' w' h'.2⟩) (h.2 i hi)⟩
def Sw (x : Bool) (E : Env) (w : World) : Prop := ∃ E', E'.w = w ∧ Later E E' ∧ (x = true → w.heap = E.w.heap)
theorem Sw.refl (x : Bool) (E : Env) : Sw x E E.w := ⟨E, rfl, Later.refl E, fun _ => rfl⟩
theorem yields_of {P : Program} {T : Types} (hT : TOK P T) {M : FuncId → List Mode} {x : Bool} {ops : Array Oper} {Z : Nat → Prop} {E : Env} {st : St} {a : Act} (S : Sim Z E st a) {o : Oper} {K : St → Prop}
  (hw : Region.wanted o (yielded ops a.tmps) = true) (hk : pureOp T o.op = true ∨ (isLoad o.op = true ∧ (x = false → roLoad st o.op = true))) (h : runP P T M o st K) :
  ∃ v st', YieldsIf P ops (Sw x E) o v a ∧ K st' ∧ Sim Z E st' (a.put o.dst v) := by
 rw [runP_eq] at h
 rcases hk with hp | ⟨hl, hro⟩
 ·obtain ⟨y, v, h1, h2, h3⟩ := opP_yields hT S hp h
  obtain ⟨st', k1, k2⟩ := after_sim S (After.pure S.heap h2) h1
  exact ⟨v, st', .inl ⟨hw, fun w _ => h3 w⟩, k1, k2⟩
 ·unfold isLoad at hl
  split at hl
  ·rename_i t A ho
   rw [ho] at h
   simp only [opP, force_eq] at h
   obtain ⟨y, v, b, h1, h2, h3, h4⟩ := loadP_at (P := P) hT S.heap (rep_evalO S A) h
   obtain ⟨st', k1, k2⟩ := after_sim S (After.pure S.heap h2) h1
   refine ⟨v, st', .inl ⟨hw, fun w hs => ?_⟩, k1, k2⟩
   obtain ⟨E', rfl, L, hx⟩ := hs
   simp only [execOp, ho]
   refine vrun (h3 _ ?_)
   cases x with
   | true => rw [hx rfl]
   | false =>
    have hr := hro rfl
    unfold roLoad at hr
    rw [ho] at hr
    simp only at hr
    split at hr
    ·rename_i c cs hA
     obtain ⟨k3, k4⟩ := h4 c cs hA
     exact L.same b k4 k3
    ·cases hr
  ·cases hl
mutual
theorem planP_sound {P : Program} {T : Types} (hT : TOK P T) {M : FuncId → List Mode} {x : Bool} {ops : Array Oper} (hns : Region.noSelect ops = true) {Z : Nat → Prop} {E : Env} {H : Heap} {nx : Nat} (h0 : HeapRep Z E H nx) {K : St → Prop} :
  ∀ (p : Plan) (fuel : Nat) (listed : Array Bool) (st : St) (E1 : Env) (a : Act), Sim Z E1 st a → Chain E (Wr E.ρ H) E1 → planOk T x ops fuel listed p = true → planP P T M x ops p st K →
   wpAnyH P .any ops (RegPost Z E H K) (Sw x E1) fuel listed a E1.w
 | .done, fuel, listed, st, E1, a, S, c, hok, h => by
  unfold planOk at hok
  unfold planP at h
  exact wpAnyH_done (List.isEmpty_iff.1 hok) ⟨st, E1, rfl, h, S, rfl, c⟩ fuel
 | .take i p, 0, listed, st, E1, a, S, c, hok, h => by simp [planOk] at hok
 | .take i p, fuel + 1, listed, st, E1, a, S, c, hok, h => by
  unfold planOk at hok
  unfold planP at h
  split at hok
  case h_2 => cases hok
  rename_i o ho
  rw [ho] at h
  dsimp only at h
  simp only [Bool.and_eq_true, Bool.or_eq_true] at hok
  obtain ⟨⟨⟨hr, hf⟩, hk⟩, hok⟩ := hok
  have hro : isLoad o.op = true → x = false → takeOk ops o st = true := by
   intro h1 h2
   rw [h1, h2] at h
   exact h.1
  have h : stepP P T M ops o st fun st' => planP P T M x ops p st' K := by
   cases hc : isLoad o.op && !x with
   | true => rw [hc] at h; exact h.2
   | false => rw [hc] at h; exact h
  obtain ⟨st1, S1, e1, e2, hh⟩ := step_cases S h
  have hQ : ∀ (v : Value) c a w, RegPost Z E H K (.panic c) (Act.put a o.dst v) w → RegPost Z E H K (.panic c) a w := by
   rintro v c a w ⟨_, _, he, _⟩
   cases he
  rcases hh with ⟨hw, hrun⟩ | ⟨hw, hs⟩
  ·have hk' : pureOp T o.op = true ∨ (isLoad o.op = true ∧ (x = false → roLoad st1 o.op = true)) := by
    rcases hk with hk | hl
    ·exact .inl hk
    ·exact .inr ⟨hl, fun hx => e2 hw (hro hl hx)⟩
   obtain ⟨v, st', hy, k1, k2⟩ := yields_of hT S1 hw hk' hrun
   exact wpAnyH_take ho hns hf hr (hQ v) hy (Sw.refl _ _) (planP_sound hT hns h0 p fuel _ st' E1 _ k2 c hok k1)
  ·obtain ⟨st', k1, k2⟩ := skip_sim S1 hs
   exact wpAnyH_take ho hns hf hr (hQ undef) (.inr ⟨hw, rfl⟩) (Sw.refl _ _) (planP_sound hT hns h0 p fuel _ st' E1 _ k2 c hok k1)
 | .all ps, 0, listed, st, E1, a, S, c, hok, h => by simp [planOk] at hok
 | .all ps, fuel + 1, listed, st, E1, a, S, c, hok, h => by
  unfold planOk at hok
  unfold planP at h
  simp only [Bool.and_eq_true, Bool.not_eq_true'] at hok
  obtain ⟨⟨⟨hx, hne⟩, hr⟩, hok⟩ := hok
  have hr' : Region.ready .any ops listed = ps.map (·.1) := by simpa using hr
  refine wpAnyH_all hr' (by intro he; simp at he; simp [he] at hne) fun i hi => ?_
  exact plansP_sound hT hns h0 ps fuel listed st E1 a S c hx hok h i hi
theorem plansP_sound {P : Program} {T : Types} (hT : TOK P T) {M : FuncId → List Mode} {x : Bool} {ops : Array Oper} (hns : Region.noSelect ops = true) {Z : Nat → Prop} {E : Env} {H : Heap} {nx : Nat} (h0 : HeapRep Z E H nx) {K : St → Prop} :
  ∀ (ps : List (Nat × Plan)) (fuel : Nat) (listed : Array Bool) (st : St) (E1 : Env) (a : Act), Sim Z E1 st a → Chain E (Wr E.ρ H) E1 → x = false → planOks T x ops fuel listed ps = true → plansP P T M x ops ps st K →
   ∀ i ∈ ps.map (·.1), wpOp P ops (RegPost Z E H K) i (fun a' w' => Sw x E1 w' ∧ wpAnyH P .any ops (RegPost Z E H K) (Sw x E1) fuel (listed.setIfInBounds i true) a' w') a E1.w
 | [], fuel, listed, st, E1, a, S, c, hx, hok, h => by simp
 | (j, p) :: r, fuel, listed, st, E1, a, S, c, hx, hok, h => by
  unfold planOks at hok
  unfold plansP at h
  simp only [Bool.and_eq_true] at hok
  obtain ⟨hok, hoks⟩ := hok
  split at h
  case h_2 => exact h.elim
  rename_i o ho
  have hone : stepP P T M ops o st (fun st' => planP P T M x ops p st' K) ∧ plansP P T M x ops r st K := by
   cases r with
   | nil => exact ⟨h, by simp [plansP]⟩
   | cons _ _ => exact h
  obtain ⟨hstep, hrest⟩ := hone
  intro i hi
  rcases List.mem_cons.1 (by simpa using hi : i ∈ j :: r.map (·.1)) with rfl | hi
  ·obtain ⟨st1, S1, e1, e2, hh⟩ := step_cases S hstep
   unfold wpOp
   simp only [ho]
   rcases hh with ⟨hw, hr⟩ | ⟨hw, hs⟩
   ·rw [if_pos hw]
    left
    rw [runP_eq] at hr
    refine opP_sound hT S1 hr _ _ fun y H' nx' E' v hk A => ?_
    obtain ⟨st', hk', S'⟩ := after_sim S1 A hk
    subst hx
    refine ⟨⟨E', rfl, A.later, nofun⟩, wpAnyH_mono (S := Sw false E') ?_ _ _ _ _ (planP_sound hT hns h0 p fuel _ st' E' _ S' (c.next h0 S1.heap A.later A.evo) hok hk')⟩
    rintro w ⟨E2, rfl, L2, _⟩
    exact ⟨E2, rfl, A.later.trans L2, nofun⟩
   ·rw [if_neg (by simp [hw])]
    obtain ⟨st', hk', S'⟩ := skip_sim S1 hs
    exact ⟨Sw.refl _ _, planP_sound hT hns h0 p fuel _ st' E1 _ S' c hok hk'⟩
  ·exact plansP_sound hT hns h0 r fuel listed st E1 a S c hx hoks hrest i hi
end
def planFits (T : Types) (x : Bool) (ops : Array Oper) (p : Plan) : Bool := Region.noSelect ops && planOk T x ops ops.size (Array.replicate ops.size false) p
theorem draw_sound {P : Program} {T : Types} (hT : TOK P T) (hm : P.follows .mixedOrders = true) {M : FuncId → List Mode} {x : Bool} {id : Nat} {ops : Array Oper} {p : Plan} (hp : planFits T x ops p = true)
  {Z : Nat → Prop} {E : Env} {st : St} {a : Act} (S : Sim Z E st a) {K : St → Prop} (h : planP P T M x ops p st K) :
  (Code.region id ops true).wp P (RegPost Z E st.heap K) a E.w := by
 simp only [planFits, Bool.and_eq_true] at hp
 refine wp_region_held (S := Sw x (E.drawn (E.w.drawn + 1))) hm ?_
 exact planP_sound hT hp.1 S.heap p _ _ st (E.drawn (E.w.drawn + 1)) a (S.drawn _) ⟨later_drawn _ _, Evo.drawn _ _ _⟩ hp.2 h
theorem text_sound {P : Program} {T : Types} (hT : TOK P T) {M : FuncId → List Mode} {id : Nat} {ops : Array Oper}
  {Z : Nat → Prop} {E : Env} {st : St} {a : Act} (S : Sim Z E st a) {K : St → Prop} (h : opsP P T M ops ops.toList st K) :
  (Code.region id ops false).wp P (RegPost Z E st.heap K) a E.w :=
 wp_region_list (opsP_sound hT S.heap ops.toList st E a S (Chain.refl _ _) h)
end
section

inductive AX where
 | normal
 | exit (id : Nat)
 | ret
def AX.out : AX → Exit
 | .normal => .normal
 | .exit id => .exit id
 | .ret => .ret
structure Flow (k : Nat) (E : Env) (H : Heap) (E' : Env) (H' : Heap) : Prop where
 η : E'.η = E.η
 evo : Evo (Wr E.ρ H) E.w E'.w
 back : ∀ b, b < E.w.heap.size → Wr E'.ρ H' b → Wr E.ρ H b
 keep : ∀ id n, id < k → E.ρ id = some n → E'.ρ id = some n
theorem Flow.refl {k : Nat} (E : Env) (H : Heap) : Flow k E H E H := ⟨rfl, Evo.refl _ _, fun _ _ h => h, fun _ _ _ h => h⟩
theorem Flow.trans {m : Nat} {E E' E'' : Env} {H H' H'' : Heap} (h : Flow m E H E' H') (k : Flow m E' H' E'' H'') : Flow m E H E'' H'' :=
 ⟨k.η.trans h.η, h.evo.trans k.evo h.back, fun b hb hw => h.back b hb (k.back b (Nat.lt_of_lt_of_le hb h.evo.size) hw), fun id n hi hn => k.keep id n hi (h.keep id n hi hn)⟩
theorem Chain.flow {k : Nat} {Z : Nat → Prop} {E E' : Env} {H H' : Heap} {nx nx' : Nat} (h : HeapRep Z E H nx) (c : Chain E (Wr E.ρ H) E') (h' : HeapRep Z E' H' nx') : Flow k E H E' H' :=
 ⟨c.later.η, c.evo, wr_back h c.later h', fun id n _ hn => c.later.ρ id n hn⟩
def SPost (k : Nat) (Z : Nat → Prop) (E : Env) (H : Heap) (Q : AX → St → Prop) (e : Exit) (a : Act) (w : World) : Prop :=
 ∃ x st' E', e = x.out ∧ Q x st' ∧ Sim Z E' st' a ∧ E'.w = w ∧ Flow k E H E' st'.heap
def Does (P : Program) (k : Nat) (c : Code) (Q : AX → St → Prop) (st : St) : Prop :=
 ∀ (Z : Nat → Prop) (E : Env) (a : Act), Sim Z E st a → c.wp P (SPost k Z E st.heap Q) a E.w
theorem SPost.flow {k : Nat} {Z : Nat → Prop} {E E' : Env} {H H' : Heap} {Q : AX → St → Prop} {e : Exit} {a : Act} {w : World} (f : Flow k E H E' H') (h : SPost k Z E' H' Q e a w) : SPost k Z E H Q e a w := by
 obtain ⟨x, st', E2, h1, h2, h3, h4, h5⟩ := h
 exact ⟨x, st', E2, h1, h2, h3, h4, f.trans h5⟩
theorem Does.mono {P : Program} {k : Nat} {c : Code} {Q Q' : AX → St → Prop} {st : St} (h : Does P k c Q st) (hq : ∀ x st, Q x st → Q' x st) : Does P k c Q' st :=
 fun Z E a S => wp_mono (h Z E a S) fun e a' w' ⟨x, st', E', h1, h2, h3, h4, h5⟩ => ⟨x, st', E', h1, hq _ _ h2, h3, h4, h5⟩
def thenQ (K : St → Prop) (Q : AX → St → Prop) : AX → St → Prop
 | .normal, st => K st
 | x, st => Q x st
def blockQ (id : Nat) (Q : AX → St → Prop) : AX → St → Prop
 | .exit i, st => cond (Nat.beq i id) (Q .normal st) (Q (.exit i) st)
 | x, st => Q x st
theorem Does.skip {P : Program} {k : Nat} {Q : AX → St → Prop} {st : St} (h : Q .normal st) : Does P k .skip Q st :=
 fun Z E a S => wp_skip ⟨.normal, st, E, rfl, h, S, rfl, Flow.refl _ _⟩
theorem Does.exit {P : Program} {k : Nat} {Q : AX → St → Prop} {id : Nat} {st : St} (h : Q (.exit id) st) : Does P k (.exit id) Q st :=
 fun Z E a S => wp_exit ⟨.exit id, st, E, rfl, h, S, rfl, Flow.refl _ _⟩
theorem Does.ret {P : Program} {k : Nat} {Q : AX → St → Prop} {st : St} (h : Q .ret st) : Does P k .ret Q st :=
 fun Z E a S => wp_ret ⟨.ret, st, E, rfl, h, S, rfl, Flow.refl _ _⟩
theorem Does.seq {P : Program} {k : Nat} {x y : Code} {Q : AX → St → Prop} {st : St} (h : Does P k x (thenQ (Does P k y Q) Q) st) : Does P k (.seq x y) Q st := by
 intro Z E a S
 refine wp_seq (wp_mono (h Z E a S) ?_)
 rintro e a' w' ⟨x, st', E', rfl, h2, h3, rfl, h5⟩
 cases x with
 | normal => exact wp_mono (h2 Z E' a' h3) fun e a'' w'' hp => hp.flow h5
 | exit id => exact ⟨.exit id, st', E', rfl, h2, h3, rfl, h5⟩
 | ret => exact ⟨.ret, st', E', rfl, h2, h3, rfl, h5⟩
theorem Does.block {P : Program} {k : Nat} {id : Nat} {c : Code} {Q : AX → St → Prop} {st : St} (h : Does P k c (blockQ id Q) st) : Does P k (.block id c) Q st := by
 intro Z E a S
 refine wp_block (wp_mono (h Z E a S) ?_)
 rintro e a' w' ⟨x, st', E', rfl, h2, h3, rfl, h5⟩
 cases x with
 | normal => exact ⟨.normal, st', E', rfl, h2, h3, rfl, h5⟩
 | exit i =>
  simp only [AX.out, Exit.inBlock]
  simp only [blockQ] at h2
  by_cases hi : i = id
  ·subst hi
   rw [if_pos rfl]
   have : Nat.beq i i = true := by simp
   rw [this] at h2
   exact ⟨.normal, st', E', rfl, h2, h3, rfl, h5⟩
  ·rw [if_neg hi]
   have : Nat.beq i id = false := by
    cases hh : Nat.beq i id
    ·rfl
    ·exact absurd (Nat.eq_of_beq_eq_true hh) hi
   rw [this] at h2
   exact ⟨.exit i, st', E', rfl, h2, h3, rfl, h5⟩
 | ret => exact ⟨.ret, st', E', rfl, h2, h3, rfl, h5⟩
theorem reg_post {k : Nat} {Z : Nat → Prop} {E : Env} {st : St} {a : Act} (S : Sim Z E st a) {Q : AX → St → Prop} {e : Exit} {a' : Act} {w' : World} (h : RegPost Z E st.heap (Q .normal) e a' w') : SPost k Z E st.heap Q e a' w' := by
 obtain ⟨st', E', rfl, h2, h3, h4, h5⟩ := h
 exact ⟨.normal, st', E', rfl, h2, h3, h4, h5.flow S.heap h3.heap⟩
theorem Does.text {P : Program} {k : Nat} {T : Types} (hT : TOK P T) {M : FuncId → List Mode} {id : Nat} {ops : Array Oper} {Q : AX → St → Prop} {st : St} (h : opsP P T M ops ops.toList st (Q .normal)) : Does P k (.region id ops false) Q st :=
 fun Z E a S => wp_mono (text_sound hT S h) fun e a' w' hp => reg_post S hp
theorem Does.draw {P : Program} {k : Nat} {T : Types} (hT : TOK P T) (hm : P.follows .mixedOrders = true) {M : FuncId → List Mode} {x : Bool} {id : Nat} {ops : Array Oper} {p : Plan} {Q : AX → St → Prop} {st : St}
  (hp : planFits T x ops p = true) (h : planP P T M x ops p st (Q .normal)) : Does P k (.region id ops true) Q st :=
 fun Z E a S => wp_mono (draw_sound hT hm hp S h) fun e a' w' hp => reg_post S hp
theorem Does.cond {P : Program} {k : Nat} {d : Tmp} {x y : Code} {Q : AX → St → Prop} {st : St}
  (h : match st.env d with
   | .bool t => ifB t (Does P k x Q (st.lit d true)) (Does P k y Q (st.lit d false))
   | .anyb => Does P k x Q (st.lit d true) ∧ Does P k y Q (st.lit d false)
   | _ => False) : Does P k (.cond (.tmp d) x y) Q st := by
 intro Z E a S
 have key : ∀ b, a.tmps.getD d undef = .bool b → (b = true → Does P k x Q (st.lit d true)) → (b = false → Does P k y Q (st.lit d false)) → (Code.cond (.tmp d) x y).wp P (SPost k Z E st.heap Q) a E.w := by
  intro b hv h1 h2
  refine wp_cond_split (t := b) hv (fun hb => ?_) (fun hb => ?_)
  ·subst hb; exact h1 rfl Z E a (S.lit hv)
  ·subst hb; exact h2 rfl Z E a (S.lit hv)
 have hv := S.env d
 split at h
 ·rename_i b he
  rw [he] at hv
  simp only [RepV] at hv
  exact key b hv h.1 h.2
 ·rename_i he
  rw [he] at hv
  simp only [RepV] at hv
  obtain ⟨b, hv⟩ := hv
  exact key b hv (fun _ => h.1) (fun _ => h.2)
 ·exact h.elim
theorem least_of {p : Nat → Prop} (h : ∃ n, p n) : ∃ n, p n ∧ ∀ m, p m → n ≤ m := by
 obtain ⟨n, hn⟩ := h
 induction n using Nat.strongRecOn with
 | _ n ih =>
  by_cases hh : ∃ m, m < n ∧ p m
  ·obtain ⟨m, hm, hp⟩ := hh
   exact ih m hm hp
  ·exact ⟨n, hn, fun m hm => Nat.le_of_not_lt fun hlt => hh ⟨m, hlt, hm⟩⟩
theorem wp_loop_n {P : Program} {Q : Exit → Act → World → Prop} {c : Code} (I : Nat → Act → World → Prop)
  (round : ∀ n a w, I n a w → c.wp P (Exit.then (fun a' w' => ∃ m, m < n ∧ I m a' w') Q) a w) {n : Nat} {a : Act} {w : World} (h₀ : I n a w) : (Code.loop c).wp P Q a w := by
 classical
 let μ : Act → World → Nat := fun a w => if h : ∃ n, I n a w then Classical.choose (least_of h) else 0
 refine wp_loop (fun a w => ∃ n, I n a w) μ ⟨n, h₀⟩ fun a w hI => ?_
 have hμ : μ a w = Classical.choose (least_of hI) := by simp only [μ, dif_pos hI]
 refine wp_mono (round _ a w (Classical.choose_spec (least_of hI)).1) fun e a' w' hp => ?_
 cases e with
 | normal =>
  obtain ⟨m, hm, hI'⟩ := hp
  refine ⟨⟨m, hI'⟩, ?_⟩
  have : μ a' w' ≤ m := by
   simp only [μ, dif_pos (⟨m, hI'⟩ : ∃ n, I n a' w')]
   exact (Classical.choose_spec (least_of (⟨m, hI'⟩ : ∃ n, I n a' w'))).2 m hI'
  rw [hμ]
  omega
 | _ => exact hp
theorem Does.loopN {P : Program} {k : Nat} {c : Code} {Q : AX → St → Prop} (J : Nat → St → Prop)
  (h : ∀ n st, J n st → Does P k c (thenQ (fun st' => ∃ m, m < n ∧ J m st') Q) st) {n : Nat} {st : St} (h0 : J n st) : Does P k (.loop c) Q st := by
 intro Z E a S
 refine wp_loop_n (fun n a w => ∃ st1 E1, J n st1 ∧ Sim Z E1 st1 a ∧ E1.w = w ∧ Flow k E st.heap E1 st1.heap) ?_ ⟨st, E, h0, S, rfl, Flow.refl _ _⟩
 rintro n a w ⟨st1, E1, hJ, S1, rfl, f⟩
 refine wp_mono (h n st1 hJ Z E1 a S1) ?_
 rintro e a' w' ⟨x, st', E', rfl, h2, h3, rfl, h5⟩
 cases x with
 | normal =>
  obtain ⟨m, hm, hJ'⟩ := h2
  exact ⟨m, hm, st', E', hJ', h3, rfl, f.trans h5⟩
 | exit id => exact ⟨.exit id, st', E', rfl, h2, h3, rfl, f.trans h5⟩
 | ret => exact ⟨.ret, st', E', rfl, h2, h3, rfl, f.trans h5⟩
def Weaker (k : Nat) (st st' : St) : Prop := ∀ (Z : Nat → Prop) (E : Env) (a : Act), Sim Z E st a → ∃ E', Sim Z E' st' a ∧ E'.w = E.w ∧ Flow k E st.heap E' st'.heap
theorem Weaker.refl {k : Nat} (st : St) : Weaker k st st := fun Z E a S => ⟨E, S, rfl, Flow.refl _ _⟩
theorem Does.weaker {P : Program} {k : Nat} {c : Code} {Q : AX → St → Prop} {st st' : St} (w : Weaker k st st') (h : Does P k c Q st') : Does P k c Q st := by
 intro Z E a S
 obtain ⟨E', S', e, f⟩ := w Z E a S
 rw [← e]
 exact wp_mono (h Z E' a S') fun _ _ _ hp => hp.flow f
theorem Does.loop {P : Program} {k : Nat} {c : Code} {Q : AX → St → Prop} {α : Type} (I : α → St) (φ : α → Prop) (μ : α → Nat)
  (h : ∀ g, φ g → Does P k c (thenQ (fun st' => ∃ g', φ g' ∧ μ g' < μ g ∧ Weaker k st' (I g')) Q) (I g)) (g : α) {st : St} (hg : φ g) (hw : Weaker k st (I g)) : Does P k (.loop c) Q st := by
 refine Does.loopN (fun n st => ∃ g, φ g ∧ μ g = n ∧ Weaker k st (I g)) ?_ ⟨g, hg, rfl, hw⟩
 rintro n st1 ⟨g1, hg1, rfl, hw1⟩
 refine Does.weaker hw1 ((h g1 hg1).mono ?_)
 intro x st' hq
 cases x with
 | normal =>
  obtain ⟨g', k1, k2, k3⟩ := hq
  exact ⟨μ g', k2, g', k1, rfl, k3⟩
 | exit id => exact hq
 | ret => exact hq
theorem Does.seqCut {P : Program} {k : Nat} {x y : Code} {Q : AX → St → Prop} {st : St} {α : Type} (I : α → St) (φ : α → Prop)
  (h : Does P k x (thenQ (fun st' => ∃ g, φ g ∧ Weaker k st' (I g)) Q) st) (hy : ∀ g, φ g → Does P k y Q (I g)) : Does P k (.seq x y) Q st := by
 refine Does.seq (h.mono ?_)
 intro e st' hq
 cases e with
 | normal =>
  obtain ⟨g, k1, k2⟩ := hq
  exact Does.weaker k2 (hy g k1)
 | exit id => exact hq
 | ret => exact hq
def firstReg : Code → Nat
 | .region id _ _ => id
 | .seq a _ => firstReg a
 | .cond _ a _ => firstReg a
 | .block _ a => firstReg a
 | .loop a => firstReg a
 | _ => 1000000
def lastCut : Code → Option Nat
 | .region id _ _ => some (200000 + id)
 | .cond _ x _ => some (firstReg x)
 | .block _ x => some (firstReg x)
 | .seq _ y => lastCut y
 | _ => none
def wpc (P : Program) (k : Nat) (T : Types) (M : FuncId → List Mode) (PL : Nat → Bool × Plan) (CU : Nat → Bool) : Code → (AX → St → Prop) → St → Prop
 | .skip, Q, st => Q .normal st
 | .region id ops draw, Q, st => cond (CU (100000 + id)) (Does P k (.region id ops draw) Q st) (match draw with
  | false => opsP P T M ops ops.toList st (Q .normal)
  | true => match PL id with
   | (x, p) => planFits T x ops p = true ∧ planP P T M x ops p st (Q .normal))
 | .seq a b, Q, st => match lastCut a with
  | some r => cond (CU r) (Does P k (.seq a b) Q st) (wpc P k T M PL CU a (thenQ (wpc P k T M PL CU b Q) Q) st)
  | none => wpc P k T M PL CU a (thenQ (wpc P k T M PL CU b Q) Q) st
 | .cond c a b, Q, st => match c with
  | .tmp d => match st.env d with
   | .bool t => ifB t (wpc P k T M PL CU a Q (st.lit d true)) (wpc P k T M PL CU b Q (st.lit d false))
   | .anyb => wpc P k T M PL CU a Q (st.lit d true) ∧ wpc P k T M PL CU b Q (st.lit d false)
   | _ => False
  | .const (.bool false) => wpc P k T M PL CU b Q st
  | .const (.bool true) => wpc P k T M PL CU a Q st
  | _ => False
 | .block id b, Q, st => wpc P k T M PL CU b (blockQ id Q) st
 | .loop b, Q, st => Does P k (.loop b) Q st
 | .exit id, Q, st => Q (.exit id) st
 | .ret, Q, st => cond (CU 99999) (Does P k .ret Q st) (Q .ret st)
 | _, _, _ => False
theorem wpc_sound {P : Program} {k : Nat} {T : Types} (hT : TOK P T) (hm : P.follows .mixedOrders = true) {M : FuncId → List Mode} {PL : Nat → Bool × Plan} {CU : Nat → Bool} : ∀ (c : Code) (Q : AX → St → Prop) (st : St), wpc P k T M PL CU c Q st → Does P k c Q st
 | .skip, Q, st, h => by unfold wpc at h; exact Does.skip h
 | .region id ops draw, Q, st, h => by
  unfold wpc at h
  cases hc : CU (100000 + id) with
  | true => rw [hc] at h; exact h
  | false =>
   rw [hc] at h
   cases draw with
   | false => exact Does.text hT h
   | true => exact Does.draw hT hm h.1 h.2
 | .seq a b, Q, st, h => by
  have go : wpc P k T M PL CU a (thenQ (wpc P k T M PL CU b Q) Q) st → Does P k (.seq a b) Q st := by
   intro h
   refine Does.seq ((wpc_sound hT hm a _ st h).mono ?_)
   intro x st' hq
   cases x with
   | normal => exact wpc_sound hT hm b Q st' hq
   | exit id => exact hq
   | ret => exact hq
  unfold wpc at h
  split at h
  ·rename_i r hr
   cases hc : CU r with
   | true => rw [hc] at h; exact h
   | false => rw [hc] at h; exact go h
  ·exact go h
 | .cond c a b, Q, st, h => by
  unfold wpc at h
  split at h
  ·rename_i d
   refine Does.cond ?_
   split at h
   ·rename_i t he
    exact ⟨fun ht => wpc_sound hT hm a Q _ (h.1 ht), fun ht => wpc_sound hT hm b Q _ (h.2 ht)⟩
   ·rename_i he
    exact ⟨wpc_sound hT hm a Q _ h.1, wpc_sound hT hm b Q _ h.2⟩
   ·exact h.elim
  ·exact fun Z E act S => wp_cond_split (t := false) rfl (fun hb => by cases hb) (fun _ => wpc_sound hT hm b Q st h Z E act S)
  ·exact fun Z E act S => wp_cond_split (t := true) rfl (fun _ => wpc_sound hT hm a Q st h Z E act S) (fun hb => by cases hb)
  ·exact h.elim
 | .block id b, Q, st, h => by unfold wpc at h; exact Does.block (wpc_sound hT hm b _ st h)
 | .loop b, Q, st, h => by unfold wpc at h; exact h
 | .exit id, Q, st, h => by unfold wpc at h; exact Does.exit h
 | .ret, Q, st, h => by
  unfold wpc at h
  cases hc : CU 99999 with
  | true => rw [hc] at h; exact h
  | false => rw [hc] at h; exact Does.ret h
 | .rangeFunc .., Q, st, h => by simp [wpc] at h
 | .scope .., Q, st, h => by simp [wpc] at h
 | .label .., Q, st, h => by simp [wpc] at h
 | .goto .., Q, st, h => by simp [wpc] at h
 | .refuse .., Q, st, h => by simp [wpc] at h
end
section

def resVarP (T : Types) (st : St) : ResultVar → (AV → Prop) → Prop
 | .tmp t, K => K (st.env t)
 | .cell a t, K => loadP T st.heap t (st.env a) K
def resListP (T : Types) (st : St) : List ResultVar → (List AV → Prop) → Prop
 | [], K => K []
 | r :: rs, K => resVarP T st r fun x => resListP T st rs fun xs => K (x :: xs)
def tupleOf : List AV → AV
 | [x] => x
 | xs => .tuple xs
def resF (tmps : Array Value) : ResultVar → Sem Value
 | .tmp t => pure (tmps.getD t undef)
 | .cell a t => do loadVar t (← asAddr (tmps.getD a undef))
theorem resVarP_sound {P : Program} {T : Types} (hT : TOK P T) {Z : Nat → Prop} {E : Env} {st : St} {a : Act} (S : Sim Z E st a) {r : ResultVar} {K : AV → Prop} (h : resVarP T st r K) :
  ∃ x v, K x ∧ RepV E x v ∧ (resF a.tmps r).run P E.w = .ok v E.w := by
 cases r with
 | tmp t => exact ⟨_, _, h, S.env t, by simp [resF]⟩
 | cell p t =>
  change loadP T st.heap t (st.env p) K at h
  obtain ⟨x, v, b, h1, h2, h3, _⟩ := loadP_at (P := P) hT S.heap (S.env p) h
  refine ⟨x, v, h1, h2, ?_⟩
  have hr := h3 E.w rfl
  have hp : ∃ ad, a.tmps.getD p undef = .pointer (some ad) := by
   have hv := S.env p
   unfold loadP at h
   split at h
   ·rename_i id off he
    rw [he] at hv
    simp only [RepV] at hv
    obtain ⟨n, _, hv⟩ := hv
    exact ⟨_, hv⟩
   ·rename_i cs he
    rw [he] at hv
    simp only [RepV] at hv
    obtain ⟨b, off, hv, _⟩ := hv
    exact ⟨_, hv⟩
   ·exact h.elim
  obtain ⟨ad, hp⟩ := hp
  rw [hp] at hr
  simp only [Instr.loadAt, Instr.sureAddr, Sem.run_bind, Sem.run_pure, Result.andThen_ok] at hr
  simp only [resF, hp, asAddr, Sem.run_bind, Sem.run_pure, Result.andThen_ok]
  exact hr
theorem resListP_sound {P : Program} {T : Types} (hT : TOK P T) {Z : Nat → Prop} {E : Env} {st : St} {a : Act} (S : Sim Z E st a) : ∀ (rs : List ResultVar) {K : List AV → Prop}, resListP T st rs K →
  ∃ xs vs, K xs ∧ RepL E xs vs ∧ (rs.mapM (resF a.tmps)).run P E.w = .ok vs E.w
 | [], K, h => ⟨[], [], h, by simp [RepL], by simp⟩
 | r :: rs, K, h => by
  unfold resListP at h
  obtain ⟨x, v, h1, h2, h3⟩ := resVarP_sound (P := P) hT S h
  obtain ⟨xs, vs, k1, k2, k3⟩ := resListP_sound hT S rs h1
  refine ⟨x :: xs, v :: vs, k1, by simp only [RepL]; exact ⟨v, vs, rfl, h2, k2⟩, ?_⟩
  simp [List.mapM_cons, h3, k3]
theorem results_sound {P : Program} {T : Types} (hT : TOK P T) {Z : Nat → Prop} {E : Env} {st : St} {a : Act} (S : Sim Z E st a) {fn : Func} {K : List AV → Prop} (h : resListP T st fn.results.toList K) :
  ∃ xs v, K xs ∧ RepV E (tupleOf xs) v ∧ (results fn a.tmps).run P E.w = .ok v E.w := by
 obtain ⟨xs, vs, h1, h2, h3⟩ := resListP_sound (P := P) hT S _ h
 have hm : (fn.results.mapM (resF a.tmps)).run P E.w = .ok vs.toArray E.w := by
  have e : fn.results = fn.results.toList.toArray := by simp
  rw [e, List.mapM_toArray]
  simp [h3]
 have hres : (results fn a.tmps).run P E.w = .ok (if h : vs.toArray.size = 1 then vs.toArray[0] else .tuple vs.toArray) E.w := by
  have : results fn a.tmps = (do let vs ← fn.results.mapM (resF a.tmps); Pure.pure (if h : vs.size = 1 then vs[0] else .tuple vs)) := by
   unfold results
   congr 1
  rw [this, Sem.run_bind, hm]
  simp
 refine ⟨xs, _, h1, ?_, hres⟩
 have hlen := repL_length _ _ h2
 match xs, vs, h2, hlen with
 | [], [], h2, _ => simp [tupleOf, RepV, RepL]
 | [x], [v], h2, _ =>
  simp only [RepL] at h2
  obtain ⟨u, us, he, hr, _⟩ := h2
  injection he with he1 he2
  subst he1
  simpa [tupleOf] using hr
 | x :: y :: xs, v :: u :: vs, h2, _ =>
  simp only [tupleOf, RepV]
  refine ⟨(v :: u :: vs).toArray, ?_, by simpa using h2⟩
  rw [dif_neg (by simp)]
def nthA : List AV → Nat → AV
 | [], _ => .top
 | x :: _, 0 => x
 | _ :: xs, t + 1 => nthA xs t
def refAVs : List AV → List AV → List AV
 | y :: ys, x :: xs => cond (isRef y) (x :: refAVs ys xs) (refAVs ys xs)
 | _, _ => []
def ptrsBelow (k : Nat) : List AV → Bool
 | [] => true
 | .ptr id _ :: r => Nat.blt id k && ptrsBelow k r
 | _ => false
def entry (args : List AV) (n : Nat) : St :=
 match matL args (noHeap, 0) with
 | (xs, (H, nx)) => ⟨nthA xs, H, nx, args.length + (n - args.length)⟩
mutual
def demP (H : Heap) (y x : AV) (K : List Nat → Prop) : Prop :=
 match y with
 | .own len esz cs => match x with
  | .nil => (len = 0 ∧ cs = []) ∧ K []
  | .sl id 0 len' esz' full => match H id with
   | some ds => (len' = len ∧ esz' = esz ∧ ds = cs ∧ cs.length = len * esz ∧ pureL cs = true) ∧ K [id]
   | none => False
  | _ => False
 | .ref cs => match x with
  | .ptr id 0 => match H id with
   | some zs => demsP H cs zs fun is => K (is ++ [id])
   | none => False
  | _ => False
 | .agg cs => match x with
  | .agg zs => demsP H cs zs K
  | _ => False
 | .tuple cs => match x with
  | .tuple zs => demsP H cs zs K
  | _ => False
 | .ro len cs => match x with
  | .nil => (len = 0 ∧ cs = []) ∧ K []
  | .ro len' cs' => (len' = len ∧ cs' = cs ∧ pureL cs = true) ∧ K []
  | _ => False
 | .int k n => match x with
  | .int k' n' => (k' = k ∧ n' = n) ∧ K []
  | _ => False
 | .bool b => match x with
  | .bool b' => b' = b ∧ K []
  | _ => False
 | .str s => match x with
  | .str s' => s' = s ∧ K []
  | _ => False
 | .nil => match x with
  | .nil => K []
  | _ => False
 | .nilp => match x with
  | .nilp => K []
  | _ => False
 | .rop cs => (x = .rop cs ∧ pureL cs = true) ∧ K []
 | .hid i => x = .hid i ∧ K []
 | .top => x = .top ∧ K []
 | .anyb => x = .anyb ∧ K []
 | _ => False
def demsP (H : Heap) (ys xs : List AV) (K : List Nat → Prop) : Prop :=
 match ys with
 | [] => match xs with
  | [] => K []
  | _ :: _ => False
 | y :: ys => match xs with
  | [] => False
  | x :: xs => demP H y x fun i => demsP H ys xs fun is => K (i ++ is)
end
mutual
theorem demP_ok {H : Heap} : ∀ (y x : AV) (K : List Nat → Prop), demP H y x K → ∃ ids, Dem H y x ids ∧ K ids
 | .own len esz cs, x, K, h => by
  simp only [demP] at h
  split at h
  ·obtain ⟨⟨rfl, rfl⟩, hk⟩ := h
   exact ⟨[], by simp [Dem, pureL], hk⟩
  ·rename_i id len' esz' full
   split at h
   ·rename_i ds hd
    obtain ⟨⟨rfl, rfl, rfl, hl, hp⟩, hk⟩ := h
    refine ⟨[id], ?_, hk⟩
    simp only [Dem]
    exact ⟨hp, hl, .inr ⟨id, full, rfl, hd, rfl⟩⟩
   ·exact h.elim
  ·exact h.elim
 | .ref cs, x, K, h => by
  simp only [demP] at h
  split at h
  ·rename_i id
   split at h
   ·rename_i zs hz
    obtain ⟨is, h1, h2⟩ := demsP_ok cs zs _ h
    refine ⟨is ++ [id], ?_, h2⟩
    simp only [Dem]
    exact ⟨id, zs, is, rfl, hz, h1, rfl⟩
   ·exact h.elim
  ·exact h.elim
 | .agg cs, x, K, h => by
  simp only [demP] at h
  split at h
  ·rename_i zs
   obtain ⟨is, h1, h2⟩ := demsP_ok cs zs _ h
   exact ⟨is, by simp only [Dem]; exact ⟨zs, rfl, h1⟩, h2⟩
  ·exact h.elim
 | .tuple cs, x, K, h => by
  simp only [demP] at h
  split at h
  ·rename_i zs
   obtain ⟨is, h1, h2⟩ := demsP_ok cs zs _ h
   exact ⟨is, by simp only [Dem]; exact ⟨zs, rfl, h1⟩, h2⟩
  ·exact h.elim
 | .ro len cs, x, K, h => by
  simp only [demP] at h
  split at h
  ·obtain ⟨⟨rfl, rfl⟩, hk⟩ := h
   exact ⟨[], by simp [Dem], hk⟩
  ·obtain ⟨⟨rfl, rfl, hp⟩, hk⟩ := h
   exact ⟨[], by simp [Dem, hp], hk⟩
  ·exact h.elim
 | .int k n, x, K, h => by
  simp only [demP] at h
  split at h
  ·obtain ⟨⟨rfl, rfl⟩, hk⟩ := h
   exact ⟨[], by simp [Dem, pureV], hk⟩
  ·exact h.elim
 | .bool b, x, K, h => by
  simp only [demP] at h
  split at h
  ·obtain ⟨rfl, hk⟩ := h
   exact ⟨[], by simp [Dem, pureV], hk⟩
  ·exact h.elim
 | .str s, x, K, h => by
  simp only [demP] at h
  split at h
  ·obtain ⟨rfl, hk⟩ := h
   exact ⟨[], by simp [Dem, pureV], hk⟩
  ·exact h.elim
 | .nil, x, K, h => by
  simp only [demP] at h
  split at h
  ·exact ⟨[], by simp [Dem, pureV], h⟩
  ·exact h.elim
 | .nilp, x, K, h => by
  simp only [demP] at h
  split at h
  ·exact ⟨[], by simp [Dem, pureV], h⟩
  ·exact h.elim
 | .rop cs, x, K, h => by
  simp only [demP] at h
  obtain ⟨⟨rfl, hp⟩, hk⟩ := h
  exact ⟨[], by simp [Dem, pureV, hp], hk⟩
 | .hid i, x, K, h => by
  simp only [demP] at h
  obtain ⟨rfl, hk⟩ := h
  exact ⟨[], by simp [Dem, pureV], hk⟩
 | .top, x, K, h => by
  simp only [demP] at h
  obtain ⟨rfl, hk⟩ := h
  exact ⟨[], by simp [Dem, pureV], hk⟩
 | .anyb, x, K, h => by
  simp only [demP] at h
  obtain ⟨rfl, hk⟩ := h
  exact ⟨[], by simp [Dem, pureV], hk⟩
 | .sl .., x, K, h => by simp [demP] at h
 | .ptr .., x, K, h => by simp [demP] at h
 | .fn .., x, K, h => by simp [demP] at h
theorem demsP_ok {H : Heap} : ∀ (ys xs : List AV) (K : List Nat → Prop), demsP H ys xs K → ∃ ids, DemL H ys xs ids ∧ K ids
 | [], xs, K, h => by
  simp only [demsP] at h
  split at h
  ·exact ⟨[], by simp [DemL], h⟩
  ·exact h.elim
 | y :: ys, xs, K, h => by
  simp only [demsP] at h
  split at h
  ·exact h.elim
  ·rename_i x xs
   obtain ⟨i, h1, h2⟩ := demP_ok y x _ h
   obtain ⟨is, h3, h4⟩ := demsP_ok ys xs _ h2
   refine ⟨i ++ is, ?_, h4⟩
   simp only [DemL]
   exact ⟨x, xs, i, is, rfl, rfl, h1, h3⟩
end
def exitP (T : Types) (fn : Func) (args : List AV) (r : AV) (outs : List AV) : AX → St → Prop
 | .exit _, _ => False
 | _, ⟨env, H, nx, n⟩ => resListP T ⟨env, H, nx, n⟩ fn.results.toList fun xs => demsP H (outs ++ [r]) (refAVs args (matL args (noHeap, 0)).1 ++ [tupleOf xs]) fun ids => nodupB ids = true
theorem refs_rep {E : Env} : ∀ (ys xs : List AV) (vs : List Value), RepL E xs vs → RepL E (refAVs ys xs) (refVals ys vs)
 | [], xs, vs, h => by cases xs <;> cases vs <;> simp [refAVs, refVals, RepL]
 | y :: ys, [], vs, h => by simp only [RepL] at h; subst h; simp [refAVs, refVals, RepL]
 | y :: ys, x :: xs, vs, h => by
  simp only [RepL] at h
  obtain ⟨u, us, rfl, hu, h⟩ := h
  simp only [refAVs, refVals]
  cases isRef y with
  | true => simp only [cond_true, RepL]; exact ⟨u, _, rfl, hu, refs_rep ys xs us h⟩
  | false => exact refs_rep ys xs us h
theorem ptrs_keep {k : Nat} {E E' : Env} (hk : ∀ id n, id < k → E.ρ id = some n → E'.ρ id = some n) : ∀ (xs : List AV) (vs : List Value), ptrsBelow k xs = true → RepL E xs vs → RepL E' xs vs
 | [], vs, _, h => by simpa [RepL] using h
 | x :: xs, vs, hb, h => by
  unfold ptrsBelow at hb
  split at hb
  ·rename_i e; cases e
  ·rename_i id off r e
   injection e with e1 e2
   subst e1; subst e2
   simp only [Bool.and_eq_true] at hb
   simp only [RepL, RepV] at h ⊢
   obtain ⟨u, us, rfl, ⟨n, hn, rfl⟩, h⟩ := h
   exact ⟨_, _, rfl, ⟨n, hk id n (Nat.le_of_ble_eq_true hb.1) hn, rfl⟩, ptrs_keep hk _ _ hb.2 h⟩
  ·cases hb
theorem nthA_rep {E : Env} : ∀ (xs : List AV) (vs : List Value) (m t : Nat), RepL E xs vs → RepV E (nthA xs t) ((vs.toArray ++ Array.replicate m undef).getD t undef)
 | xs, vs, m, t, h => by
  have key : ∀ (xs : List AV) (vs : List Value) (t : Nat), RepL E xs vs → RepV E (nthA xs t) ((vs ++ List.replicate m undef)[t]?.getD undef) := by
   intro xs
   induction xs with
   | nil => intro vs t h; simp [nthA, RepV]
   | cons x xs ih =>
    intro vs t h
    simp only [RepL] at h
    obtain ⟨u, us, rfl, hu, h⟩ := h
    cases t with
    | zero => simpa [nthA] using hu
    | succ t => simpa [nthA] using ih us t h
  have := key xs vs t h
  rw [Array.getD_eq_getD_getElem?]
  simpa [← Array.getElem?_toList] using this
theorem repL_append {E : Env} : ∀ {xs ys : List AV} {us vs : List Value}, RepL E xs us → RepL E ys vs → RepL E (xs ++ ys) (us ++ vs)
 | [], ys, us, vs, h, k => by simp only [RepL] at h; subst h; exact k
 | x :: xs, ys, us, vs, h, k => by
  simp only [RepL] at h
  obtain ⟨u, us', rfl, hu, h⟩ := h
  simp only [List.cons_append, RepL]
  exact ⟨u, us' ++ vs, rfl, hu, repL_append h k⟩
theorem RepBL_length {E : Env} : ∀ (cs : List AV) (vs : List Value) (X : List Nat), RepBL E cs vs X → cs.length = vs.length
 | [], vs, X, h => by simp only [RepBL] at h; simp [h.1]
 | c :: cs, vs, X, h => by
  simp only [RepBL] at h
  obtain ⟨u, us, Y, Y', rfl, rfl, _, h2⟩ := h
  simp [RepBL_length cs us Y' h2]
theorem ACall.of_does {P : Program} {T : Types} (hT : TOK P T) {f : FuncId} {fn : Func} {c : Code} (hf : P.funcs[f]? = some fn) (hb : fn.body = some c) (he : Enters P f) {args : List AV} {r : AV} {outs : List AV}
  (hp : ptrsBelow (matL args (noHeap, 0)).2.2 (refAVs args (matL args (noHeap, 0)).1) = true)
  (h : Does P (matL args (noHeap, 0)).2.2 c (exitP T fn args r outs) (entry args fn.ntmps)) : ACall P f args r outs := by
 refine ⟨he, fun Z E vals X h0 hargs hX hXZ => ?_⟩
 refine calls_of_wp hf hb ?_
 obtain ⟨E0, t0, r0⟩ := matL_ok args vals X _ E noHeap 0 h0 hargs hX (fun b hb => .inr hb)
 have hZ : HeapRep Z E0 (matL args (noHeap, 0)).2.1 (matL args (noHeap, 0)).2.2 := t0.heap.congrZ fun b => by
  constructor
  ·rintro ⟨hz | hx, hn⟩
   ·exact hz
   ·exact absurd hx hn
  ·exact fun hz => ⟨.inl hz, fun hx => hXZ b hx hz⟩
 have hlen : args.length = vals.length := by
  have := RepBL_length args vals X hargs
  exact this
 have S : Sim Z E0 (entry args fn.ntmps) { tmps := vals.toArray ++ Array.replicate (fn.ntmps - vals.toArray.size) undef, defers := [] } :=
  ⟨fun t => nthA_rep _ _ _ t r0, by simp [entry, hlen], rfl, hZ⟩
 have hw := h Z E0 _ S
 rw [t0.mem.w] at hw
 refine wp_mono hw ?_
 rintro e a' w' ⟨x, st', E', rfl, hq, S', rfl, fl⟩
 have key : ∀ (hq : resListP T st' fn.results.toList fun xs => demsP st'.heap (outs ++ [r]) (refAVs args (matL args (noHeap, 0)).1 ++ [tupleOf xs]) fun ids => nodupB ids = true),
   a'.defers = [] ∧ ∃ v, (results fn a'.tmps).run P E'.w = .ok v E'.w ∧ ∃ v' E1 Xr, Ending.returned v = .returned v' ∧ E1.w = E'.w ∧ E1.η = E.η ∧ Evo (· ∈ X) E.w E'.w ∧ (∀ b, E1.V b ↔ Z b ∨ b ∈ Xr) ∧
   RepBL E1 (outs ++ [r]) (refVals args vals ++ [v']) Xr ∧ Xr.Nodup ∧ ∀ b ∈ Xr, ¬ Z b ∧ (b < E.w.heap.size → b ∈ X) ∧ b < E'.w.heap.size := by
  intro hq
  obtain ⟨xs, v, hdem, hv, hr⟩ := results_sound (P := P) hT S' hq
  obtain ⟨ids, hd, hnd⟩ := demsP_ok _ _ _ hdem
  refine ⟨S'.dfr, v, hr, v, { E' with V := fun b => Z b ∨ b ∈ ids.filterMap E'.ρ }, ids.filterMap E'.ρ, rfl, rfl, fl.η.trans t0.mem.η, ?_, fun b => Iff.rfl, ?_, ?_, ?_⟩
  ·have := fl.evo
   rw [t0.mem.w] at this
   refine this.mono fun b hb => ?_
   have hbV : E0.V b := (hZ.V b).2 (.inr hb)
   have : E.V b := t0.V b hbV
   rcases (h0.V b).1 this with (hz | hx) | ⟨id, cs, h1, _⟩
   ·obtain ⟨id, cs, h1, h2⟩ := hb
    exact absurd hz (hZ.apart id b (fun hh => by have h1' : (matL args (noHeap, 0)).2.1 id = some cs := h1; rw [hh] at h1'; cases h1') h2)
   ·exact hx
   ·cases h1
  ·have hrefs : RepL E' (refAVs args (matL args (noHeap, 0)).1) (refVals args vals) := ptrs_keep fl.keep _ _ hp (refs_rep args _ vals r0)
   have hall : RepL E' (refAVs args (matL args (noHeap, 0)).1 ++ [tupleOf xs]) (refVals args vals ++ [v]) := repL_append hrefs (by simp only [RepL]; exact ⟨v, [], rfl, hv, rfl⟩)
   have hout := DemL_ok S'.heap (outs ++ [r]) _ _ ids hall hd
   refine RepBL.mono (E := E') (E' := { E' with V := fun b => Z b ∨ b ∈ ids.filterMap E'.ρ }) ⟨rfl, rfl⟩ (fun b hb => ?_) _ _ _ hout
   rcases hb with hz | hm
   ·exact (S'.heap.V b).2 (.inl hz)
   ·obtain ⟨i, hi, hn⟩ := List.mem_filterMap.1 hm
    have := DemL_mem _ _ _ hd i hi
    cases hh : st'.heap i with
    | none => exact absurd hh this
    | some cs => exact (S'.heap.V b).2 (.inr ⟨i, cs, hh, hn⟩)
  ·exact (remH_ok ids Z st'.heap S'.heap (nodupB_ok hnd) (DemL_mem _ _ _ hd)).2.1
  ·intro b hb
   obtain ⟨i, hi, hn⟩ := List.mem_filterMap.1 hb
   have hne := DemL_mem _ _ _ hd i hi
   refine ⟨S'.heap.apart i b hne hn, fun hlt => ?_, S'.heap.old i b hn⟩
   have hwr : Wr E0.ρ (entry args fn.ntmps).heap b := fl.back b (by rw [t0.mem.w]; exact hlt) (by
    cases hh : st'.heap i with
    | none => exact absurd hh hne
    | some cs => exact ⟨i, cs, hh, hn⟩)
   have : E.V b := t0.V b ((hZ.V b).2 (.inr hwr))
   rcases (h0.V b).1 this with (hz | hx) | ⟨id, cs, h1, _⟩
   ·exact absurd hz (S'.heap.apart i b hne hn)
   ·exact hx
   ·cases h1
 cases x with
 | normal => exact key hq
 | exit id => exact hq.elim
 | ret => exact key hq
end
section

def envL : List (Nat × AV) → Nat → AV
 | [], _ => .top
 | (d, x) :: r, t => cond (Nat.beq t d) x (envL r t)
def heapL : List (Nat × List AV) → Heap
 | [], _ => none
 | (d, x) :: r, t => cond (Nat.beq t d) (some x) (heapL r t)
def mkSt (env : List (Nat × AV)) (heap : List (Nat × List AV)) (nx n : Nat) : St := ⟨envL env, heapL heap, nx, n⟩
def findR : List (Nat × Nat) → Nat → Option Nat
 | [], _ => none
 | (d, x) :: r, t => cond (Nat.beq t d) (some x) (findR r t)
def oldOf (k : Nat) (g : List (Nat × Nat)) (i : Nat) : Option Nat := cond (Nat.blt i k) (some i) (findR g i)
mutual
def leP (o : Nat → Option Nat) (y x : AV) : Prop :=
 match y with
 | .top => True
 | .anyb => match x with
  | .bool _ => True
  | .anyb => True
  | _ => False
 | .int k n => match x with
  | .int k' n' => k' = k ∧ n' = n
  | _ => False
 | .bool b => match x with
  | .bool b' => b' = b
  | _ => False
 | .str s => match x with
  | .str s' => s' = s
  | _ => False
 | .agg ys => match x with
  | .agg xs => lesP o ys xs
  | _ => False
 | .tuple ys => match x with
  | .tuple xs => lesP o ys xs
  | _ => False
 | .nil => match x with
  | .nil => True
  | _ => False
 | .ro len cs => match x with
  | .nil => len = 0 ∧ cs = []
  | .ro len' cs' => len' = len ∧ cs' = cs ∧ pureL cs = true
  | _ => False
 | .fn f cs => match x with
  | .fn f' cs' => f' = f ∧ cs' = [] ∧ cs = []
  | _ => False
 | .sl id off len esz full => match x with
  | .nil => len = 0
  | .sl id' off' len' esz' full' => o id = some id' ∧ off' = off ∧ len' = len ∧ esz' = esz ∧ (full = true → full' = true)
  | _ => False
 | .ptr id off => match x with
  | .ptr id' off' => o id = some id' ∧ off' = off
  | _ => False
 | .rop cs => match x with
  | .rop cs' => cs' = cs ∧ pureL cs = true
  | _ => False
 | .nilp => match x with
  | .nilp => True
  | _ => False
 | .hid i => match x with
  | .hid j => j = i
  | _ => False
 | _ => False
def lesP (o : Nat → Option Nat) (ys xs : List AV) : Prop :=
 match ys with
 | [] => match xs with
  | [] => True
  | _ :: _ => False
 | y :: ys => match xs with
  | [] => False
  | x :: xs => leP o y x ∧ lesP o ys xs
end
mutual
theorem leP_ok {o : Nat → Option Nat} {E E' : Env} (hm : SameMem E E') (hV : ∀ b, E'.V b → E.V b) (hρ : ∀ i j n, o i = some j → E.ρ j = some n → E'.ρ i = some n) :
  ∀ (y x : AV) (v : Value), leP o y x → RepV E x v → RepV E' y v
 | .top, x, v, h, hr => by simp [RepV]
 | .anyb, x, v, h, hr => by
  simp only [leP] at h
  split at h
  ·simp only [RepV] at hr ⊢; exact ⟨_, hr⟩
  ·simpa [RepV] using hr
  ·exact h.elim
 | .int k n, x, v, h, hr => by
  simp only [leP] at h
  split at h
  ·obtain ⟨rfl, rfl⟩ := h; simpa [RepV] using hr
  ·exact h.elim
 | .bool b, x, v, h, hr => by
  simp only [leP] at h
  split at h
  ·subst h; simpa [RepV] using hr
  ·exact h.elim
 | .str s, x, v, h, hr => by
  simp only [leP] at h
  split at h
  ·subst h; simpa [RepV] using hr
  ·exact h.elim
 | .agg ys, x, v, h, hr => by
  simp only [leP] at h
  split at h
  ·simp only [RepV] at hr ⊢
   obtain ⟨vs, rfl, hl⟩ := hr
   exact ⟨vs, rfl, lesP_ok hm hV hρ ys _ _ h hl⟩
  ·exact h.elim
 | .tuple ys, x, v, h, hr => by
  simp only [leP] at h
  split at h
  ·simp only [RepV] at hr ⊢
   obtain ⟨vs, rfl, hl⟩ := hr
   exact ⟨vs, rfl, lesP_ok hm hV hρ ys _ _ h hl⟩
  ·exact h.elim
 | .nil, x, v, h, hr => by
  simp only [leP] at h
  split at h
  ·simpa [RepV] using hr
  ·exact h.elim
 | .ro len cs, x, v, h, hr => by
  simp only [leP] at h
  split at h
  ·obtain ⟨rfl, rfl⟩ := h
   simp only [RepV] at hr ⊢
   exact ⟨none, 0, hr, Nat.le_refl _, .inl trivial⟩
  ·obtain ⟨rfl, rfl, hp⟩ := h
   exact pureV_rep hm hV _ _ (by simpa [pureV] using hp) hr
  ·exact h.elim
 | .sl id off len esz full, x, v, h, hr => by
  simp only [leP] at h
  split at h
  ·subst h
   simp only [RepV] at hr ⊢
   exact ⟨none, 0, hr, Nat.le_refl _, fun _ => rfl, .inl rfl⟩
  ·rename_i id' off' len' esz' full'
   obtain ⟨hi, rfl, rfl, rfl, hf⟩ := h
   simp only [RepV] at hr ⊢
   obtain ⟨a, cap, rfl, hl, hfull, hc⟩ := hr
   refine ⟨a, cap, rfl, hl, fun hh => hfull (hf hh), hc.imp (fun x => x) ?_⟩
   rintro ⟨n, c, e, fr, hn, rfl, hh, hs⟩
   exact ⟨n, c, e, fr, hρ _ _ _ hi hn, rfl, by rw [hm.w]; exact hh, hs⟩
  ·exact h.elim
 | .ptr id off, x, v, h, hr => by
  simp only [leP] at h
  split at h
  ·obtain ⟨hi, rfl⟩ := h
   simp only [RepV] at hr ⊢
   obtain ⟨n, hn, rfl⟩ := hr
   exact ⟨n, hρ _ _ _ hi hn, rfl⟩
  ·exact h.elim
 | .rop cs, x, v, h, hr => by
  simp only [leP] at h
  split at h
  ·obtain ⟨rfl, hp⟩ := h
   exact pureV_rep hm hV _ _ (by simpa [pureV] using hp) hr
  ·exact h.elim
 | .nilp, x, v, h, hr => by
  simp only [leP] at h
  split at h
  ·simpa [RepV] using hr
  ·exact h.elim
 | .hid i, x, v, h, hr => by
  simp only [leP] at h
  split at h
  ·subst h; simp only [RepV] at hr ⊢; rw [hm.η]; exact hr
  ·exact h.elim
 | .own .., x, v, h, hr => by simp [leP] at h
 | .ref .., x, v, h, hr => by simp [leP] at h
 | .fn f cs, x, v, h, hr => by
  simp only [leP] at h
  split at h
  ·obtain ⟨rfl, rfl, rfl⟩ := h
   simpa [RepV, RepL] using hr
  ·exact h.elim
theorem lesP_ok {o : Nat → Option Nat} {E E' : Env} (hm : SameMem E E') (hV : ∀ b, E'.V b → E.V b) (hρ : ∀ i j n, o i = some j → E.ρ j = some n → E'.ρ i = some n) :
  ∀ (ys xs : List AV) (vs : List Value), lesP o ys xs → RepL E xs vs → RepL E' ys vs
 | [], xs, vs, h, hr => by
  simp only [lesP] at h
  split at h
  ·simpa [RepL] using hr
  ·exact h.elim
 | y :: ys, xs, vs, h, hr => by
  simp only [lesP] at h
  split at h
  ·exact h.elim
  ·simp only [RepL] at hr ⊢
   obtain ⟨u, us, rfl, hu, hr⟩ := hr
   exact ⟨u, us, rfl, leP_ok hm hV hρ y _ u h.1 hu, lesP_ok hm hV hρ ys _ us h.2 hr⟩
end
theorem lesP_length {o : Nat → Option Nat} : ∀ (ys xs : List AV), lesP o ys xs → ys.length = xs.length
 | [], xs, h => by
  simp only [lesP] at h
  split at h
  ·rfl
  ·exact h.elim
 | y :: ys, xs, h => by
  simp only [lesP] at h
  split at h
  ·exact h.elim
  ·simp [lesP_length ys _ h.2]
theorem lesP_get {o : Nat → Option Nat} : ∀ (ys xs : List AV), lesP o ys xs → ∀ (j : Nat) y, ys[j]? = some y → ∃ x, xs[j]? = some x ∧ leP o y x
 | [], xs, h, j, y, hy => by simp at hy
 | y0 :: ys, xs, h, j, y, hy => by
  simp only [lesP] at h
  split at h
  ·exact h.elim
  ·cases j with
   | zero => simp at hy; subst hy; exact ⟨_, rfl, h.1⟩
   | succ j => simpa using lesP_get ys _ h.2 j y (by simpa using hy)
def envLe (o : Nat → Option Nat) (env : Nat → AV) : List (Nat × AV) → Prop
 | [] => True
 | (t, y) :: r => leP o y (env t) ∧ envLe o env r
def heapLe (o : Nat → Option Nat) (H : Heap) : List (Nat × List AV) → Prop
 | [] => True
 | (i, ys) :: r => (match o i with
  | some j => match H j with
   | some xs => lesP o ys xs
   | none => False
  | none => ys = []) ∧ heapLe o H r
theorem envLe_ok {o : Nat → Option Nat} {env : Nat → AV} : ∀ {l : List (Nat × AV)}, envLe o env l → ∀ t, leP o (envL l t) (env t)
 | [], _, t => by simp [envL, leP]
 | (d, y) :: r, h, t => by
  simp only [envL]
  cases hb : Nat.beq t d with
  | true => rw [Nat.eq_of_beq_eq_true hb]; exact h.1
  | false => exact envLe_ok h.2 t
theorem heapLe_ok {o : Nat → Option Nat} {H : Heap} : ∀ {l : List (Nat × List AV)}, heapLe o H l → ∀ i ys, heapL l i = some ys → (∃ j xs, o i = some j ∧ H j = some xs ∧ lesP o ys xs) ∨ (o i = none ∧ ys = [])
 | [], _, i, ys, hi => by simp [heapL] at hi
 | (d, y) :: r, h, i, ys, hi => by
  simp only [heapL] at hi
  cases hb : Nat.beq i d with
  | true =>
   rw [hb] at hi
   injection hi with hi
   subst hi
   rw [Nat.eq_of_beq_eq_true hb]
   have h1 := h.1
   split at h1
   ·rename_i j hj
    split at h1
    ·rename_i xs hx
     exact .inl ⟨j, xs, hj, hx, h1⟩
    ·exact h1.elim
   ·rename_i hj
    exact .inr ⟨hj, h1⟩
  | false => rw [hb] at hi; exact heapLe_ok h.2 i ys hi
theorem heapL_mem : ∀ {l : List (Nat × List AV)} {i : Nat} {ys : List AV}, heapL l i = some ys → i ∈ l.map (·.1)
 | [], i, ys, h => by simp [heapL] at h
 | (d, y) :: r, i, ys, h => by
  simp only [heapL] at h
  cases hb : Nat.beq i d with
  | true => rw [Nat.eq_of_beq_eq_true hb]; simp
  | false => rw [hb] at h; simp [heapL_mem h]
def renOk (k : Nat) (g : List (Nat × Nat)) (heap : List (Nat × List AV)) (nx : Nat) : Bool :=
 Nat.ble k nx && (g.all fun p => Nat.blt p.1 nx) && (heap.all fun p => Nat.blt p.1 nx) && nodupB ((heap.map (·.1)).filterMap (oldOf k g)) && nodupB (heap.map (·.1))
theorem findR_mem : ∀ {g : List (Nat × Nat)} {i j : Nat}, findR g i = some j → ∃ p ∈ g, p.1 = i
 | [], i, j, h => by simp [findR] at h
 | (d, x) :: r, i, j, h => by
  simp only [findR] at h
  cases hb : Nat.beq i d with
  | true => exact ⟨(d, x), by simp, (Nat.eq_of_beq_eq_true hb).symm⟩
  | false =>
   rw [hb] at h
   obtain ⟨p, hp, he⟩ := findR_mem h
   exact ⟨p, by simp [hp], he⟩
theorem filterMap_inj {o : Nat → Option Nat} : ∀ {l : List Nat}, (l.filterMap o).Nodup → ∀ i ∈ l, ∀ i' ∈ l, ∀ j, o i = some j → o i' = some j → l.Nodup → i = i'
 | [], _, i, hi, _, _, _, _, _, _ => by simp at hi
 | x :: l, hnd, i, hi, i', hi', j, h1, h2, hl => by
  have hx : ∀ y ∈ l, ∀ j, o x = some j → o y = some j → False := by
   intro y hy j k1 k2
   rw [List.filterMap_cons, k1] at hnd
   exact (List.nodup_cons.1 hnd).1 (List.mem_filterMap.2 ⟨y, hy, k2⟩)
  have hnd' : (l.filterMap o).Nodup := by
   rw [List.filterMap_cons] at hnd
   cases ho : o x with
   | none => rw [ho] at hnd; exact hnd
   | some y => rw [ho] at hnd; exact (List.nodup_cons.1 hnd).2
  rcases List.mem_cons.1 hi with rfl | hi <;> rcases List.mem_cons.1 hi' with rfl | hi'
  ·rfl
  ·exact (hx _ hi' j h1 h2).elim
  ·exact (hx _ (by assumption) j h2 h1).elim
  ·exact filterMap_inj hnd' i hi i' hi' j h1 h2 (List.nodup_cons.1 hl).2
theorem weaker_of {k : Nat} {st : St} {env : List (Nat × AV)} {heap : List (Nat × List AV)} {nx n : Nat} (g : List (Nat × Nat)) (hn : st.n = n) (hg : renOk k g heap nx = true)
  (he : envLe (oldOf k g) st.env env) (hh : heapLe (oldOf k g) st.heap heap) : Weaker k st (mkSt env heap nx n) := by
 intro Z E a S
 simp only [renOk, Bool.and_eq_true, List.all_eq_true] at hg
 obtain ⟨⟨⟨⟨g1, g2⟩, g3⟩, g4⟩, g5⟩ := hg
 have hkn : k ≤ nx := Nat.le_of_ble_eq_true g1
 let ρ' : Nat → Option Nat := fun i => (oldOf k g i).bind E.ρ
 let E' : Env := { E with ρ := ρ', V := fun b => Z b ∨ Wr ρ' (heapL heap) b }
 have hm : SameMem E E' := ⟨rfl, rfl⟩
 have hwr : ∀ b, Wr ρ' (heapL heap) b → Wr E.ρ st.heap b := by
  rintro b ⟨i, ys, h1, h2⟩
  rcases heapLe_ok hh i ys h1 with ⟨j, xs, k1, k2, _⟩ | ⟨k1, _⟩
  ·simp only [ρ', k1, Option.bind_some] at h2
   exact ⟨j, xs, k2, h2⟩
  ·simp only [ρ', k1, Option.bind_none] at h2
   cases h2
 have hV : ∀ b, E'.V b → E.V b := by
  rintro b (hz | hw)
  ·exact (S.heap.V b).2 (.inl hz)
  ·exact (S.heap.V b).2 (.inr (hwr b hw))
 have hρ : ∀ i j n, oldOf k g i = some j → E.ρ j = some n → E'.ρ i = some n := by
  intro i j n h1 h2
  show (oldOf k g i).bind E.ρ = some n
  rw [h1]; exact h2
 refine ⟨E', ⟨fun t => leP_ok hm hV hρ _ _ _ (envLe_ok he t) (S.env t), S.sz.trans hn, S.dfr, ?_⟩, rfl, ⟨rfl, Evo.refl _ _, fun b _ hb => hwr b hb, fun id m hid hρm => ?_⟩⟩
 ·refine ⟨fun i ys hi => ?_, fun i i' m h1 h2 h3 h4 => ?_, fun b => Iff.rfl, fun i m h1 h2 => ?_, fun i hi => ⟨?_, ?_⟩, S.heap.one, fun i m hi => ?_, S.heap.zold, S.heap.tab.same rfl hV⟩
  ·rcases heapLe_ok hh i ys hi with ⟨j, xs, k1, k2, k3⟩ | ⟨k1, k2⟩
   ·rcases S.heap.blk j xs k2 with ⟨b1, rfl⟩ | ⟨m, b1, c, e, fr, b2, b3, b4, b5⟩
    ·left
     refine ⟨by show (oldOf k g i).bind E.ρ = none; rw [k1]; exact b1, ?_⟩
     exact List.length_eq_zero_iff.1 (by rw [lesP_length _ _ k3]; rfl)
    ·right
     refine ⟨m, hρ i j m k1 b1, c, e, fr, b2, b3, by rw [lesP_length _ _ k3]; exact b4, fun q y hy => ?_⟩
     obtain ⟨x, hx, hle⟩ := lesP_get _ _ k3 q y hy
     obtain ⟨u, hu, hr⟩ := b5 q x hx
     exact ⟨u, hu, leP_ok hm hV hρ _ _ _ hle hr⟩
   ·left
    exact ⟨by show (oldOf k g i).bind E.ρ = none; rw [k1]; rfl, k2⟩
  ·have ex : ∀ i m, (heapL heap i ≠ none) → E'.ρ i = some m → ∃ j, oldOf k g i = some j ∧ st.heap j ≠ none ∧ E.ρ j = some m := by
    intro i m hi hr
    cases hq : heapL heap i with
    | none => exact absurd hq hi
    | some ys =>
     rcases heapLe_ok hh i ys hq with ⟨j, xs, k1, k2, k3⟩ | ⟨k1, k2⟩
     ·have hr' : (oldOf k g i).bind E.ρ = some m := hr
      rw [k1] at hr'
      exact ⟨j, k1, by rw [k2]; simp, hr'⟩
     ·have hr' : (oldOf k g i).bind E.ρ = some m := hr
      rw [k1] at hr'
      cases hr'
   obtain ⟨j, q1, q2, q3⟩ := ex i m h1 h3
   obtain ⟨j', q1', q2', q3'⟩ := ex i' m h2 h4
   obtain rfl : j = j' := S.heap.inj j j' m q2 q2' q3 q3'
   have mem : ∀ i, heapL heap i ≠ none → i ∈ heap.map (·.1) := by
    intro i hi
    cases hq : heapL heap i with
    | none => exact absurd hq hi
    | some ys => exact heapL_mem hq
   exact filterMap_inj (nodupB_ok g4) i (mem i h1) i' (mem i' h2) j q1 q1' (nodupB_ok g5)
  ·intro hz
   cases hq : heapL heap i with
   | none => exact absurd hq h1
   | some ys =>
    rcases heapLe_ok hh i ys hq with ⟨j, xs, k1, k2, k3⟩ | ⟨k1, k2⟩
    ·have hr' : (oldOf k g i).bind E.ρ = some m := h2
     rw [k1] at hr'
     exact S.heap.apart j m (by rw [k2]; simp) hr' hz
    ·have hr' : (oldOf k g i).bind E.ρ = some m := h2
     rw [k1] at hr'
     cases hr'
  ·show (oldOf k g i).bind E.ρ = none
   have hb : Nat.blt i k = false := by
    cases hb : Nat.blt i k with
    | false => rfl
    | true => have : i < k := Nat.le_of_ble_eq_true hb; have hi' : nx ≤ i := hi; omega
   cases hf : findR g i with
   | none => simp [oldOf, hb, hf]
   | some j =>
    obtain ⟨p, hp, he⟩ := findR_mem hf
    have : p.1 < nx := Nat.le_of_ble_eq_true (g2 p hp)
    have hi' : nx ≤ i := hi
    omega
  ·show heapL heap i = none
   cases hq : heapL heap i with
   | none => rfl
   | some ys =>
    obtain ⟨p, hp, he⟩ := List.mem_map.1 (heapL_mem hq)
    have : p.1 < nx := Nat.le_of_ble_eq_true (g3 p hp)
    have hi' : nx ≤ i := hi
    omega
  ·have hr' : (oldOf k g i).bind E.ρ = some m := hi
   cases ho : oldOf k g i with
   | none => rw [ho] at hr'; cases hr'
   | some j => rw [ho] at hr'; exact S.heap.old j m hr'
 ·have hb : Nat.blt id k = true := by
   simp [Nat.blt]; omega
  exact hρ id id m (by simp [oldOf, hb]) hρm
end
section

def bys (l : List Int) : List AV := l.map (AV.int .u8)
def ints (l : List Int) : List AV := l.map (AV.int .i64)
theorem pureL_map (k : IntKind) (l : List Int) : pureL (l.map (AV.int k)) = true := by
 induction l with
 | nil => rfl
 | cons x l ih => simp [pureL, pureV] at ih ⊢; exact ih
theorem pureL_bys (l : List Int) : pureL (bys l) = true := pureL_map _ l
theorem pureL_ints (l : List Int) : pureL (ints l) = true := pureL_map _ l
theorem noRoL_map (k : IntKind) (l : List Int) : noRoL (l.map (AV.int k)) = true := by
 induction l with
 | nil => rfl
 | cons x l ih => simp [noRoL, noRoV] at ih ⊢; exact ih
theorem noRoL_bys (l : List Int) : noRoL (bys l) = true := noRoL_map _ l
@[simp] theorem bys_length (l : List Int) : (bys l).length = l.length := by simp [bys]
@[simp] theorem ints_length (l : List Int) : (ints l).length = l.length := by simp [ints]
theorem ones_bys (l : List Int) : (bys l).all AV.one = true := by simp [bys, AV.one]
theorem bys_append (a b : List Int) : bys a ++ bys b = bys (a ++ b) := by simp [bys]
theorem bys_snoc (a : List Int) (x : Int) : bys a ++ [.int .u8 x] = bys (a ++ [x]) := by simp [bys]
theorem bys_take (a : List Int) (n : Nat) : (bys a).take n = bys (a.take n) := by simp [bys]
theorem bys_drop (a : List Int) (n : Nat) : (bys a).drop n = bys (a.drop n) := by simp [bys]
theorem bys_nil {l : List Int} (h : bys l = []) : l = [] := by
 cases l with
 | nil => rfl
 | cons x l => simp [bys] at h
theorem lesP_map (o : Nat → Option Nat) (k : IntKind) (l : List Int) : lesP o (l.map (AV.int k)) (l.map (AV.int k)) := by
 induction l with
 | nil => simp [lesP]
 | cons x l ih => simp only [List.map_cons, lesP, leP]; exact ⟨⟨trivial, trivial⟩, ih⟩
theorem lesP_bys {o : Nat → Option Nat} {l : List Int} {xs : List AV} (h : xs = bys l) : lesP o (bys l) xs := by
 subst h; exact lesP_map _ _ _
theorem wrap_u8 (n : Int) : IntKind.u8.wrap n = n % 256 := by simp [IntKind.wrap, IntKind.bits, IntKind.signed]
theorem wrap_u64 (n : Int) : IntKind.u64.wrap n = n % 18446744073709551616 := by simp [IntKind.wrap, IntKind.bits, IntKind.signed]
def noCut : Nat → Bool := fun _ => false
def cutAt (l : List Nat) : Nat → Bool := fun i => l.any (Nat.beq i)
def takes : List Nat → Plan
 | [] => .done
 | i :: r => .take i (takes r)
def plans : List (Nat × (Bool × Plan)) → Nat → Bool × Plan
 | [], _ => (true, .done)
 | (f, m) :: r, g => cond (Nat.beq g f) m (plans r g)
def modes : List (Nat × List Mode) → FuncId → List Mode
 | [], _ => []
 | (f, m) :: r, g => cond (Nat.beq g f) m (modes r g)
theorem ifB_pos {b : Bool} {A B : Prop} (hb : b = true) (h : A) : ifB b A B := by subst hb; exact ifB_t h
theorem ifB_neg {b : Bool} {A B : Prop} (hb : b = false) (h : B) : ifB b A B := by subst hb; exact ifB_f h
theorem get_bys {l : List Int} {c : Nat} (h : c < l.length) : ((bys l).drop c)[0]? = some (.int .u8 l[c]) := by
 simp [bys, h]
def Byt (l : List Int) : Prop := ∀ x ∈ l, 0 ≤ x ∧ x < 256
end
end Go.Proofs.YthnhpkpbjaelnaaDoor.Abs
