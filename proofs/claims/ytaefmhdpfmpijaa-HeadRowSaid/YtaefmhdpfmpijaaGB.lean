/- A function's contract, from what its body does. -/
import Derived.Test.YtaefmhdpfmpijaaGA
import Derived.Laws.Sem
set_option linter.unusedVariables false
set_option linter.unusedSimpArgs false
namespace Go.Proofs.Ytaefmhdpfmpijaa.Abs
open Go

def resVarP (T : Types) (st : St) : ResultVar → (AV → Prop) → Prop
  | .tmp t, K => K (st.env t)
  | .cell a t, K => loadP T st.heap t (st.env a) K

def resListP (T : Types) (st : St) : List ResultVar → (List AV → Prop) → Prop
  | [], K => K []
  | r :: rs, K => resVarP T st r fun x => resListP T st rs fun xs => K (x :: xs)

def tupleOf : List AV → AV
  | [x] => x
  | xs => .tuple xs

def resF (tmps : Array Value) : ResultVar → Sem Value
  | .tmp t => pure (tmps.getD t undef)
  | .cell a t => do loadVar t (← asAddr (tmps.getD a undef))

theorem resVarP_sound {P : Program} {T : Types} (hT : TOK P T) {Z : Nat → Prop} {E : Env} {st : St} {a : Act} (S : Sim Z E st a) {r : ResultVar} {K : AV → Prop} (h : resVarP T st r K) :
    ∃ x v, K x ∧ RepV E x v ∧ (resF a.tmps r).run P E.w = .ok v E.w := by
  cases r with
  | tmp t => exact ⟨_, _, h, S.env t, by simp [resF]⟩
  | cell p t =>
    change loadP T st.heap t (st.env p) K at h
    obtain ⟨x, v, b, h1, h2, h3, _⟩ := loadP_at (P := P) hT S.heap (S.env p) h
    refine ⟨x, v, h1, h2, ?_⟩
    have hr := h3 E.w rfl
    have hp : ∃ ad, a.tmps.getD p undef = .pointer (some ad) := by
      have hv := S.env p
      unfold loadP at h
      split at h
      · rename_i id off he
        rw [he] at hv
        simp only [RepV] at hv
        obtain ⟨n, _, hv⟩ := hv
        exact ⟨_, hv⟩
      · rename_i cs he
        rw [he] at hv
        simp only [RepV] at hv
        obtain ⟨b, off, hv, _⟩ := hv
        exact ⟨_, hv⟩
      · exact h.elim
    obtain ⟨ad, hp⟩ := hp
    rw [hp] at hr
    simp only [Instr.loadAt, Instr.sureAddr, Sem.run_bind, Sem.run_pure, Result.andThen_ok] at hr
    simp only [resF, hp, asAddr, Sem.run_bind, Sem.run_pure, Result.andThen_ok]
    exact hr

theorem resListP_sound {P : Program} {T : Types} (hT : TOK P T) {Z : Nat → Prop} {E : Env} {st : St} {a : Act} (S : Sim Z E st a) : ∀ (rs : List ResultVar) {K : List AV → Prop}, resListP T st rs K →
    ∃ xs vs, K xs ∧ RepL E xs vs ∧ (rs.mapM (resF a.tmps)).run P E.w = .ok vs E.w
  | [], K, h => ⟨[], [], h, by simp [RepL], by simp⟩
  | r :: rs, K, h => by
    unfold resListP at h
    obtain ⟨x, v, h1, h2, h3⟩ := resVarP_sound (P := P) hT S h
    obtain ⟨xs, vs, k1, k2, k3⟩ := resListP_sound hT S rs h1
    refine ⟨x :: xs, v :: vs, k1, by simp only [RepL]; exact ⟨v, vs, rfl, h2, k2⟩, ?_⟩
    simp [List.mapM_cons, h3, k3]

theorem results_sound {P : Program} {T : Types} (hT : TOK P T) {Z : Nat → Prop} {E : Env} {st : St} {a : Act} (S : Sim Z E st a) {fn : Func} {K : List AV → Prop} (h : resListP T st fn.results.toList K) :
    ∃ xs v, K xs ∧ RepV E (tupleOf xs) v ∧ (results fn a.tmps).run P E.w = .ok v E.w := by
  obtain ⟨xs, vs, h1, h2, h3⟩ := resListP_sound (P := P) hT S _ h
  have hm : (fn.results.mapM (resF a.tmps)).run P E.w = .ok vs.toArray E.w := by
    have e : fn.results = fn.results.toList.toArray := by simp
    rw [e, List.mapM_toArray]
    simp [h3]
  have hres : (results fn a.tmps).run P E.w = .ok (if h : vs.toArray.size = 1 then vs.toArray[0] else .tuple vs.toArray) E.w := by
    have : results fn a.tmps = (do let vs ← fn.results.mapM (resF a.tmps); Pure.pure (if h : vs.size = 1 then vs[0] else .tuple vs)) := by
      unfold results
      congr 1
    rw [this, Sem.run_bind, hm]
    simp
  refine ⟨xs, _, h1, ?_, hres⟩
  have hlen := repL_length _ _ h2
  match xs, vs, h2, hlen with
  | [], [], h2, _ => simp [tupleOf, RepV, RepL]
  | [x], [v], h2, _ =>
    simp only [RepL] at h2
    obtain ⟨u, us, he, hr, _⟩ := h2
    injection he with he1 he2
    subst he1
    simpa [tupleOf] using hr
  | x :: y :: xs, v :: u :: vs, h2, _ =>
    simp only [tupleOf, RepV]
    refine ⟨(v :: u :: vs).toArray, ?_, by simpa using h2⟩
    rw [dif_neg (by simp)]

def nthA : List AV → Nat → AV
  | [], _ => .top
  | x :: _, 0 => x
  | _ :: xs, t + 1 => nthA xs t

/-- The pointers among the arguments. -/
def refAVs : List AV → List AV → List AV
  | y :: ys, x :: xs => cond (isRef y) (x :: refAVs ys xs) (refAVs ys xs)
  | _, _ => []

def ptrsBelow (k : Nat) : List AV → Bool
  | [] => true
  | .ptr id _ :: r => Nat.blt id k && ptrsBelow k r
  | _ => false

/-- The state at the beginning. -/
def entry (args : List AV) (n : Nat) : St :=
  match matL args (noHeap, 0) with
  | (xs, (H, nx)) => ⟨nthA xs, H, nx, args.length + (n - args.length)⟩

mutual
/-- Is x, with its blocks, y at the border? -/
def demP (H : Heap) (y x : AV) (K : List Nat → Prop) : Prop :=
  match y with
  | .own len esz cs => match x with
    | .nil => (len = 0 ∧ cs = []) ∧ K []
    | .sl id 0 len' esz' full => match H id with
      | some ds => (len' = len ∧ esz' = esz ∧ ds = cs ∧ cs.length = len * esz ∧ pureL cs = true) ∧ K [id]
      | none => False
    | _ => False
  | .ref cs => match x with
    | .ptr id 0 => match H id with
      | some zs => demsP H cs zs fun is => K (is ++ [id])
      | none => False
    | _ => False
  | .agg cs => match x with
    | .agg zs => demsP H cs zs K
    | _ => False
  | .tuple cs => match x with
    | .tuple zs => demsP H cs zs K
    | _ => False
  | .ro len cs => match x with
    | .nil => (len = 0 ∧ cs = []) ∧ K []
    | .ro len' cs' => (len' = len ∧ cs' = cs ∧ pureL cs = true) ∧ K []
    | _ => False
  | .int k n => match x with
    | .int k' n' => (k' = k ∧ n' = n) ∧ K []
    | _ => False
  | .bool b => match x with
    | .bool b' => b' = b ∧ K []
    | _ => False
  | .str s => match x with
    | .str s' => s' = s ∧ K []
    | _ => False
  | .nil => match x with
    | .nil => K []
    | _ => False
  | .nilp => match x with
    | .nilp => K []
    | _ => False
  | .rop cs => (x = .rop cs ∧ pureL cs = true) ∧ K []
  | .hid i => x = .hid i ∧ K []
  | .top => x = .top ∧ K []
  | .anyb => x = .anyb ∧ K []
  | _ => False
def demsP (H : Heap) (ys xs : List AV) (K : List Nat → Prop) : Prop :=
  match ys with
  | [] => match xs with
    | [] => K []
    | _ :: _ => False
  | y :: ys => match xs with
    | [] => False
    | x :: xs => demP H y x fun i => demsP H ys xs fun is => K (i ++ is)
end

mutual
theorem demP_ok {H : Heap} : ∀ (y x : AV) (K : List Nat → Prop), demP H y x K → ∃ ids, Dem H y x ids ∧ K ids
  | .own len esz cs, x, K, h => by
    simp only [demP] at h
    split at h
    · obtain ⟨⟨rfl, rfl⟩, hk⟩ := h
      exact ⟨[], by simp [Dem, pureL], hk⟩
    · rename_i id len' esz' full
      split at h
      · rename_i ds hd
        obtain ⟨⟨rfl, rfl, rfl, hl, hp⟩, hk⟩ := h
        refine ⟨[id], ?_, hk⟩
        simp only [Dem]
        exact ⟨hp, hl, .inr ⟨id, full, rfl, hd, rfl⟩⟩
      · exact h.elim
    · exact h.elim
  | .ref cs, x, K, h => by
    simp only [demP] at h
    split at h
    · rename_i id
      split at h
      · rename_i zs hz
        obtain ⟨is, h1, h2⟩ := demsP_ok cs zs _ h
        refine ⟨is ++ [id], ?_, h2⟩
        simp only [Dem]
        exact ⟨id, zs, is, rfl, hz, h1, rfl⟩
      · exact h.elim
    · exact h.elim
  | .agg cs, x, K, h => by
    simp only [demP] at h
    split at h
    · rename_i zs
      obtain ⟨is, h1, h2⟩ := demsP_ok cs zs _ h
      exact ⟨is, by simp only [Dem]; exact ⟨zs, rfl, h1⟩, h2⟩
    · exact h.elim
  | .tuple cs, x, K, h => by
    simp only [demP] at h
    split at h
    · rename_i zs
      obtain ⟨is, h1, h2⟩ := demsP_ok cs zs _ h
      exact ⟨is, by simp only [Dem]; exact ⟨zs, rfl, h1⟩, h2⟩
    · exact h.elim
  | .ro len cs, x, K, h => by
    simp only [demP] at h
    split at h
    · obtain ⟨⟨rfl, rfl⟩, hk⟩ := h
      exact ⟨[], by simp [Dem], hk⟩
    · obtain ⟨⟨rfl, rfl, hp⟩, hk⟩ := h
      exact ⟨[], by simp [Dem, hp], hk⟩
    · exact h.elim
  | .int k n, x, K, h => by
    simp only [demP] at h
    split at h
    · obtain ⟨⟨rfl, rfl⟩, hk⟩ := h
      exact ⟨[], by simp [Dem, pureV], hk⟩
    · exact h.elim
  | .bool b, x, K, h => by
    simp only [demP] at h
    split at h
    · obtain ⟨rfl, hk⟩ := h
      exact ⟨[], by simp [Dem, pureV], hk⟩
    · exact h.elim
  | .str s, x, K, h => by
    simp only [demP] at h
    split at h
    · obtain ⟨rfl, hk⟩ := h
      exact ⟨[], by simp [Dem, pureV], hk⟩
    · exact h.elim
  | .nil, x, K, h => by
    simp only [demP] at h
    split at h
    · exact ⟨[], by simp [Dem, pureV], h⟩
    · exact h.elim
  | .nilp, x, K, h => by
    simp only [demP] at h
    split at h
    · exact ⟨[], by simp [Dem, pureV], h⟩
    · exact h.elim
  | .rop cs, x, K, h => by
    simp only [demP] at h
    obtain ⟨⟨rfl, hp⟩, hk⟩ := h
    exact ⟨[], by simp [Dem, pureV, hp], hk⟩
  | .hid i, x, K, h => by
    simp only [demP] at h
    obtain ⟨rfl, hk⟩ := h
    exact ⟨[], by simp [Dem, pureV], hk⟩
  | .top, x, K, h => by
    simp only [demP] at h
    obtain ⟨rfl, hk⟩ := h
    exact ⟨[], by simp [Dem, pureV], hk⟩
  | .anyb, x, K, h => by
    simp only [demP] at h
    obtain ⟨rfl, hk⟩ := h
    exact ⟨[], by simp [Dem, pureV], hk⟩
  | .sl .., x, K, h => by simp [demP] at h
  | .ptr .., x, K, h => by simp [demP] at h
  | .fn .., x, K, h => by simp [demP] at h
theorem demsP_ok {H : Heap} : ∀ (ys xs : List AV) (K : List Nat → Prop), demsP H ys xs K → ∃ ids, DemL H ys xs ids ∧ K ids
  | [], xs, K, h => by
    simp only [demsP] at h
    split at h
    · exact ⟨[], by simp [DemL], h⟩
    · exact h.elim
  | y :: ys, xs, K, h => by
    simp only [demsP] at h
    split at h
    · exact h.elim
    · rename_i x xs
      obtain ⟨i, h1, h2⟩ := demP_ok y x _ h
      obtain ⟨is, h3, h4⟩ := demsP_ok ys xs _ h2
      refine ⟨i ++ is, ?_, h4⟩
      simp only [DemL]
      exact ⟨x, xs, i, is, rfl, rfl, h1, h3⟩
end

/-- The state at the end. -/
def exitP (T : Types) (fn : Func) (args : List AV) (r : AV) (outs : List AV) : AX → St → Prop
  | .exit _, _ => False
  | _, ⟨env, H, nx, n⟩ => resListP T ⟨env, H, nx, n⟩ fn.results.toList fun xs => demsP H (outs ++ [r]) (refAVs args (matL args (noHeap, 0)).1 ++ [tupleOf xs]) fun ids => nodupB ids = true

theorem refs_rep {E : Env} : ∀ (ys xs : List AV) (vs : List Value), RepL E xs vs → RepL E (refAVs ys xs) (refVals ys vs)
  | [], xs, vs, h => by cases xs <;> cases vs <;> simp [refAVs, refVals, RepL]
  | y :: ys, [], vs, h => by simp only [RepL] at h; subst h; simp [refAVs, refVals, RepL]
  | y :: ys, x :: xs, vs, h => by
    simp only [RepL] at h
    obtain ⟨u, us, rfl, hu, h⟩ := h
    simp only [refAVs, refVals]
    cases isRef y with
    | true => simp only [cond_true, RepL]; exact ⟨u, _, rfl, hu, refs_rep ys xs us h⟩
    | false => exact refs_rep ys xs us h

theorem ptrs_keep {k : Nat} {E E' : Env} (hk : ∀ id n, id < k → E.ρ id = some n → E'.ρ id = some n) : ∀ (xs : List AV) (vs : List Value), ptrsBelow k xs = true → RepL E xs vs → RepL E' xs vs
  | [], vs, _, h => by simpa [RepL] using h
  | x :: xs, vs, hb, h => by
    unfold ptrsBelow at hb
    split at hb
    · rename_i e; cases e
    · rename_i id off r e
      injection e with e1 e2
      subst e1; subst e2
      simp only [Bool.and_eq_true] at hb
      simp only [RepL, RepV] at h ⊢
      obtain ⟨u, us, rfl, ⟨n, hn, rfl⟩, h⟩ := h
      exact ⟨_, _, rfl, ⟨n, hk id n (Nat.le_of_ble_eq_true hb.1) hn, rfl⟩, ptrs_keep hk _ _ hb.2 h⟩
    · cases hb

theorem nthA_rep {E : Env} : ∀ (xs : List AV) (vs : List Value) (m t : Nat), RepL E xs vs → RepV E (nthA xs t) ((vs.toArray ++ Array.replicate m undef).getD t undef)
  | xs, vs, m, t, h => by
    have key : ∀ (xs : List AV) (vs : List Value) (t : Nat), RepL E xs vs → RepV E (nthA xs t) ((vs ++ List.replicate m undef)[t]?.getD undef) := by
      intro xs
      induction xs with
      | nil => intro vs t h; simp [nthA, RepV]
      | cons x xs ih =>
        intro vs t h
        simp only [RepL] at h
        obtain ⟨u, us, rfl, hu, h⟩ := h
        cases t with
        | zero => simpa [nthA] using hu
        | succ t => simpa [nthA] using ih us t h
    have := key xs vs t h
    rw [Array.getD_eq_getD_getElem?]
    simpa [← Array.getElem?_toList] using this

theorem repL_append {E : Env} : ∀ {xs ys : List AV} {us vs : List Value}, RepL E xs us → RepL E ys vs → RepL E (xs ++ ys) (us ++ vs)
  | [], ys, us, vs, h, k => by simp only [RepL] at h; subst h; exact k
  | x :: xs, ys, us, vs, h, k => by
    simp only [RepL] at h
    obtain ⟨u, us', rfl, hu, h⟩ := h
    simp only [List.cons_append, RepL]
    exact ⟨u, us' ++ vs, rfl, hu, repL_append h k⟩

theorem RepBL_length {E : Env} : ∀ (cs : List AV) (vs : List Value) (X : List Nat), RepBL E cs vs X → cs.length = vs.length
  | [], vs, X, h => by simp only [RepBL] at h; simp [h.1]
  | c :: cs, vs, X, h => by
    simp only [RepBL] at h
    obtain ⟨u, us, Y, Y', rfl, rfl, _, h2⟩ := h
    simp [RepBL_length cs us Y' h2]

theorem ACall.of_does {P : Program} {T : Types} (hT : TOK P T) {f : FuncId} {fn : Func} {c : Code} (hf : P.funcs[f]? = some fn) (hb : fn.body = some c) (he : Enters P f) {args : List AV} {r : AV} {outs : List AV}
    (hp : ptrsBelow (matL args (noHeap, 0)).2.2 (refAVs args (matL args (noHeap, 0)).1) = true)
    (h : Does P (matL args (noHeap, 0)).2.2 c (exitP T fn args r outs) (entry args fn.ntmps)) : ACall P f args r outs := by
  refine ⟨he, fun Z E vals X h0 hargs hX hXZ => ?_⟩
  refine calls_of_wp hf hb ?_
  obtain ⟨E0, t0, r0⟩ := matL_ok args vals X _ E noHeap 0 h0 hargs hX (fun b hb => .inr hb)
  have hZ : HeapRep Z E0 (matL args (noHeap, 0)).2.1 (matL args (noHeap, 0)).2.2 := t0.heap.congrZ fun b => by
    constructor
    · rintro ⟨hz | hx, hn⟩
      · exact hz
      · exact absurd hx hn
    · exact fun hz => ⟨.inl hz, fun hx => hXZ b hx hz⟩
  have hlen : args.length = vals.length := by
    have := RepBL_length args vals X hargs
    exact this
  have S : Sim Z E0 (entry args fn.ntmps) { tmps := vals.toArray ++ Array.replicate (fn.ntmps - vals.toArray.size) undef, defers := [] } :=
    ⟨fun t => nthA_rep _ _ _ t r0, by simp [entry, hlen], rfl, hZ⟩
  have hw := h Z E0 _ S
  rw [t0.mem.w] at hw
  refine wp_mono hw ?_
  rintro e a' w' ⟨x, st', E', rfl, hq, S', rfl, fl⟩
  have key : ∀ (hq : resListP T st' fn.results.toList fun xs => demsP st'.heap (outs ++ [r]) (refAVs args (matL args (noHeap, 0)).1 ++ [tupleOf xs]) fun ids => nodupB ids = true),
      a'.defers = [] ∧ ∃ v, (results fn a'.tmps).run P E'.w = .ok v E'.w ∧ ∃ v' E1 Xr, Ending.returned v = .returned v' ∧ E1.w = E'.w ∧ E1.η = E.η ∧ Evo (· ∈ X) E.w E'.w ∧ (∀ b, E1.V b ↔ Z b ∨ b ∈ Xr) ∧
      RepBL E1 (outs ++ [r]) (refVals args vals ++ [v']) Xr ∧ Xr.Nodup ∧ ∀ b ∈ Xr, ¬ Z b ∧ (b < E.w.heap.size → b ∈ X) ∧ b < E'.w.heap.size := by
    intro hq
    obtain ⟨xs, v, hdem, hv, hr⟩ := results_sound (P := P) hT S' hq
    obtain ⟨ids, hd, hnd⟩ := demsP_ok _ _ _ hdem
    refine ⟨S'.dfr, v, hr, v, { E' with V := fun b => Z b ∨ b ∈ ids.filterMap E'.ρ }, ids.filterMap E'.ρ, rfl, rfl, fl.η.trans t0.mem.η, ?_, fun b => Iff.rfl, ?_, ?_, ?_⟩
    · have := fl.evo
      rw [t0.mem.w] at this
      refine this.mono fun b hb => ?_
      have hbV : E0.V b := (hZ.V b).2 (.inr hb)
      have : E.V b := t0.V b hbV
      rcases (h0.V b).1 this with (hz | hx) | ⟨id, cs, h1, _⟩
      · obtain ⟨id, cs, h1, h2⟩ := hb
        exact absurd hz (hZ.apart id b (fun hh => by have h1' : (matL args (noHeap, 0)).2.1 id = some cs := h1; rw [hh] at h1'; cases h1') h2)
      · exact hx
      · cases h1
    · have hrefs : RepL E' (refAVs args (matL args (noHeap, 0)).1) (refVals args vals) := ptrs_keep fl.keep _ _ hp (refs_rep args _ vals r0)
      have hall : RepL E' (refAVs args (matL args (noHeap, 0)).1 ++ [tupleOf xs]) (refVals args vals ++ [v]) := repL_append hrefs (by simp only [RepL]; exact ⟨v, [], rfl, hv, rfl⟩)
      have hout := DemL_ok S'.heap (outs ++ [r]) _ _ ids hall hd
      refine RepBL.mono (E := E') (E' := { E' with V := fun b => Z b ∨ b ∈ ids.filterMap E'.ρ }) ⟨rfl, rfl⟩ (fun b hb => ?_) _ _ _ hout
      rcases hb with hz | hm
      · exact (S'.heap.V b).2 (.inl hz)
      · obtain ⟨i, hi, hn⟩ := List.mem_filterMap.1 hm
        have := DemL_mem _ _ _ hd i hi
        cases hh : st'.heap i with
        | none => exact absurd hh this
        | some cs => exact (S'.heap.V b).2 (.inr ⟨i, cs, hh, hn⟩)
    · exact (remH_ok ids Z st'.heap S'.heap (nodupB_ok hnd) (DemL_mem _ _ _ hd)).2.1
    · intro b hb
      obtain ⟨i, hi, hn⟩ := List.mem_filterMap.1 hb
      have hne := DemL_mem _ _ _ hd i hi
      refine ⟨S'.heap.apart i b hne hn, fun hlt => ?_, S'.heap.old i b hn⟩
      have hwr : Wr E0.ρ (entry args fn.ntmps).heap b := fl.back b (by rw [t0.mem.w]; exact hlt) (by
        cases hh : st'.heap i with
        | none => exact absurd hh hne
        | some cs => exact ⟨i, cs, hh, hn⟩)
      have : E.V b := t0.V b ((hZ.V b).2 (.inr hwr))
      rcases (h0.V b).1 this with (hz | hx) | ⟨id, cs, h1, _⟩
      · exact absurd hz (S'.heap.apart i b hne hn)
      · exact hx
      · cases h1
  cases x with
  | normal => exact key hq
  | exit id => exact hq.elim
  | ret => exact key hq

end Go.Proofs.Ytaefmhdpfmpijaa.Abs
