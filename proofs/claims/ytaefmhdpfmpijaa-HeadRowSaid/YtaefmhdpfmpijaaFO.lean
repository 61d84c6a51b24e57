/- Comparisons of arrays and with nil, conversions, the rest of the operations: sound. -/
import Derived.Test.YtaefmhdpfmpijaaFN
import Derived.Laws.Cover3
set_option linter.unusedVariables false
set_option linter.unusedSimpArgs false
namespace Go.Proofs.Ytaefmhdpfmpijaa.Abs
open Go

theorem all_range_eq : ∀ (x y : List Int), x.length = y.length → (List.range x.length).all (fun i => x.getD i 0 == y.getD i 0) = decide (x = y)
  | [], [], _ => rfl
  | a :: x, b :: y, h => by
    rw [List.length_cons, List.range_succ_eq_map, List.all_cons, List.all_map]
    have := all_range_eq x y (by simpa using h)
    simp only [Function.comp_def, List.getD_cons_succ, List.getD_cons_zero]
    rw [this]
    rw [Bool.eq_iff_iff]
    simp
  | [], _ :: _, h => by simp at h
  | _ :: _, [], h => by simp at h

theorem run_eqA {P : Program} {w : World} (d : Nat) (t e : TypeId) (n : Nat) (k : IntKind) (ht : P.underlying t = some (.array n e)) (he : P.underlying e = some (.int k)) (hsz : ∀ w, (sizeOf e).run P w = .ok 1 w)
    (xs ys : List Int) (hx : xs.length = n) (hy : ys.length = n) :
    (Op.equalIn (d + 2) t (.agg (xs.map (Value.int k)).toArray) (.agg (ys.map (Value.int k)).toArray)).run P w = .ok (decide (xs = ys)) w := by
  rw [← all_range_eq xs ys (hx.trans hy.symm), hx, List.range_eq_range', Op.equalIn]
  simp only [Sem.run_bind, run_underlying ht, Result.andThen_ok, hsz, Std.Legacy.Range.forIn_eq_forIn_range', Std.Legacy.Range.size, Nat.sub_zero, Nat.add_sub_cancel, Nat.div_one]
  have hl : ∀ i ∈ List.range' 0 n 1, i < n := fun i hi => by simpa using (List.mem_range'_1.1 hi).2
  generalize List.range' 0 n 1 = l at hl ⊢
  induction l with
  | nil => simp
  | cons i l ih =>
    have hi : i < n := hl i (by simp)
    have px : (part e (xs.map (Value.int k)).toArray (i * 1)).run P w = .ok (Value.int k (xs.getD i 0)) w := by
      simp [part, isAgg, run_underlying he, List.getD, List.getElem?_eq_getElem (show i < xs.length by omega)]
    have py : (part e (ys.map (Value.int k)).toArray (i * 1)).run P w = .ok (Value.int k (ys.getD i 0)) w := by
      simp [part, isAgg, run_underlying he, List.getD, List.getElem?_eq_getElem (show i < ys.length by omega)]
    have pe : (Op.equalIn (d + 1) e (Value.int k (xs.getD i 0)) (Value.int k (ys.getD i 0))).run P w = .ok (xs.getD i 0 == ys.getD i 0) w :=
      run_equalIn_int w d e k k _ _ he
    simp only [List.forIn_cons, Sem.run_bind, px, py, pe, Result.andThen_ok, List.all_cons]
    cases hb : (xs.getD i 0 == ys.getD i 0)
    · simp
    · simp only [Bool.not_true, Bool.false_eq_true, if_false, Sem.run_pure, Result.andThen_ok, Bool.true_and]
      exact ih fun j hj => hl j (by simp [hj])

theorem run_eq_ptr {P : Program} (w : World) (t e : TypeId) (a : Option Addr) (h : P.underlying t = some (.pointer e)) : (Op.equal t (.pointer a) (.pointer none)).run P w = .ok a.isNone w := by
  unfold Op.equal Op.maxDepth
  rw [show (10000 : Nat) = 9999 + 1 from rfl, Op.equalIn]
  cases a <;> simp [run_underlying h]

theorem repL_ints {E : Env} {k : IntKind} : ∀ (xs : List Int) (vs : List Value), RepL E (xs.map (AV.int k)) vs → vs = xs.map (Value.int k)
  | [], vs, h => by simpa [RepL] using h
  | x :: xs, vs, h => by
    simp only [List.map_cons, RepL] at h ⊢
    obtain ⟨u, us, rfl, hu, h⟩ := h
    simp only [RepV] at hu
    rw [hu, repL_ints xs us h]

/-- Two arrays of numbers, two slices one of which is nil, a pointer and nil: alike? -/
def eqP (T : Types) (t : TypeId) (X Y : AV) (K : AV → Prop) (f : Bool → AV) : Prop :=
  match X, Y with
  | .agg cs, .agg ds => match T t with
    | some ⟨.arr n e, _, _, _, _⟩ => match T e with
      | some ⟨.int k, sz, _, _, _⟩ => ∃ xs ys : List Int, (sz = 1 ∧ cs = xs.map (AV.int k) ∧ ds = ys.map (AV.int k) ∧ xs.length = n ∧ ys.length = n) ∧ K (f (decide (xs = ys)))
      | _ => False
    | _ => False
  | .bool a, .bool b => match T t with
    | some ⟨.bool, _, _, _, _⟩ => K (f (a == b))
    | _ => False
  | .ptr _ _, .nilp => match T t with
    | some ⟨.ptr _, _, _, _, _⟩ => K (f false)
    | _ => False
  | .rop _, .nilp => match T t with
    | some ⟨.ptr _, _, _, _, _⟩ => K (f false)
    | _ => False
  | .nil, .nil => match T t with
    | some ⟨.slice _, _, _, _, _⟩ => K (f true)
    | _ => False
  | .ro len cs, .nil => match T t with
    | some ⟨.slice _, _, _, _, _⟩ => (cs = [] → K (f true)) ∧ K (f false)
    | _ => False
  | .sl _ _ len _ _, .nil => match T t with
    | some ⟨.slice _, _, _, _, _⟩ => (len = 0 → K (f true)) ∧ K (f false)
    | _ => False
  | _, _ => False

theorem run_eq_bool {P : Program} (n : Nat) (w : World) (t : TypeId) (a b : Bool) (hd : P.underlying t = some .bool) : (Op.equalIn (n + 1) t (.bool a) (.bool b)).run P w = .ok (a == b) w := by
  simp [Op.equalIn, run_underlying hd]

theorem eqP_sound {P : Program} {T : Types} (hT : TOK P T) {E : Env} {t : TypeId} {X Y : AV} {u v : Value} {K : AV → Prop} {f : Bool → AV} {g : Bool → Bool} (hf : ∀ b, f b = .bool (g b)) (hu : RepV E X u) (hv : RepV E Y v)
    (h : eqP T t X Y K f) : ∃ x b, K x ∧ RepV E x (.bool (g b)) ∧ (∀ w, (Op.equal t u v).run P w = .ok b w) ∧ ∀ op xo yo w, (eqGuard op t xo yo u v).run P w = .ok () w := by
  have hfr : ∀ b, RepV E (f b) (.bool (g b)) := fun b => by rw [hf]; exact rep_bool E _
  unfold eqP at h
  split at h
  · rename_i cs ds
    split at h
    case h_2 => exact h.elim
    rename_i n e a b z sg ht
    obtain ⟨d, hd, ho, _⟩ := (hT t _ ht).und
    have ho' : d = .array n e := ho
    subst ho'
    split at h
    case h_2 => exact h.elim
    rename_i k sz b' z' sg' he
    obtain ⟨d', hd', ho2, _⟩ := (hT e _ he).und
    have ho2' : d' = .int k := ho2
    subst ho2'
    obtain ⟨xs, ys, ⟨rfl, rfl, rfl, hx, hy⟩, hk⟩ := h
    simp only [RepV] at hu hv
    obtain ⟨us, rfl, hus⟩ := hu
    obtain ⟨vs, rfl, hvs⟩ := hv
    have e1 := repL_ints _ _ hus
    have e2 := repL_ints _ _ hvs
    have e1' : us = (xs.map (Value.int k)).toArray := by rw [← e1]
    have e2' : vs = (ys.map (Value.int k)).toArray := by rw [← e2]
    subst e1'; subst e2'
    refine ⟨_, decide (xs = ys), hk, hfr _, fun w => run_eqA 9998 t e n k hd hd' (fun w => run_sizeOf (hT e _ he) w) xs ys hx hy, fun op xo yo w => ?_⟩
    have hdep : ∃ m, P.depth = m + 2 := ⟨2 * (P.types.size + Made.depth), rfl⟩
    obtain ⟨m, hm⟩ := hdep
    refine run_eqGuard_agg w op t xo yo _ _ ?_
    rw [hm]
    simp [Program.eqGuardType, hd, hd']
  · rename_i a b
    split at h
    case h_2 => exact h.elim
    rename_i a1 b1 z1 sg1 ht
    obtain ⟨d, hd, ho, _⟩ := (hT t _ ht).und
    have ho' : d = .bool := ho
    subst ho'
    simp only [RepV] at hu hv
    subst hu; subst hv
    refine ⟨_, a == b, h, hfr _, fun w => ?_, fun op xo yo w => ?_⟩
    · exact run_eq_bool 9999 w t a b hd
    · unfold eqGuard
      cases op <;> rfl
  · split at h
    case h_2 => exact h.elim
    rename_i pe a b z sg ht
    obtain ⟨d, hd, ho, _⟩ := (hT t _ ht).und
    have ho' : d = .pointer pe := ho
    subst ho'
    simp only [RepV] at hu hv
    obtain ⟨m, hm, rfl⟩ := hu
    subst hv
    exact ⟨_, false, h, hfr _, fun w => run_eq_ptr w t pe _ hd, fun op xo yo w => by rw [eqGuard_at_pointer]; rfl⟩
  · split at h
    case h_2 => exact h.elim
    rename_i pe a b z sg ht
    obtain ⟨d, hd, ho, _⟩ := (hT t _ ht).und
    have ho' : d = .pointer pe := ho
    subst ho'
    simp only [RepV] at hu hv
    obtain ⟨bb, off, rfl, _⟩ := hu
    subst hv
    exact ⟨_, false, h, hfr _, fun w => run_eq_ptr w t pe _ hd, fun op xo yo w => by rw [eqGuard_at_pointer]; rfl⟩
  · split at h
    case h_2 => exact h.elim
    rename_i se a b z sg ht
    obtain ⟨d, hd, ho, _⟩ := (hT t _ ht).und
    have ho' : d = .slice se := ho
    subst ho'
    simp only [RepV] at hu hv
    subst hu; subst hv
    exact ⟨_, true, h, hfr _, fun w => by simp [run_equal_slice_nil w t se _ _ _ hd], fun op xo yo w => by rw [eqGuard_at_slice]; rfl⟩
  · split at h
    case h_2 => exact h.elim
    rename_i se a b z sg ht
    obtain ⟨d, hd, ho, _⟩ := (hT t _ ht).und
    have ho' : d = .slice se := ho
    subst ho'
    simp only [RepV] at hu hv
    obtain ⟨ao, cap, rfl, hl, hc⟩ := hu
    subst hv
    cases hao : ao with
    | none =>
      subst hao
      rcases hc with rfl | ⟨bb, off, he, _⟩
      · exact ⟨_, true, h.1 rfl, hfr _, fun w => by simp [run_equal_slice_nil w t se _ _ _ hd], fun op xo yo w => by rw [eqGuard_at_slice]; rfl⟩
      · cases he
    | some ad => exact ⟨_, false, h.2, hfr _, fun w => by simp [run_equal_slice_nil w t se _ _ _ hd], fun op xo yo w => by rw [eqGuard_at_slice]; rfl⟩
  · split at h
    case h_2 => exact h.elim
    rename_i se a b z sg ht
    obtain ⟨d, hd, ho, _⟩ := (hT t _ ht).und
    have ho' : d = .slice se := ho
    subst ho'
    simp only [RepV] at hu hv
    obtain ⟨ao, cap, rfl, hl, _, hc⟩ := hu
    subst hv
    cases hao : ao with
    | none =>
      subst hao
      rcases hc with rfl | ⟨m, c, e', fr, _, he, _⟩
      · exact ⟨_, true, h.1 (by omega), hfr _, fun w => by simp [run_equal_slice_nil w t se _ _ _ hd], fun op xo yo w => by rw [eqGuard_at_slice]; rfl⟩
      · cases he
    | some ad => exact ⟨_, false, h.2, hfr _, fun w => by simp [run_equal_slice_nil w t se _ _ _ hd], fun op xo yo w => by rw [eqGuard_at_slice]; rfl⟩
  · exact h.elim

def unP (op : UnOp) (X : AV) (K : AV → Prop) : Prop :=
  match op, X with
  | .not, .bool b => K (.bool (!b))
  | .not, .anyb => K .anyb
  | .neg, .int k n => fitP k (0 - n) fun m => K (.int k m)
  | .xor, .int k n => K (.int k (bits .xor k (if k.signed then -1 else k.max) n))
  | _, _ => False

theorem unP_sound {P : Program} {E : Env} {op : UnOp} {X : AV} {v : Value} {K : AV → Prop} (hx : RepV E X v) (h : unP op X K) :
    ∃ x r, K x ∧ RepV E x r ∧ ∀ w, (Op.unary op v).run P w = .ok r w := by
  unfold unP at h
  split at h <;> (try simp only [RepV] at hx)
  · subst hx; exact ⟨_, _, h, rep_bool E _, fun w => rfl⟩
  · obtain ⟨b, rfl⟩ := hx; exact ⟨_, .bool (!b), h, by simp [RepV], fun w => rfl⟩
  · subst hx; exact ⟨_, _, h.elim, rep_int E _ _, fun w => by simp [Op.unary, Op.intArith]⟩
  · subst hx; exact ⟨_, _, h, rep_int E _ _, fun w => by simp [Op.unary, intBits_xor]⟩
  · exact h.elim

def arrayAtP (T : Types) (t : TypeId) (X : AV) (K : AV → Prop) : Prop :=
  match T t with
  | some ⟨.arr n e, _, _, _, _⟩ => match X with
    | .sl id off len es full => (0 < n ∧ n ≤ len) ∧ K (.ptr id off)
    | .ro len cs => (0 < cs.length ∧ n ≤ len) ∧ K (.rop cs)
    | _ => False
  | _ => False

theorem arrayAtP_sound {P : Program} {T : Types} (hT : TOK P T) {E : Env} {t : TypeId} {X : AV} {v : Value} {K : AV → Prop} (hx : RepV E X v) (h : arrayAtP T t X K) :
    ∃ x r, K x ∧ (∀ w, (Instr.arrayAt t v).run P w = .ok r w) ∧ RepV E x r := by
  unfold arrayAtP at h
  split at h
  case h_2 => exact h.elim
  rename_i n e a b z sg ht
  obtain ⟨d, hd, ho, _⟩ := (hT t _ ht).und
  have ho' : d = .array n e := ho
  subst ho'
  split at h
  · rename_i id off len es full
    obtain ⟨⟨h0, h1⟩, hk⟩ := h
    simp only [RepV] at hx
    obtain ⟨ao, cap, rfl, hl, _, hc⟩ := hx
    rcases hc with rfl | ⟨m, c, e', fr, hm, rfl, _⟩
    · omega
    · refine ⟨_, .pointer (some ⟨m, off, none⟩), hk, fun w => ?_, ?_⟩
      · simp only [Instr.arrayAt, Sem.run_bind, run_underlying hd, Result.andThen_ok]
        rw [if_neg (by omega)]; rfl
      · simp only [RepV]; exact ⟨m, hm, rfl⟩
  · obtain ⟨⟨h0, h1⟩, hk⟩ := h
    simp only [RepV] at hx
    obtain ⟨ao, cap, rfl, hl, hc⟩ := hx
    rcases hc with rfl | ⟨bb, off, rfl, hV, hm⟩
    · simp at h0
    · refine ⟨_, .pointer (some ⟨bb, off, none⟩), hk, fun w => ?_, ?_⟩
      · simp only [Instr.arrayAt, Sem.run_bind, run_underlying hd, Result.andThen_ok]
        rw [if_neg (by omega)]; rfl
      · simp only [RepV]; exact ⟨bb, off, rfl, .inr ⟨hV, hm⟩⟩
  · exact h.elim

end Go.Proofs.Ytaefmhdpfmpijaa.Abs
