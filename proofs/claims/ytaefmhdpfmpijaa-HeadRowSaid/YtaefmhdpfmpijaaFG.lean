/- Fields, elements, slices, lengths, literals: sound. -/
import Derived.Test.YtaefmhdpfmpijaaFF
import Derived.Laws.Slices
set_option linter.unusedVariables false
set_option linter.unusedSimpArgs false
namespace Go.Proofs.Ytaefmhdpfmpijaa.Abs
open Go

/-- Of a value in hand: its part at some cells. -/
theorem run_part {P : Program} {E : Env} {t : TypeId} {i : TI} (h : TIok P t i) {vs : Array Value} {cs : List AV} (hr : RepL E cs vs.toList) (o : Nat) (w : World) :
    (i.d.agg = true → ∀ r, takeN i.size (cs.drop o) = some r → ∃ v, (part t vs o).run P w = .ok v w ∧ RepV E (.agg r) v) ∧
    (i.d.agg = false → ∀ x, (cs.drop o)[0]? = some x → ∃ v, (part t vs o).run P w = .ok v w ∧ RepV E x v) := by
  constructor
  · intro ha r hr'
    obtain ⟨hl, rfl⟩ := takeN_spec _ _ _ hr'
    refine ⟨.agg (vs.extract o (o + i.size)), by simp [part, run_isAgg h, ha, run_sizeOf h], ?_⟩
    simp only [RepV]
    refine ⟨_, rfl, repL_of_get _ _ ?_ fun j x u hx hu => ?_⟩
    · have := repL_length _ _ hr
      simp at this hl ⊢
      omega
    · have hj : j < i.size := by
        rcases Nat.lt_or_ge j ((cs.drop o).take i.size).length with h' | h'
        · simp at h'; omega
        · simp [List.getElem?_eq_none h'] at hx
      rw [List.getElem?_take_of_lt hj, List.getElem?_drop] at hx
      obtain ⟨u', h1, h2⟩ := repL_get _ _ hr _ x hx
      rw [Array.toList_extract, List.extract_eq_take_drop, List.getElem?_take_of_lt (by omega), List.getElem?_drop, h1] at hu
      injection hu with hu
      rw [← hu]; exact h2
  · intro ha x hx
    rw [List.getElem?_drop] at hx
    obtain ⟨u, h1, h2⟩ := repL_get _ _ hr _ x hx
    simp only [Nat.add_zero, Array.getElem?_toList] at h1
    exact ⟨u, by simp [part, run_isAgg h, ha, h1], h2⟩

theorem getP_part {P : Program} {T : Types} (hT : TOK P T) {E : Env} {t : TypeId} {vs : Array Value} {cs : List AV} {o : Nat} {K : AV → Prop} (hr : RepL E cs vs.toList)
    (h : getP T t (cs.drop o) K) : ∃ x v, K x ∧ (∀ w, (part t vs o).run P w = .ok v w) ∧ RepV E x v := by
  unfold getP at h
  split at h
  · rename_i i hi
    split at h
    · rename_i ha
      obtain ⟨r, hr', h⟩ := h
      obtain ⟨v, h1, h2⟩ := (run_part (P := P) (hT t i hi) hr o default).1 ha r hr'
      refine ⟨_, v, h, fun w => ?_, h2⟩
      obtain ⟨v', h1', _⟩ := (run_part (P := P) (hT t i hi) hr o w).1 ha r hr'
      have e1 : (part t vs o).run P default = .ok (.agg (vs.extract o (o + i.size))) default := by simp [part, run_isAgg (hT t i hi), ha, run_sizeOf (hT t i hi)]
      have e2 : (part t vs o).run P w = .ok (.agg (vs.extract o (o + i.size))) w := by simp [part, run_isAgg (hT t i hi), ha, run_sizeOf (hT t i hi)]
      rw [e1] at h1
      injection h1 with h1 _
      rw [e2, h1]
    · rename_i ha
      obtain ⟨x, hx, h⟩ := h
      rw [List.getElem?_drop] at hx
      obtain ⟨u, h1, h2⟩ := repL_get _ _ hr _ x hx
      simp only [Nat.add_zero, Array.getElem?_toList] at h1
      exact ⟨x, u, h, fun w => by simp [part, run_isAgg (hT t i hi), ha, h1], h2⟩
  · exact h.elim

def fieldP (T : Types) (t : TypeId) (X : AV) (f : Nat) (K : AV → Prop) : Prop :=
  match T t with
  | some ⟨.struct fs, _, _, _, _⟩ => match fs[f]? with
    | some (o, ft) => match X with
      | .agg cs => getP T ft (cs.drop o) K
      | _ => False
    | none => False
  | _ => False

theorem struct_und {P : Program} {t : TypeId} {fs : List (Nat × TypeId)} {a b : Nat} {z : AV} {sg : List Seg} (h : TIok P t ⟨.struct fs, a, b, z, sg⟩) {f o : Nat} {ft : TypeId} (hf : fs[f]? = some (o, ft)) :
    ∃ (fields : Array Field) (fd : Field), P.underlying t = some (.struct fields) ∧ fields[f]? = some fd ∧ fd.offset = o ∧ fd.type = ft := by
  obtain ⟨d, hd, ho, _⟩ := h.und
  obtain ⟨fields, rfl, hm⟩ := ho
  have : (fields.toList.map (fun f => (f.offset, f.type)))[f]? = some (o, ft) := by rw [hm]; exact hf
  rw [List.getElem?_map, Array.getElem?_toList] at this
  cases hh : fields[f]? with
  | none => rw [hh] at this; simp at this
  | some fd =>
    rw [hh] at this
    simp at this
    exact ⟨fields, fd, hd, hh, this.1, this.2⟩

theorem fieldP_sound {P : Program} {T : Types} (hT : TOK P T) {E : Env} {t : TypeId} {X : AV} {f : Nat} {v : Value} {K : AV → Prop} (hx : RepV E X v) (h : fieldP T t X f K) :
    ∃ x r, K x ∧ (∀ w, (Instr.field t v f).run P w = .ok r w) ∧ RepV E x r := by
  unfold fieldP at h
  split at h
  · rename_i fs a b z sg hi
    split at h
    · rename_i o ft hf
      split at h
      · rename_i cs
        simp only [RepV] at hx
        obtain ⟨vs, rfl, hr⟩ := hx
        obtain ⟨x, r, h1, h2, h3⟩ := getP_part hT hr h
        obtain ⟨fields, fd, e1, e2, rfl, rfl⟩ := struct_und (hT t _ hi) hf
        exact ⟨x, r, h1, fun w => by simp [Instr.field, run_underlying e1, e2, asAgg, h2], h3⟩
      · exact h.elim
    · exact h.elim
  · exact h.elim

def ptrAdd (A : AV) (o : Nat) (K : AV → Prop) : Prop :=
  match A with
  | .ptr id off => K (.ptr id (off + o))
  | .rop cs => K (.rop (cs.drop o))
  | _ => False

theorem repM_drop {E : Env} {cs : List AV} {b off : Nat} (h : RepM E cs b off) (o : Nat) : RepM E (cs.drop o) b (off + o) :=
  repM_of_get _ _ _ fun j x hx => by
    rw [List.getElem?_drop] at hx
    obtain ⟨u, h1, h2⟩ := repM_get _ _ _ h _ x hx
    exact ⟨u, by rw [Nat.add_assoc]; exact h1, h2⟩

theorem ptrAdd_sound {E : Env} {A : AV} {o : Nat} {K : AV → Prop} {v : Value} (hv : RepV E A v) (h : ptrAdd A o K) :
    ∃ x a, K x ∧ v = .pointer (some a) ∧ RepV E x (.pointer (some (a.add o))) := by
  unfold ptrAdd at h
  split at h
  · simp only [RepV] at hv
    obtain ⟨n, hn, rfl⟩ := hv
    exact ⟨_, _, h, rfl, by simp only [RepV]; exact ⟨n, hn, by rw [addr_add]⟩⟩
  · simp only [RepV] at hv
    obtain ⟨b, off, rfl, hc⟩ := hv
    refine ⟨_, _, h, rfl, ?_⟩
    simp only [RepV]
    refine ⟨b, off + o, by rw [addr_add], ?_⟩
    rcases hc with rfl | ⟨hV, hm⟩
    · exact .inl (by simp)
    · exact .inr ⟨hV, repM_drop hm o⟩
  · exact h.elim

def fieldAddrP (T : Types) (t : TypeId) (A : AV) (f : Nat) (K : AV → Prop) : Prop :=
  match T t with
  | some ⟨.struct fs, _, _, _, _⟩ => match fs[f]? with
    | some (o, ft) => match T ft with
      | some i => match i.size with
        | _ + 1 => ptrAdd A o K
        | 0 => False
      | none => False
    | none => False
  | _ => False

theorem fieldAddrP_sound {P : Program} {T : Types} (hT : TOK P T) {E : Env} {t : TypeId} {A : AV} {f : Nat} {v : Value} {K : AV → Prop} (hx : RepV E A v) (h : fieldAddrP T t A f K) :
    ∃ x r, K x ∧ (∀ w, (Instr.fieldAt t v f).run P w = .ok r w) ∧ RepV E x r := by
  unfold fieldAddrP at h
  split at h
  · rename_i fs a b z sg hi
    split at h
    · rename_i o ft hf
      split at h
      · rename_i i hft
        split at h
        · rename_i m hm
          obtain ⟨x, a, h1, rfl, h3⟩ := ptrAdd_sound hx h
          obtain ⟨fields, fd, e1, e2, rfl, rfl⟩ := struct_und (hT t _ hi) hf
          refine ⟨x, _, h1, fun w => ?_, h3⟩
          simp [Instr.fieldAt, run_underlying e1, e2, Instr.sureAddr, fieldPlace, run_sizeOf (hT _ _ hft), hm]
        · exact h.elim
      · exact h.elim
    · exact h.elim
  · exact h.elim

def indexAddrP (T : Types) (t : TypeId) (X I : AV) (K : AV → Prop) : Prop :=
  match I with
  | .int _ i => match T t with
    | some ⟨.slice e, _, _, _, _⟩ => match T e with
      | some ei => match X with
        | .ro len cs => (0 ≤ i ∧ i < len ∧ i.toNat * ei.size < cs.length) ∧ K (.rop (cs.drop (i.toNat * ei.size)))
        | .sl id off len esz full => (0 ≤ i ∧ i < len) ∧ K (.ptr id (off + i.toNat * ei.size))
        | _ => False
      | none => False
    | some ⟨.arr n e, _, _, _, _⟩ => match T e with
      | some ei => (0 ≤ i ∧ i < n) ∧ ptrAdd X (i.toNat * ei.size) K
      | none => False
    | _ => False
  | _ => False

theorem indexAddrP_sound {P : Program} {T : Types} (hT : TOK P T) {E : Env} {t : TypeId} {X I : AV} {v vi : Value} {K : AV → Prop} (hx : RepV E X v) (hi : RepV E I vi)
    (h : indexAddrP T t X I K) : ∃ x r, K x ∧ (∀ w, (Instr.indexAt t v vi).run P w = .ok r w) ∧ RepV E x r := by
  unfold indexAddrP at h
  split at h
  · rename_i k i
    simp only [RepV] at hi
    subst hi
    split at h
    · rename_i e a b z sg ht
      obtain ⟨d, hd, ho, _⟩ := (hT t _ ht).und
      have ho' : d = .slice e := ho
      subst ho'
      split at h
      · rename_i ei he
        have hsz := fun w => run_sizeOf (hT e _ he) w
        split at h
        · rename_i len cs
          obtain ⟨⟨h0, h1, h2⟩, hk⟩ := h
          simp only [RepV] at hx
          obtain ⟨ao, cap, rfl, hl, hc⟩ := hx
          rcases hc with rfl | ⟨bb, off, rfl, hV, hm⟩
          · simp at h2
          · refine ⟨_, .pointer (some (Addr.add ⟨bb, off, none⟩ (i.toNat * ei.size))), hk, fun w => ?_, ?_⟩
            · simp [Instr.indexAt, asIntOf, run_underlying hd, h0, h1, hsz]
            · simp only [RepV]
              exact ⟨bb, off + i.toNat * ei.size, by rw [addr_add], .inr ⟨hV, repM_drop hm _⟩⟩
        · rename_i id off len esz full
          obtain ⟨⟨h0, h1⟩, hk⟩ := h
          simp only [RepV] at hx
          obtain ⟨ao, cap, rfl, hl, hf, hc⟩ := hx
          rcases hc with rfl | ⟨n, c, e', fr, hn, rfl, hh, hs⟩
          · omega
          · refine ⟨_, .pointer (some (Addr.add ⟨n, off, none⟩ (i.toNat * ei.size))), hk, fun w => ?_, ?_⟩
            · simp [Instr.indexAt, asIntOf, run_underlying hd, h0, h1, hsz]
            · simp only [RepV]
              exact ⟨n, hn, by rw [addr_add]⟩
        · exact h.elim
      · exact h.elim
    · rename_i m e a b z sg ht
      obtain ⟨d, hd, ho, _⟩ := (hT t _ ht).und
      have ho' : d = .array m e := ho
      subst ho'
      split at h
      · rename_i ei he
        have hsz := fun w => run_sizeOf (hT e _ he) w
        obtain ⟨⟨h0, h1⟩, hk⟩ := h
        obtain ⟨x, a', k1, rfl, k3⟩ := ptrAdd_sound hx hk
        exact ⟨x, _, k1, fun w => by simp [Instr.indexAt, asIntOf, run_underlying hd, h0, h1, hsz, Instr.sureAddr], k3⟩
      · exact h.elim
    · exact h.elim
  · exact h.elim

def indexP (T : Types) (t : TypeId) (X I : AV) (K : AV → Prop) : Prop :=
  match I with
  | .int _ i => match X with
    | .str s => match T t with
      | some ⟨.str, _, _, _, _⟩ => (0 ≤ i ∧ i.toNat < s.length) ∧ K (.int .u8 (s.getD i.toNat 0))
      | _ => False
    | .agg cs => match T t with
      | some ⟨.arr n e, _, _, _, _⟩ => match T e with
        | some ei => (0 ≤ i ∧ i < n) ∧ getP T e (cs.drop (i.toNat * ei.size)) K
        | none => False
      | _ => False
    | _ => False
  | _ => False

theorem indexP_sound {P : Program} {T : Types} (hT : TOK P T) {E : Env} {t : TypeId} {X I : AV} {v vi : Value} {K : AV → Prop} (hx : RepV E X v) (hi : RepV E I vi)
    (h : indexP T t X I K) : ∃ x r, K x ∧ (∀ w, (Instr.index t v vi).run P w = .ok r w) ∧ RepV E x r := by
  unfold indexP at h
  split at h
  · rename_i k i
    simp only [RepV] at hi
    subst hi
    split at h
    · rename_i s
      split at h
      · rename_i a b z sg ht
        obtain ⟨d, hd, ho, _⟩ := (hT t _ ht).und
        have ho' : d = .string := ho
        subst ho'
        obtain ⟨⟨h0, h1⟩, hk⟩ := h
        simp only [RepV] at hx
        obtain ⟨ba, rfl, rfl⟩ := hx
        have h1' : i.toNat < ba.size := by rwa [length_bytesOf] at h1
        refine ⟨_, _, hk, fun w => ?_, rep_int E _ _⟩
        have e : (bytesOf ba).getD i.toNat 0 = ((ba[i.toNat]'h1').toNat : Int) := by
          have hd' : i.toNat < ba.data.toList.length := by simpa using h1'
          unfold bytesOf
          rw [List.getD_eq_getElem?_getD, List.getElem?_map, List.getElem?_eq_getElem hd']
          rfl
        have : (if 0 ≤ i then ba[i.toNat]? else none) = some (ba[i.toNat]'h1') := by
          rw [if_pos h0]
          exact getElem?_pos ba i.toNat h1'
        simp only [Instr.index, asIntOf, Sem.run_bind, Sem.run_pure, Result.andThen_ok, run_underlying hd, this, e]
      · exact h.elim
    · rename_i cs
      split at h
      · rename_i n e a b z sg ht
        obtain ⟨d, hd, ho, _⟩ := (hT t _ ht).und
        have ho' : d = .array n e := ho
        subst ho'
        split at h
        · rename_i ei he
          obtain ⟨⟨h0, h1⟩, hk⟩ := h
          simp only [RepV] at hx
          obtain ⟨vs, rfl, hr⟩ := hx
          obtain ⟨x, r, k1, k2, k3⟩ := getP_part hT hr hk
          exact ⟨x, r, k1, fun w => by simp [Instr.index, asIntOf, run_underlying hd, h0, h1, run_sizeOf (hT e _ he), k2], k3⟩
        · exact h.elim
      · exact h.elim
    · exact h.elim
  · exact h.elim

def extractP (X : AV) (i : Nat) (K : AV → Prop) : Prop :=
  match X with
  | .tuple cs => match cs[i]? with
    | some x => K x
    | none => False
  | _ => False

theorem extractP_sound {P : Program} {E : Env} {X : AV} {i : Nat} {v : Value} {K : AV → Prop} (hx : RepV E X v) (h : extractP X i K) :
    ∃ x r, K x ∧ (∀ w, (Instr.extract v i).run P w = .ok r w) ∧ RepV E x r := by
  unfold extractP at h
  split at h
  · rename_i cs
    split at h
    · rename_i x hx'
      simp only [RepV] at hx
      obtain ⟨vs, rfl, hr⟩ := hx
      obtain ⟨u, h1, h2⟩ := repL_get _ _ hr _ x hx'
      simp only [Array.getElem?_toList] at h1
      exact ⟨x, u, h, fun w => by simp [Instr.extract, h1], h2⟩
    · exact h.elim
  · exact h.elim

def lenP (T : Types) (t : TypeId) (X : AV) (K : AV → Prop) : Prop :=
  match X with
  | .str s => match T t with
    | some ⟨.str, _, _, _, _⟩ => K (.int .i64 s.length)
    | _ => False
  | .nil => match T t with
    | some ⟨.slice _, _, _, _, _⟩ => K (.int .i64 0)
    | _ => False
  | .ro len _ => match T t with
    | some ⟨.slice _, _, _, _, _⟩ => K (.int .i64 len)
    | _ => False
  | .sl _ _ len _ _ => match T t with
    | some ⟨.slice _, _, _, _, _⟩ => K (.int .i64 len)
    | _ => False
  | _ => False

theorem lenP_sound {P : Program} {T : Types} (hT : TOK P T) {E : Env} {t ty : TypeId} {X : AV} {v : Value} {K : AV → Prop} (hx : RepV E X v) (h : lenP T t X K) :
    ∃ x r, K x ∧ (∀ w, (Builtin.len_ #[t] ty #[v]).run P w = .ok r w) ∧ RepV E x r := by
  unfold lenP at h
  have slice : ∀ {e a b z sg}, T t = some ⟨.slice e, a, b, z, sg⟩ → ∀ (o : Option Addr) (n c : Nat) w, (Builtin.len_ #[t] ty #[.slice o n c]).run P w = .ok (goInt n) w := by
    intro e a b z sg ht o n c w
    obtain ⟨d, hd, ho, _⟩ := (hT t _ ht).und
    have ho' : d = .slice e := ho
    subst ho'
    simp [Builtin.len_, run_underlying hd]
  split at h
  · split at h
    · rename_i a b z sg ht
      obtain ⟨d, hd, ho, _⟩ := (hT t _ ht).und
      have ho' : d = .string := ho
      subst ho'
      simp only [RepV] at hx
      obtain ⟨ba, rfl, rfl⟩ := hx
      exact ⟨_, _, h, fun w => by simp [Builtin.len_, run_underlying hd, goInt, length_bytesOf], rep_int E _ _⟩
    · exact h.elim
  · split at h
    · rename_i e a b z sg ht
      simp only [RepV] at hx
      subst hx
      exact ⟨_, _, h, fun w => by rw [slice ht]; rfl, rep_int E _ _⟩
    · exact h.elim
  · split at h
    · rename_i e a b z sg ht
      simp only [RepV] at hx
      obtain ⟨ao, cap, rfl, _⟩ := hx
      exact ⟨_, _, h, fun w => by rw [slice ht]; rfl, rep_int E _ _⟩
    · exact h.elim
  · split at h
    · rename_i e a b z sg ht
      simp only [RepV] at hx
      obtain ⟨ao, cap, rfl, _⟩ := hx
      exact ⟨_, _, h, fun w => by rw [slice ht]; rfl, rep_int E _ _⟩
    · exact h.elim
  · exact h.elim

end Go.Proofs.Ytaefmhdpfmpijaa.Abs
