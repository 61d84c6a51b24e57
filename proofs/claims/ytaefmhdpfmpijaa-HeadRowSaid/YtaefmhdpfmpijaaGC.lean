/- States of a fixed form, and when a state is of it. -/
import Derived.Test.YtaefmhdpfmpijaaGB
set_option linter.unusedVariables false
set_option linter.unusedSimpArgs false
namespace Go.Proofs.Ytaefmhdpfmpijaa.Abs
open Go

def envL : List (Nat × AV) → Nat → AV
  | [], _ => .top
  | (d, x) :: r, t => cond (Nat.beq t d) x (envL r t)

def heapL : List (Nat × List AV) → Heap
  | [], _ => none
  | (d, x) :: r, t => cond (Nat.beq t d) (some x) (heapL r t)

def mkSt (env : List (Nat × AV)) (heap : List (Nat × List AV)) (nx n : Nat) : St := ⟨envL env, heapL heap, nx, n⟩

def findR : List (Nat × Nat) → Nat → Option Nat
  | [], _ => none
  | (d, x) :: r, t => cond (Nat.beq t d) (some x) (findR r t)

/-- The name that a block had. -/
def oldOf (k : Nat) (g : List (Nat × Nat)) (i : Nat) : Option Nat := cond (Nat.blt i k) (some i) (findR g i)

mutual
/-- y says no more than x does, under other names of blocks. -/
def leP (o : Nat → Option Nat) (y x : AV) : Prop :=
  match y with
  | .top => True
  | .anyb => match x with
    | .bool _ => True
    | .anyb => True
    | _ => False
  | .int k n => match x with
    | .int k' n' => k' = k ∧ n' = n
    | _ => False
  | .bool b => match x with
    | .bool b' => b' = b
    | _ => False
  | .str s => match x with
    | .str s' => s' = s
    | _ => False
  | .agg ys => match x with
    | .agg xs => lesP o ys xs
    | _ => False
  | .tuple ys => match x with
    | .tuple xs => lesP o ys xs
    | _ => False
  | .nil => match x with
    | .nil => True
    | _ => False
  | .ro len cs => match x with
    | .nil => len = 0 ∧ cs = []
    | .ro len' cs' => len' = len ∧ cs' = cs ∧ pureL cs = true
    | _ => False
  | .sl id off len esz full => match x with
    | .nil => len = 0
    | .sl id' off' len' esz' full' => o id = some id' ∧ off' = off ∧ len' = len ∧ esz' = esz ∧ (full = true → full' = true)
    | _ => False
  | .ptr id off => match x with
    | .ptr id' off' => o id = some id' ∧ off' = off
    | _ => False
  | .rop cs => match x with
    | .rop cs' => cs' = cs ∧ pureL cs = true
    | _ => False
  | .nilp => match x with
    | .nilp => True
    | _ => False
  | .hid i => match x with
    | .hid j => j = i
    | _ => False
  | _ => False
def lesP (o : Nat → Option Nat) (ys xs : List AV) : Prop :=
  match ys with
  | [] => match xs with
    | [] => True
    | _ :: _ => False
  | y :: ys => match xs with
    | [] => False
    | x :: xs => leP o y x ∧ lesP o ys xs
end

mutual
theorem leP_ok {o : Nat → Option Nat} {E E' : Env} (hm : SameMem E E') (hV : ∀ b, E'.V b → E.V b) (hρ : ∀ i j n, o i = some j → E.ρ j = some n → E'.ρ i = some n) :
    ∀ (y x : AV) (v : Value), leP o y x → RepV E x v → RepV E' y v
  | .top, x, v, h, hr => by simp [RepV]
  | .anyb, x, v, h, hr => by
    simp only [leP] at h
    split at h
    · simp only [RepV] at hr ⊢; exact ⟨_, hr⟩
    · simpa [RepV] using hr
    · exact h.elim
  | .int k n, x, v, h, hr => by
    simp only [leP] at h
    split at h
    · obtain ⟨rfl, rfl⟩ := h; simpa [RepV] using hr
    · exact h.elim
  | .bool b, x, v, h, hr => by
    simp only [leP] at h
    split at h
    · subst h; simpa [RepV] using hr
    · exact h.elim
  | .str s, x, v, h, hr => by
    simp only [leP] at h
    split at h
    · subst h; simpa [RepV] using hr
    · exact h.elim
  | .agg ys, x, v, h, hr => by
    simp only [leP] at h
    split at h
    · simp only [RepV] at hr ⊢
      obtain ⟨vs, rfl, hl⟩ := hr
      exact ⟨vs, rfl, lesP_ok hm hV hρ ys _ _ h hl⟩
    · exact h.elim
  | .tuple ys, x, v, h, hr => by
    simp only [leP] at h
    split at h
    · simp only [RepV] at hr ⊢
      obtain ⟨vs, rfl, hl⟩ := hr
      exact ⟨vs, rfl, lesP_ok hm hV hρ ys _ _ h hl⟩
    · exact h.elim
  | .nil, x, v, h, hr => by
    simp only [leP] at h
    split at h
    · simpa [RepV] using hr
    · exact h.elim
  | .ro len cs, x, v, h, hr => by
    simp only [leP] at h
    split at h
    · obtain ⟨rfl, rfl⟩ := h
      simp only [RepV] at hr ⊢
      exact ⟨none, 0, hr, Nat.le_refl _, .inl trivial⟩
    · obtain ⟨rfl, rfl, hp⟩ := h
      exact pureV_rep hm hV _ _ (by simpa [pureV] using hp) hr
    · exact h.elim
  | .sl id off len esz full, x, v, h, hr => by
    simp only [leP] at h
    split at h
    · subst h
      simp only [RepV] at hr ⊢
      exact ⟨none, 0, hr, Nat.le_refl _, fun _ => rfl, .inl rfl⟩
    · rename_i id' off' len' esz' full'
      obtain ⟨hi, rfl, rfl, rfl, hf⟩ := h
      simp only [RepV] at hr ⊢
      obtain ⟨a, cap, rfl, hl, hfull, hc⟩ := hr
      refine ⟨a, cap, rfl, hl, fun hh => hfull (hf hh), hc.imp (fun x => x) ?_⟩
      rintro ⟨n, c, e, fr, hn, rfl, hh, hs⟩
      exact ⟨n, c, e, fr, hρ _ _ _ hi hn, rfl, by rw [hm.w]; exact hh, hs⟩
    · exact h.elim
  | .ptr id off, x, v, h, hr => by
    simp only [leP] at h
    split at h
    · obtain ⟨hi, rfl⟩ := h
      simp only [RepV] at hr ⊢
      obtain ⟨n, hn, rfl⟩ := hr
      exact ⟨n, hρ _ _ _ hi hn, rfl⟩
    · exact h.elim
  | .rop cs, x, v, h, hr => by
    simp only [leP] at h
    split at h
    · obtain ⟨rfl, hp⟩ := h
      exact pureV_rep hm hV _ _ (by simpa [pureV] using hp) hr
    · exact h.elim
  | .nilp, x, v, h, hr => by
    simp only [leP] at h
    split at h
    · simpa [RepV] using hr
    · exact h.elim
  | .hid i, x, v, h, hr => by
    simp only [leP] at h
    split at h
    · subst h; simp only [RepV] at hr ⊢; rw [hm.η]; exact hr
    · exact h.elim
  | .own .., x, v, h, hr => by simp [leP] at h
  | .ref .., x, v, h, hr => by simp [leP] at h
  | .fn .., x, v, h, hr => by simp [leP] at h
theorem lesP_ok {o : Nat → Option Nat} {E E' : Env} (hm : SameMem E E') (hV : ∀ b, E'.V b → E.V b) (hρ : ∀ i j n, o i = some j → E.ρ j = some n → E'.ρ i = some n) :
    ∀ (ys xs : List AV) (vs : List Value), lesP o ys xs → RepL E xs vs → RepL E' ys vs
  | [], xs, vs, h, hr => by
    simp only [lesP] at h
    split at h
    · simpa [RepL] using hr
    · exact h.elim
  | y :: ys, xs, vs, h, hr => by
    simp only [lesP] at h
    split at h
    · exact h.elim
    · simp only [RepL] at hr ⊢
      obtain ⟨u, us, rfl, hu, hr⟩ := hr
      exact ⟨u, us, rfl, leP_ok hm hV hρ y _ u h.1 hu, lesP_ok hm hV hρ ys _ us h.2 hr⟩
end

theorem lesP_length {o : Nat → Option Nat} : ∀ (ys xs : List AV), lesP o ys xs → ys.length = xs.length
  | [], xs, h => by
    simp only [lesP] at h
    split at h
    · rfl
    · exact h.elim
  | y :: ys, xs, h => by
    simp only [lesP] at h
    split at h
    · exact h.elim
    · simp [lesP_length ys _ h.2]

theorem lesP_get {o : Nat → Option Nat} : ∀ (ys xs : List AV), lesP o ys xs → ∀ (j : Nat) y, ys[j]? = some y → ∃ x, xs[j]? = some x ∧ leP o y x
  | [], xs, h, j, y, hy => by simp at hy
  | y0 :: ys, xs, h, j, y, hy => by
    simp only [lesP] at h
    split at h
    · exact h.elim
    · cases j with
      | zero => simp at hy; subst hy; exact ⟨_, rfl, h.1⟩
      | succ j => simpa using lesP_get ys _ h.2 j y (by simpa using hy)

def envLe (o : Nat → Option Nat) (env : Nat → AV) : List (Nat × AV) → Prop
  | [] => True
  | (t, y) :: r => leP o y (env t) ∧ envLe o env r

def heapLe (o : Nat → Option Nat) (H : Heap) : List (Nat × List AV) → Prop
  | [] => True
  | (i, ys) :: r => (match o i with
    | some j => match H j with
      | some xs => lesP o ys xs
      | none => False
    | none => ys = []) ∧ heapLe o H r

theorem envLe_ok {o : Nat → Option Nat} {env : Nat → AV} : ∀ {l : List (Nat × AV)}, envLe o env l → ∀ t, leP o (envL l t) (env t)
  | [], _, t => by simp [envL, leP]
  | (d, y) :: r, h, t => by
    simp only [envL]
    cases hb : Nat.beq t d with
    | true => rw [Nat.eq_of_beq_eq_true hb]; exact h.1
    | false => exact envLe_ok h.2 t

theorem heapLe_ok {o : Nat → Option Nat} {H : Heap} : ∀ {l : List (Nat × List AV)}, heapLe o H l → ∀ i ys, heapL l i = some ys → (∃ j xs, o i = some j ∧ H j = some xs ∧ lesP o ys xs) ∨ (o i = none ∧ ys = [])
  | [], _, i, ys, hi => by simp [heapL] at hi
  | (d, y) :: r, h, i, ys, hi => by
    simp only [heapL] at hi
    cases hb : Nat.beq i d with
    | true =>
      rw [hb] at hi
      injection hi with hi
      subst hi
      rw [Nat.eq_of_beq_eq_true hb]
      have h1 := h.1
      split at h1
      · rename_i j hj
        split at h1
        · rename_i xs hx
          exact .inl ⟨j, xs, hj, hx, h1⟩
        · exact h1.elim
      · rename_i hj
        exact .inr ⟨hj, h1⟩
    | false => rw [hb] at hi; exact heapLe_ok h.2 i ys hi

theorem heapL_mem : ∀ {l : List (Nat × List AV)} {i : Nat} {ys : List AV}, heapL l i = some ys → i ∈ l.map (·.1)
  | [], i, ys, h => by simp [heapL] at h
  | (d, y) :: r, i, ys, h => by
    simp only [heapL] at h
    cases hb : Nat.beq i d with
    | true => rw [Nat.eq_of_beq_eq_true hb]; simp
    | false => rw [hb] at h; simp [heapL_mem h]

/-- The names that the form uses: those that had a name had different ones, and all are below nx. -/
def renOk (k : Nat) (g : List (Nat × Nat)) (heap : List (Nat × List AV)) (nx : Nat) : Bool :=
  Nat.ble k nx && (g.all fun p => Nat.blt p.1 nx) && (heap.all fun p => Nat.blt p.1 nx) && nodupB ((heap.map (·.1)).filterMap (oldOf k g)) && nodupB (heap.map (·.1))

theorem findR_mem : ∀ {g : List (Nat × Nat)} {i j : Nat}, findR g i = some j → ∃ p ∈ g, p.1 = i
  | [], i, j, h => by simp [findR] at h
  | (d, x) :: r, i, j, h => by
    simp only [findR] at h
    cases hb : Nat.beq i d with
    | true => exact ⟨(d, x), by simp, (Nat.eq_of_beq_eq_true hb).symm⟩
    | false =>
      rw [hb] at h
      obtain ⟨p, hp, he⟩ := findR_mem h
      exact ⟨p, by simp [hp], he⟩

theorem filterMap_inj {o : Nat → Option Nat} : ∀ {l : List Nat}, (l.filterMap o).Nodup → ∀ i ∈ l, ∀ i' ∈ l, ∀ j, o i = some j → o i' = some j → l.Nodup → i = i'
  | [], _, i, hi, _, _, _, _, _, _ => by simp at hi
  | x :: l, hnd, i, hi, i', hi', j, h1, h2, hl => by
    have hx : ∀ y ∈ l, ∀ j, o x = some j → o y = some j → False := by
      intro y hy j k1 k2
      rw [List.filterMap_cons, k1] at hnd
      exact (List.nodup_cons.1 hnd).1 (List.mem_filterMap.2 ⟨y, hy, k2⟩)
    have hnd' : (l.filterMap o).Nodup := by
      rw [List.filterMap_cons] at hnd
      cases ho : o x with
      | none => rw [ho] at hnd; exact hnd
      | some y => rw [ho] at hnd; exact (List.nodup_cons.1 hnd).2
    rcases List.mem_cons.1 hi with rfl | hi <;> rcases List.mem_cons.1 hi' with rfl | hi'
    · rfl
    · exact (hx _ hi' j h1 h2).elim
    · exact (hx _ (by assumption) j h2 h1).elim
    · exact filterMap_inj hnd' i hi i' hi' j h1 h2 (List.nodup_cons.1 hl).2

theorem weaker_of {k : Nat} {st : St} {env : List (Nat × AV)} {heap : List (Nat × List AV)} {nx n : Nat} (g : List (Nat × Nat)) (hn : st.n = n) (hg : renOk k g heap nx = true)
    (he : envLe (oldOf k g) st.env env) (hh : heapLe (oldOf k g) st.heap heap) : Weaker k st (mkSt env heap nx n) := by
  intro Z E a S
  simp only [renOk, Bool.and_eq_true, List.all_eq_true] at hg
  obtain ⟨⟨⟨⟨g1, g2⟩, g3⟩, g4⟩, g5⟩ := hg
  have hkn : k ≤ nx := Nat.le_of_ble_eq_true g1
  let ρ' : Nat → Option Nat := fun i => (oldOf k g i).bind E.ρ
  let E' : Env := { E with ρ := ρ', V := fun b => Z b ∨ Wr ρ' (heapL heap) b }
  have hm : SameMem E E' := ⟨rfl, rfl⟩
  have hwr : ∀ b, Wr ρ' (heapL heap) b → Wr E.ρ st.heap b := by
    rintro b ⟨i, ys, h1, h2⟩
    rcases heapLe_ok hh i ys h1 with ⟨j, xs, k1, k2, _⟩ | ⟨k1, _⟩
    · simp only [ρ', k1, Option.bind_some] at h2
      exact ⟨j, xs, k2, h2⟩
    · simp only [ρ', k1, Option.bind_none] at h2
      cases h2
  have hV : ∀ b, E'.V b → E.V b := by
    rintro b (hz | hw)
    · exact (S.heap.V b).2 (.inl hz)
    · exact (S.heap.V b).2 (.inr (hwr b hw))
  have hρ : ∀ i j n, oldOf k g i = some j → E.ρ j = some n → E'.ρ i = some n := by
    intro i j n h1 h2
    show (oldOf k g i).bind E.ρ = some n
    rw [h1]; exact h2
  refine ⟨E', ⟨fun t => leP_ok hm hV hρ _ _ _ (envLe_ok he t) (S.env t), S.sz.trans hn, S.dfr, ?_⟩, rfl, ⟨rfl, Evo.refl _ _, fun b _ hb => hwr b hb, fun id m hid hρm => ?_⟩⟩
  · refine ⟨fun i ys hi => ?_, fun i i' m h1 h2 h3 h4 => ?_, fun b => Iff.rfl, fun i m h1 h2 => ?_, fun i hi => ⟨?_, ?_⟩, S.heap.one, fun i m hi => ?_, S.heap.zold, S.heap.tab.same rfl hV⟩
    · rcases heapLe_ok hh i ys hi with ⟨j, xs, k1, k2, k3⟩ | ⟨k1, k2⟩
      · rcases S.heap.blk j xs k2 with ⟨b1, rfl⟩ | ⟨m, b1, c, e, fr, b2, b3, b4, b5⟩
        · left
          refine ⟨by show (oldOf k g i).bind E.ρ = none; rw [k1]; exact b1, ?_⟩
          exact List.length_eq_zero_iff.1 (by rw [lesP_length _ _ k3]; rfl)
        · right
          refine ⟨m, hρ i j m k1 b1, c, e, fr, b2, b3, by rw [lesP_length _ _ k3]; exact b4, fun q y hy => ?_⟩
          obtain ⟨x, hx, hle⟩ := lesP_get _ _ k3 q y hy
          obtain ⟨u, hu, hr⟩ := b5 q x hx
          exact ⟨u, hu, leP_ok hm hV hρ _ _ _ hle hr⟩
      · left
        exact ⟨by show (oldOf k g i).bind E.ρ = none; rw [k1]; rfl, k2⟩
    · have ex : ∀ i m, (heapL heap i ≠ none) → E'.ρ i = some m → ∃ j, oldOf k g i = some j ∧ st.heap j ≠ none ∧ E.ρ j = some m := by
        intro i m hi hr
        cases hq : heapL heap i with
        | none => exact absurd hq hi
        | some ys =>
          rcases heapLe_ok hh i ys hq with ⟨j, xs, k1, k2, k3⟩ | ⟨k1, k2⟩
          · have hr' : (oldOf k g i).bind E.ρ = some m := hr
            rw [k1] at hr'
            exact ⟨j, k1, by rw [k2]; simp, hr'⟩
          · have hr' : (oldOf k g i).bind E.ρ = some m := hr
            rw [k1] at hr'
            cases hr'
      obtain ⟨j, q1, q2, q3⟩ := ex i m h1 h3
      obtain ⟨j', q1', q2', q3'⟩ := ex i' m h2 h4
      obtain rfl : j = j' := S.heap.inj j j' m q2 q2' q3 q3'
      have mem : ∀ i, heapL heap i ≠ none → i ∈ heap.map (·.1) := by
        intro i hi
        cases hq : heapL heap i with
        | none => exact absurd hq hi
        | some ys => exact heapL_mem hq
      exact filterMap_inj (nodupB_ok g4) i (mem i h1) i' (mem i' h2) j q1 q1' (nodupB_ok g5)
    · intro hz
      cases hq : heapL heap i with
      | none => exact absurd hq h1
      | some ys =>
        rcases heapLe_ok hh i ys hq with ⟨j, xs, k1, k2, k3⟩ | ⟨k1, k2⟩
        · have hr' : (oldOf k g i).bind E.ρ = some m := h2
          rw [k1] at hr'
          exact S.heap.apart j m (by rw [k2]; simp) hr' hz
        · have hr' : (oldOf k g i).bind E.ρ = some m := h2
          rw [k1] at hr'
          cases hr'
    · show (oldOf k g i).bind E.ρ = none
      have hb : Nat.blt i k = false := by
        cases hb : Nat.blt i k with
        | false => rfl
        | true => have : i < k := Nat.le_of_ble_eq_true hb; have hi' : nx ≤ i := hi; omega
      cases hf : findR g i with
      | none => simp [oldOf, hb, hf]
      | some j =>
        obtain ⟨p, hp, he⟩ := findR_mem hf
        have : p.1 < nx := Nat.le_of_ble_eq_true (g2 p hp)
        have hi' : nx ≤ i := hi
        omega
    · show heapL heap i = none
      cases hq : heapL heap i with
      | none => rfl
      | some ys =>
        obtain ⟨p, hp, he⟩ := List.mem_map.1 (heapL_mem hq)
        have : p.1 < nx := Nat.le_of_ble_eq_true (g3 p hp)
        have hi' : nx ≤ i := hi
        omega
    · have hr' : (oldOf k g i).bind E.ρ = some m := hi
      cases ho : oldOf k g i with
      | none => rw [ho] at hr'; cases hr'
      | some j => rw [ho] at hr'; exact S.heap.old j m hr'
  · have hb : Nat.blt id k = true := by
      simp [Nat.blt]; omega
    exact hρ id id m (by simp [oldOf, hb]) hρm

end Go.Proofs.Ytaefmhdpfmpijaa.Abs
