/- Freezing: what is one's own becomes read-only memory. -/
import Derived.Test.YtaefmhdpfmpijaaGE
set_option linter.unusedVariables false
set_option linter.unusedSimpArgs false
namespace Go.Proofs.Ytaefmhdpfmpijaa.Abs
open Go

def takesTo : List Nat → Plan → Plan
  | [], p => p
  | i :: r, p => .take i (takesTo r p)

theorem get_map {k : IntKind} {l : List Int} {c : Nat} (h : c < l.length) : (l.map (AV.int k)).drop c = .int k (l.getD c 0) :: (l.map (AV.int k)).drop (c + 1) := by
  rw [List.drop_eq_getElem_cons (by simpa using h)]
  simp [h, List.getD_eq_getElem?_getD]

theorem roLoad_ok {st : St} {t : TypeId} {a : Operand} {cs : List AV} (he : evalO st.env a = .rop cs) (hne : cs.length ≠ 0) : roLoad st (.load t a) = true := by
  simp only [roLoad, he]
  cases cs with
  | nil => simp at hne
  | cons x r => rfl

theorem get_intsM {k : IntKind} {l : List Int} {c m : Nat} (h : c < l.length) (hm : m = c) : ((l.map (AV.int k)).drop m)[0]? = some (.int k (l.getD c 0)) := by
  subst hm
  simp [h, List.getD_eq_getElem?_getD]
theorem get_bysM {l : List Int} {c m : Nat} (h : c < l.length) (hm : m = c) : ((bys l).drop m)[0]? = some (.int .u8 l[c]) := by
  subst hm
  exact get_bys h

mutual
def frzV (id : Nat) (zs : List AV) : AV → AV
  | .sl i off len esz full => cond (Nat.beq i id) (.ro len ((zs.drop off).take (len * esz))) (.sl i off len esz full)
  | .ptr i off => cond (Nat.beq i id) (.rop (zs.drop off)) (.ptr i off)
  | .agg cs => .agg (frzL id zs cs)
  | .tuple cs => .tuple (frzL id zs cs)
  | .top => .top
  | .int k n => .int k n
  | .bool b => .bool b
  | .anyb => .anyb
  | .str s => .str s
  | .nil => .nil
  | .ro len cs => .ro len cs
  | .own a b c => .own a b c
  | .ref cs => .ref cs
  | .rop cs => .rop cs
  | .nilp => .nilp
  | .hid i => .hid i
  | .fn f cs => .fn f cs
def frzL (id : Nat) (zs : List AV) : List AV → List AV
  | [] => []
  | c :: cs => frzV id zs c :: frzL id zs cs
end

theorem frzL_get {id : Nat} {zs : List AV} : ∀ {cs : List AV} {j : Nat} {y : AV}, (frzL id zs cs)[j]? = some y → ∃ x, cs[j]? = some x ∧ y = frzV id zs x
  | [], j, y, h => by simp [frzL] at h
  | c :: cs, 0, y, h => by simp [frzL] at h; exact ⟨c, by simp, h.symm⟩
  | c :: cs, j + 1, y, h => by simp [frzL] at h ⊢; exact frzL_get h
theorem frzL_length {id : Nat} {zs : List AV} : ∀ cs : List AV, (frzL id zs cs).length = cs.length
  | [] => rfl
  | c :: cs => by simp [frzL, frzL_length cs]

def St.frz (st : St) (id : Nat) (zs : List AV) : St :=
  ⟨fun t => frzV id zs (st.env t), fun i => cond (Nat.beq i id) none (match st.heap i with | some cs => some (frzL id zs cs) | none => none), st.nx, st.n⟩

section
variable {Z : Nat → Prop} {E E' : Env} {H : Heap} {nx id : Nat} {zs : List AV}

theorem blk_repM (h : HeapRep Z E H nx) (hi : H id = some zs) {n : Nat} (hn : E.ρ id = some n) (off : Nat) : RepM E (zs.drop off) n off := by
  refine repM_of_get _ _ _ fun j x hx => ?_
  rw [List.getElem?_drop] at hx
  exact blk_cells h hi hn (off + j) x hx

mutual
theorem frzV_ok (h : HeapRep Z E H nx) (hi : H id = some zs) (L : Later E E') (hw : E'.w = E.w) (hρ : E'.ρ = E.ρ) (hV : ∀ n, E.ρ id = some n → ¬ E'.V n) :
    ∀ (x : AV) (v : Value), RepV E x v → RepV E' (frzV id zs x) v
  | .sl i off len esz full, v, hr => by
    simp only [frzV]
    cases hb : Nat.beq i id with
    | false => exact RepV.later L _ v hr
    | true =>
      obtain rfl := Nat.eq_of_beq_eq_true hb
      simp only [cond_true]
      simp only [RepV] at hr ⊢
      obtain ⟨a, cap, rfl, hl, _, hc⟩ := hr
      refine ⟨a, cap, rfl, hl, ?_⟩
      rcases hc with rfl | ⟨n, c, e, fr, hn, rfl, hh, hs⟩
      · left
        obtain rfl : len = 0 := by omega
        simp
      · right
        refine ⟨n, off, rfl, hV n hn, repM_take ?_ _⟩
        have hm := blk_repM h hi hn off
        refine repM_of_get _ _ _ fun j x hx => ?_
        obtain ⟨u, h1, h2⟩ := repM_get _ _ _ hm j x hx
        exact ⟨u, by rw [hw]; exact h1, RepV.later L x u h2⟩
  | .ptr i off, v, hr => by
    simp only [frzV]
    cases hb : Nat.beq i id with
    | false => exact RepV.later L _ v hr
    | true =>
      obtain rfl := Nat.eq_of_beq_eq_true hb
      simp only [cond_true]
      simp only [RepV] at hr ⊢
      obtain ⟨n, hn, rfl⟩ := hr
      refine ⟨n, off, rfl, .inr ⟨hV n hn, ?_⟩⟩
      have hm := blk_repM h hi hn off
      refine repM_of_get _ _ _ fun j x hx => ?_
      obtain ⟨u, h1, h2⟩ := repM_get _ _ _ hm j x hx
      exact ⟨u, by rw [hw]; exact h1, RepV.later L x u h2⟩
  | .agg cs, v, hr => by
    simp only [frzV, RepV] at hr ⊢
    obtain ⟨vs, rfl, hr⟩ := hr
    exact ⟨vs, rfl, frzL_ok h hi L hw hρ hV cs _ hr⟩
  | .tuple cs, v, hr => by
    simp only [frzV, RepV] at hr ⊢
    obtain ⟨vs, rfl, hr⟩ := hr
    exact ⟨vs, rfl, frzL_ok h hi L hw hρ hV cs _ hr⟩
  | .top, v, hr => RepV.later L .top v hr
  | .int k n, v, hr => RepV.later L (.int k n) v hr
  | .bool b, v, hr => RepV.later L (.bool b) v hr
  | .anyb, v, hr => RepV.later L .anyb v hr
  | .str s, v, hr => RepV.later L (.str s) v hr
  | .nil, v, hr => RepV.later L .nil v hr
  | .ro len cs, v, hr => RepV.later L (.ro len cs) v hr
  | .own a b c, v, hr => RepV.later L (.own a b c) v hr
  | .ref cs, v, hr => RepV.later L (.ref cs) v hr
  | .rop cs, v, hr => RepV.later L (.rop cs) v hr
  | .nilp, v, hr => RepV.later L .nilp v hr
  | .hid i, v, hr => RepV.later L (.hid i) v hr
  | .fn f cs, v, hr => RepV.later L (.fn f cs) v hr
theorem frzL_ok (h : HeapRep Z E H nx) (hi : H id = some zs) (L : Later E E') (hw : E'.w = E.w) (hρ : E'.ρ = E.ρ) (hV : ∀ n, E.ρ id = some n → ¬ E'.V n) :
    ∀ (cs : List AV) (vs : List Value), RepL E cs vs → RepL E' (frzL id zs cs) vs
  | [], vs, hr => by simpa [frzL, RepL] using hr
  | c :: cs, vs, hr => by
    simp only [frzL, RepL] at hr ⊢
    obtain ⟨u, us, rfl, h1, h2⟩ := hr
    exact ⟨u, us, rfl, frzV_ok h hi L hw hρ hV c u h1, frzL_ok h hi L hw hρ hV cs us h2⟩
end
end

theorem Weaker.trans {k : Nat} {a b c : St} (h : Weaker k a b) (g : Weaker k b c) : Weaker k a c := by
  intro Z E act S
  obtain ⟨E1, S1, e1, f1⟩ := h Z E act S
  obtain ⟨E2, S2, e2, f2⟩ := g Z E1 act S1
  exact ⟨E2, S2, e2.trans e1, f1.trans f2⟩

/-- A block of one's own, from now on only read. -/
theorem Weaker.freeze {k : Nat} {st : St} (id : Nat) {zs : List AV} (hi : st.heap id = some zs) : Weaker k st (st.frz id zs) := by
  intro Z E a S
  have h := S.heap
  let H' : Heap := (st.frz id zs).heap
  have hH : ∀ i ys, H' i = some ys → i ≠ id ∧ ∃ xs, st.heap i = some xs ∧ ys = frzL id zs xs := by
    intro i ys hy
    simp only [H', St.frz] at hy
    cases hb : Nat.beq i id with
    | true => rw [hb] at hy; cases hy
    | false =>
      rw [hb] at hy
      simp only [cond_false] at hy
      refine ⟨fun e => ?_, ?_⟩
      · subst e
        simp at hb
      · cases hs : st.heap i with
        | none => rw [hs] at hy; cases hy
        | some xs => rw [hs] at hy; exact ⟨xs, rfl, (Option.some.inj hy).symm⟩
  have hHn : ∀ i, H' i ≠ none → i ≠ id ∧ st.heap i ≠ none := by
    intro i hne
    cases hy : H' i with
    | none => exact absurd hy hne
    | some ys =>
      obtain ⟨h1, xs, h2, _⟩ := hH i ys hy
      exact ⟨h1, by rw [h2]; simp⟩
  let E' : Env := { E with V := fun b => Z b ∨ Wr E.ρ H' b }
  have hwr : ∀ b, Wr E.ρ H' b → Wr E.ρ st.heap b := by
    rintro b ⟨i, ys, h1, h2⟩
    obtain ⟨_, xs, h3, _⟩ := hH i ys h1
    exact ⟨i, xs, h3, h2⟩
  have hVV : ∀ b, E'.V b → E.V b := by
    rintro b (hz | hw)
    · exact (h.V b).2 (.inl hz)
    · exact (h.V b).2 (.inr (hwr b hw))
  have L : Later E E' := ⟨rfl, fun _ _ hh => hh, Nat.le_refl _, fun _ c _ _ hh => ⟨c, hh, rfl⟩, fun _ _ _ => rfl, fun b _ hh => hVV b hh⟩
  have hid : ∀ n, E.ρ id = some n → ¬ E'.V n := by
    rintro n hn (hz | ⟨i, ys, h1, h2⟩)
    · exact h.apart id n (by rw [hi]; simp) hn hz
    · obtain ⟨hne, xs, h3, _⟩ := hH i ys h1
      exact hne (h.inj i id n (by rw [h3]; simp) (by rw [hi]; simp) h2 hn)
  refine ⟨E', ⟨fun t => frzV_ok h hi L rfl rfl hid _ _ (S.env t), S.sz, S.dfr, ?_⟩, rfl, ⟨rfl, Evo.refl _ _, fun b _ hb => hwr b hb, fun _ _ _ hn => hn⟩⟩
  refine ⟨fun i ys hy => ?_, fun i i' n h1 h2 h3 h4 => h.inj i i' n (hHn i h1).2 (hHn i' h2).2 h3 h4, fun b => Iff.rfl, fun i n h1 h2 => h.apart i n (hHn i h1).2 h2, fun i hx => ⟨(h.fresh i hx).1, ?_⟩, h.one, h.old, h.zold, h.tab.later L⟩
  · obtain ⟨_, xs, h3, rfl⟩ := hH i ys hy
    rcases h.blk i xs h3 with ⟨b1, rfl⟩ | ⟨n, b1, c, e, fr, b2, b3, b4, b5⟩
    · exact .inl ⟨b1, rfl⟩
    · refine .inr ⟨n, b1, c, e, fr, b2, b3, by rw [frzL_length]; exact b4, fun j y hj => ?_⟩
      obtain ⟨x, hx, rfl⟩ := frzL_get hj
      obtain ⟨u, h4, h5⟩ := b5 j x hx
      exact ⟨u, h4, frzV_ok h hi L rfl rfl hid _ _ h5⟩
  · cases hy : H' i with
    | none => exact hy
    | some ys =>
      obtain ⟨_, xs, h3, _⟩ := hH i ys hy
      rw [(h.fresh i hx).2] at h3
      cases h3

/-- A block is frozen ahead of a code. -/
theorem Does.freeze {P : Program} {k : Nat} {c : Code} {Q : AX → St → Prop} {st : St} (id : Nat) {zs : List AV} (hi : st.heap id = some zs) (h : Does P k c Q (st.frz id zs)) : Does P k c Q st :=
  Does.weaker (Weaker.freeze id hi) h

end Go.Proofs.Ytaefmhdpfmpijaa.Abs
