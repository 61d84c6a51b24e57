/- Values at the border of a call: which blocks go over with them, and how they are taken up on the other side. -/
import Derived.Test.YtaefmhdpfmpijaaFP
set_option linter.unusedVariables false
set_option linter.unusedSimpArgs false
namespace Go.Proofs.Ytaefmhdpfmpijaa.Abs
open Go

mutual
/-- No handle on a block of the abstract heap in it. -/
def pureV : AV → Bool
  | .sl _ _ _ _ _ | .ptr _ _ | .own _ _ _ | .ref _ => false
  | .agg cs | .tuple cs | .ro _ cs | .rop cs | .fn _ cs => pureL cs
  | _ => true
def pureL : List AV → Bool
  | [] => true
  | c :: cs => pureV c && pureL cs
end

mutual
/-- Nothing that reads foreign memory in it. -/
def noRoV : AV → Bool
  | .ro _ cs => match cs with
    | [] => true
    | _ :: _ => false
  | .rop cs => match cs with
    | [] => true
    | _ :: _ => false
  | .agg cs | .tuple cs | .own _ _ cs | .ref cs | .fn _ cs => noRoL cs
  | _ => true
def noRoL : List AV → Bool
  | [] => true
  | c :: cs => noRoV c && noRoL cs
end

/-- A pure value's reading hangs on no naming of blocks. -/
structure SameMem (E E' : Env) : Prop where
  η : E'.η = E.η
  w : E'.w = E.w

mutual
theorem pureV_rep {E E' : Env} (h : SameMem E E') (hV : ∀ b, E'.V b → E.V b) : ∀ (x : AV) (v : Value), pureV x = true → RepV E x v → RepV E' x v
  | .top, _, _, _ => by simp [RepV]
  | .int k n, v, _, h' => by simpa [RepV] using h'
  | .bool b, v, _, h' => by simpa [RepV] using h'
  | .anyb, v, _, h' => by simpa [RepV] using h'
  | .str s, v, _, h' => by simpa [RepV] using h'
  | .agg cs, v, hp, h' => by
    simp only [RepV] at h' ⊢
    obtain ⟨vs, rfl, hl⟩ := h'
    exact ⟨vs, rfl, pureL_rep h hV cs _ (by simpa [pureV] using hp) hl⟩
  | .tuple cs, v, hp, h' => by
    simp only [RepV] at h' ⊢
    obtain ⟨vs, rfl, hl⟩ := h'
    exact ⟨vs, rfl, pureL_rep h hV cs _ (by simpa [pureV] using hp) hl⟩
  | .nil, v, _, h' => by simpa [RepV] using h'
  | .ro len cs, v, hp, h' => by
    simp only [RepV] at h' ⊢
    obtain ⟨a, cap, rfl, hl, hc⟩ := h'
    refine ⟨a, cap, rfl, hl, hc.imp (fun x => x) ?_⟩
    rintro ⟨b, off, rfl, hb, hm⟩
    exact ⟨b, off, rfl, fun hh => hb (hV b hh), pureM_rep h hV cs b off (by simpa [pureV] using hp) hm⟩
  | .own _ _ _, _, hp, _ => by simp [pureV] at hp
  | .ref _, _, hp, _ => by simp [pureV] at hp
  | .sl _ _ _ _ _, _, hp, _ => by simp [pureV] at hp
  | .ptr _ _, _, hp, _ => by simp [pureV] at hp
  | .rop cs, v, hp, h' => by
    simp only [RepV] at h' ⊢
    obtain ⟨b, off, rfl, hc⟩ := h'
    refine ⟨b, off, rfl, hc.imp (fun x => x) ?_⟩
    rintro ⟨hb, hm⟩
    exact ⟨fun hh => hb (hV b hh), pureM_rep h hV cs b off (by simpa [pureV] using hp) hm⟩
  | .nilp, v, _, h' => by simpa [RepV] using h'
  | .hid i, v, _, h' => by simpa [RepV, h.η] using h'
  | .fn f cs, v, hp, h' => by
    simp only [RepV] at h' ⊢
    obtain ⟨vs, rfl, hl⟩ := h'
    exact ⟨vs, rfl, pureL_rep h hV cs _ (by simpa [pureV] using hp) hl⟩
theorem pureL_rep {E E' : Env} (h : SameMem E E') (hV : ∀ b, E'.V b → E.V b) : ∀ (cs : List AV) (vs : List Value), pureL cs = true → RepL E cs vs → RepL E' cs vs
  | [], vs, _, h' => by simpa [RepL] using h'
  | c :: cs, vs, hp, h' => by
    simp only [pureL, Bool.and_eq_true] at hp
    simp only [RepL] at h' ⊢
    obtain ⟨u, us, rfl, h1, h2⟩ := h'
    exact ⟨u, us, rfl, pureV_rep h hV c u hp.1 h1, pureL_rep h hV cs us hp.2 h2⟩
theorem pureM_rep {E E' : Env} (h : SameMem E E') (hV : ∀ b, E'.V b → E.V b) : ∀ (cs : List AV) (b off : Nat), pureL cs = true → RepM E cs b off → RepM E' cs b off
  | [], _, _, _, _ => by simp [RepM]
  | c :: cs, b, off, hp, h' => by
    simp only [pureL, Bool.and_eq_true] at hp
    simp only [RepM] at h' ⊢
    obtain ⟨⟨u, hu, hr⟩, h2⟩ := h'
    exact ⟨⟨u, by rw [h.w]; exact hu, pureV_rep h hV c u hp.1 hr⟩, pureM_rep h hV cs b (off + 1) hp.2 h2⟩
end

mutual
/-- Where nothing foreign is read, no forbidden block matters. -/
theorem noRoV_rep {E E' : Env} (h : SameMem E E') (hρ : E'.ρ = E.ρ) : ∀ (x : AV) (v : Value), noRoV x = true → RepV E x v → RepV E' x v
  | .top, _, _, _ => by simp [RepV]
  | .int k n, v, _, h' => by simpa [RepV] using h'
  | .bool b, v, _, h' => by simpa [RepV] using h'
  | .anyb, v, _, h' => by simpa [RepV] using h'
  | .str s, v, _, h' => by simpa [RepV] using h'
  | .agg cs, v, hp, h' => by
    simp only [RepV] at h' ⊢
    obtain ⟨vs, rfl, hl⟩ := h'
    exact ⟨vs, rfl, noRoL_rep h hρ cs _ (by simpa [noRoV] using hp) hl⟩
  | .tuple cs, v, hp, h' => by
    simp only [RepV] at h' ⊢
    obtain ⟨vs, rfl, hl⟩ := h'
    exact ⟨vs, rfl, noRoL_rep h hρ cs _ (by simpa [noRoV] using hp) hl⟩
  | .nil, v, _, h' => by simpa [RepV] using h'
  | .ro len [], v, hp, h' => by
    simp only [RepV] at h' ⊢
    obtain ⟨a, cap, rfl, hl, hc⟩ := h'
    exact ⟨a, cap, rfl, hl, .inl trivial⟩
  | .ro len (_ :: _), v, hp, h' => by simp [noRoV] at hp
  | .own _ _ _, _, _, h' => by simp [RepV] at h'
  | .ref _, _, _, h' => by simp [RepV] at h'
  | .sl id off len esz full, v, hp, h' => by
    simp only [RepV] at h' ⊢
    rw [hρ, h.w]; exact h'
  | .ptr id off, v, hp, h' => by
    simp only [RepV] at h' ⊢
    rw [hρ]; exact h'
  | .rop [], v, hp, h' => by
    simp only [RepV] at h' ⊢
    obtain ⟨b, off, rfl, hc⟩ := h'
    exact ⟨b, off, rfl, .inl trivial⟩
  | .rop (_ :: _), v, hp, h' => by simp [noRoV] at hp
  | .nilp, v, _, h' => by simpa [RepV] using h'
  | .hid i, v, _, h' => by simpa [RepV, h.η] using h'
  | .fn f cs, v, hp, h' => by
    simp only [RepV] at h' ⊢
    obtain ⟨vs, rfl, hl⟩ := h'
    exact ⟨vs, rfl, noRoL_rep h hρ cs _ (by simpa [noRoV] using hp) hl⟩
theorem noRoL_rep {E E' : Env} (h : SameMem E E') (hρ : E'.ρ = E.ρ) : ∀ (cs : List AV) (vs : List Value), noRoL cs = true → RepL E cs vs → RepL E' cs vs
  | [], vs, _, h' => by simpa [RepL] using h'
  | c :: cs, vs, hp, h' => by
    simp only [noRoL, Bool.and_eq_true] at hp
    simp only [RepL] at h' ⊢
    obtain ⟨u, us, rfl, h1, h2⟩ := h'
    exact ⟨u, us, rfl, noRoV_rep h hρ c u hp.1 h1, noRoL_rep h hρ cs us hp.2 h2⟩
end

/-- A block given over whole. -/
def OwnBlk (E : Env) (n : Nat) (cs : List AV) (vs : List Nat) : Prop := True

mutual
/-- What a value at the border is; X: the blocks that go over with it, in order. -/
def RepB (E : Env) : AV → Value → List Nat → Prop
  | .own len esz cs, v, X => pureL cs = true ∧ ∃ a cap, v = .slice a len cap ∧ len ≤ cap ∧ ((cap = 0 ∧ cs = [] ∧ X.length ≤ 1) ∨
      ∃ n c e fr, a = some ⟨n, 0, none⟩ ∧ X = [n] ∧ E.w.heap[n]? = some (.cells c e fr) ∧ cap * esz ≤ c.size ∧ (∀ j, j < c.size → ¬ (fr.1 ≤ j ∧ j < fr.2)) ∧ cs.length ≤ c.size ∧
        RepL E cs (c.toList.take cs.length))
  | .ref cs, v, X => ∃ n Y c e fr, v = .pointer (some ⟨n, 0, none⟩) ∧ X = Y ++ [n] ∧ E.w.heap[n]? = some (.cells c e fr) ∧ (∀ j, j < c.size → ¬ (fr.1 ≤ j ∧ j < fr.2)) ∧ cs.length ≤ c.size ∧
      RepBL E cs (c.toList.take cs.length) Y
  | .agg cs, v, X => ∃ vs : Array Value, v = .agg vs ∧ RepBL E cs vs.toList X
  | .tuple cs, v, X => ∃ vs : Array Value, v = .tuple vs ∧ RepBL E cs vs.toList X
  | x, v, X => pureV x = true ∧ RepV E x v ∧ X = []
def RepBL (E : Env) : List AV → List Value → List Nat → Prop
  | [], vs, X => vs = [] ∧ X = []
  | c :: cs, vs, X => ∃ u us Y Y', vs = u :: us ∧ X = Y ++ Y' ∧ RepB E c u Y ∧ RepBL E cs us Y'
end

mutual
/-- Taken up: blocks get names. -/
def matV : AV → Heap × Nat → AV × (Heap × Nat)
  | .own len esz cs, (H, nx) => (.sl nx 0 len esz false, (setH H nx (some cs), nx + 1))
  | .ref cs, s => match matL cs s with
    | (cs', (H, nx)) => (.ptr nx 0, (setH H nx (some cs'), nx + 1))
  | .agg cs, s => match matL cs s with
    | (cs', s') => (.agg cs', s')
  | .tuple cs, s => match matL cs s with
    | (cs', s') => (.tuple cs', s')
  | x, s => (x, s)
def matL : List AV → Heap × Nat → List AV × (Heap × Nat)
  | [], s => ([], s)
  | c :: cs, s => match matV c s with
    | (c', s') => match matL cs s' with
      | (cs', s'') => (c' :: cs', s'')
end

/-- A block that was foreign becomes one's own. -/
theorem HeapRep.adopt {Z : Nat → Prop} {E : Env} {H : Heap} {nx n : Nat} {cs : List AV} (h : HeapRep Z E H nx) (hn : Z n) (hb : BlkOk E n cs) :
    ∃ E', E'.w = E.w ∧ E'.η = E.η ∧ (∀ b, E'.V b ↔ E.V b) ∧ (∀ i, i ≠ nx → E'.ρ i = E.ρ i) ∧ E'.ρ nx = some n ∧ HeapRep (fun b => Z b ∧ b ≠ n) E' (setH H nx (some cs)) (nx + 1) := by
  have hnx := h.fresh nx (Nat.le_refl _)
  let E' : Env := { E with ρ := fun i => cond (Nat.beq i nx) (some n) (E.ρ i) }
  have r1 : E'.ρ nx = some n := by simp [E']
  have r2 : ∀ i, i ≠ nx → E'.ρ i = E.ρ i := fun i hi => by
    have : Nat.beq i nx = false := by
      cases hh : Nat.beq i nx
      · rfl
      · exact absurd (Nat.eq_of_beq_eq_true hh) hi
    simp [E', this]
  have L : Later E E' := by
    refine ⟨rfl, fun i m hm => ?_, Nat.le_refl _, fun _ c _ _ hh => ⟨c, hh, rfl⟩, fun _ _ _ => rfl, fun _ _ hh => hh⟩
    have : i ≠ nx := fun e => by rw [e, hnx.1] at hm; cases hm
    rw [r2 i this]; exact hm
  have hwr : ∀ b, Wr E'.ρ (setH H nx (some cs)) b ↔ Wr E.ρ H b ∨ b = n := by
    intro b
    constructor
    · rintro ⟨i, es, h1, h2⟩
      by_cases hi : i = nx
      · subst hi; rw [r1] at h2; injection h2 with h2; exact .inr h2.symm
      · rw [setH_ne _ _ hi] at h1; rw [r2 i hi] at h2; exact .inl ⟨i, es, h1, h2⟩
    · rintro (⟨i, es, h1, h2⟩ | rfl)
      · have hi : i ≠ nx := fun e => by rw [e, hnx.2] at h1; cases h1
        exact ⟨i, es, by rw [setH_ne _ _ hi]; exact h1, by rw [r2 i hi]; exact h2⟩
      · exact ⟨nx, cs, setH_same _ _ _, r1⟩
  refine ⟨E', rfl, rfl, fun b => Iff.rfl, r2, r1, ⟨fun i es hh => ?_, fun i i' m h1 h2 h3 h4 => ?_, fun b => ?_, fun i m h1 h2 hz => ?_, fun i hh => ?_, h.one, fun i m hm => ?_, fun b hb => h.zold b hb.1, h.tab.later L⟩⟩
  · by_cases hi : i = nx
    · subst hi
      rw [setH_same] at hh
      injection hh with hh
      subst hh
      refine .inr ⟨n, r1, ?_⟩
      obtain ⟨c, e, fr, k1, k2, k3, k4⟩ := hb
      exact ⟨c, e, fr, k1, k2, k3, fun j x hx => let ⟨u, hu, hr⟩ := k4 j x hx; ⟨u, hu, RepV.later L x u hr⟩⟩
    · rw [setH_ne _ _ hi] at hh
      rw [r2 i hi]
      rcases h.blk i es hh with h0 | ⟨m, hm, hb'⟩
      · exact .inl h0
      · exact .inr ⟨m, hm, h.blk_later L hm hb' rfl⟩
  · by_cases hi : i = nx <;> by_cases hi' : i' = nx
    · rw [hi, hi']
    · subst hi
      rw [r1] at h3; injection h3 with h3; subst h3
      rw [setH_ne _ _ hi'] at h2
      rw [r2 i' hi'] at h4
      exact absurd hn (h.apart i' n h2 h4)
    · subst hi'
      rw [r1] at h4; injection h4 with h4; subst h4
      rw [setH_ne _ _ hi] at h1
      rw [r2 i hi] at h3
      exact absurd hn (h.apart i n h1 h3)
    · rw [setH_ne _ _ hi] at h1
      rw [setH_ne _ _ hi'] at h2
      rw [r2 i hi] at h3
      rw [r2 i' hi'] at h4
      exact h.inj i i' m h1 h2 h3 h4
  · show E.V b ↔ _
    rw [hwr, h.V b]
    constructor
    · rintro (hz | hw)
      · by_cases hbn : b = n
        · exact .inr (.inr hbn)
        · exact .inl ⟨hz, hbn⟩
      · exact .inr (.inl hw)
    · rintro (⟨hz, _⟩ | hw | rfl)
      · exact .inl hz
      · exact .inr hw
      · exact .inl hn
  · by_cases hi : i = nx
    · subst hi; rw [r1] at h2; injection h2 with h2; exact hz.2 h2.symm
    · rw [setH_ne _ _ hi] at h1; rw [r2 i hi] at h2; exact h.apart i m h1 h2 hz.1
  · have hi : i ≠ nx := by omega
    rw [setH_ne _ _ hi, r2 i hi]; exact h.fresh i (by omega)
  · by_cases hi : i = nx
    · subst hi; rw [r1] at hm; injection hm with hm; subst hm; exact h.zold _ hn
    · rw [r2 i hi] at hm; exact h.old i m hm

/-- A block of one's own is given over. -/
theorem HeapRep.release {Z : Nat → Prop} {E : Env} {H : Heap} {nx id n : Nat} (h : HeapRep Z E H nx) (hi : H id ≠ none) (hn : E.ρ id = some n) :
    HeapRep (fun b => Z b ∨ b = n) E (setH H id none) nx := by
  have hne : ∀ i, setH H id none i ≠ none → H i ≠ none ∧ i ≠ id := fun i hi => by
    by_cases he : i = id
    · subst he; rw [setH_same] at hi; exact absurd rfl hi
    · rw [setH_ne _ _ he] at hi; exact ⟨hi, he⟩
  refine ⟨fun i es hh => ?_, fun i i' m h1 h2 h3 h4 => h.inj i i' m (hne i h1).1 (hne i' h2).1 h3 h4, fun b => ?_, fun i m h1 h2 hz => ?_, fun i hh => ?_, h.one, h.old, fun b hb => ?_, h.tab⟩
  · by_cases he : i = id
    · subst he; rw [setH_same] at hh; cases hh
    · rw [setH_ne _ _ he] at hh; exact h.blk i es hh
  · rw [h.V b]
    constructor
    · rintro (hz | ⟨i, es, h1, h2⟩)
      · exact .inl (.inl hz)
      · by_cases he : i = id
        · subst he; rw [hn] at h2; injection h2 with h2; exact .inl (.inr h2.symm)
        · exact .inr ⟨i, es, by rw [setH_ne _ _ he]; exact h1, h2⟩
    · rintro ((hz | rfl) | ⟨i, es, h1, h2⟩)
      · exact .inl hz
      · cases hh : H id with
        | none => exact absurd hh hi
        | some es => exact .inr ⟨id, es, hh, hn⟩
      · by_cases he : i = id
        · subst he; rw [setH_same] at h1; cases h1
        · rw [setH_ne _ _ he] at h1; exact .inr ⟨i, es, h1, h2⟩
  · obtain ⟨k1, k2⟩ := hne i h1
    rcases hz with hz | rfl
    · exact h.apart i m k1 h2 hz
    · exact k2 (h.inj i id m k1 hi h2 hn)
  · by_cases he : i = id
    · subst he; exact ⟨(h.fresh i hh).1, setH_same _ _ _⟩
    · rw [setH_ne _ _ he]; exact h.fresh i hh
  · rcases hb with hz | rfl
    · exact h.zold b hz
    · exact h.old id b hn

/-- An empty one that has no block is given up. -/
theorem HeapRep.release0 {Z : Nat → Prop} {E : Env} {H : Heap} {nx id : Nat} (h : HeapRep Z E H nx) (hn : E.ρ id = none) : HeapRep Z E (setH H id none) nx := by
  have hne : ∀ i, setH H id none i ≠ none → H i ≠ none ∧ i ≠ id := fun i hi => by
    by_cases he : i = id
    · subst he; rw [setH_same] at hi; exact absurd rfl hi
    · rw [setH_ne _ _ he] at hi; exact ⟨hi, he⟩
  refine ⟨fun i es hh => ?_, fun i i' m h1 h2 h3 h4 => h.inj i i' m (hne i h1).1 (hne i' h2).1 h3 h4, fun b => ?_, fun i m h1 h2 hz => h.apart i m (hne i h1).1 h2 hz, fun i hh => ?_, h.one, h.old, h.zold, h.tab⟩
  · by_cases he : i = id
    · subst he; rw [setH_same] at hh; cases hh
    · rw [setH_ne _ _ he] at hh; exact h.blk i es hh
  · rw [h.V b]
    constructor
    · rintro (hz | ⟨i, es, h1, h2⟩)
      · exact .inl hz
      · have he : i ≠ id := fun e => by rw [e, hn] at h2; cases h2
        exact .inr ⟨i, es, by rw [setH_ne _ _ he]; exact h1, h2⟩
    · rintro (hz | ⟨i, es, h1, h2⟩)
      · exact .inl hz
      · have he : i ≠ id := fun e => by rw [e, hn] at h2; cases h2
        rw [setH_ne _ _ he] at h1
        exact .inr ⟨i, es, h1, h2⟩
  · by_cases he : i = id
    · subst he; exact ⟨(h.fresh i hh).1, setH_same _ _ _⟩
    · rw [setH_ne _ _ he]; exact h.fresh i hh

end Go.Proofs.Ytaefmhdpfmpijaa.Abs
