/- What a call does, over whatever memory: the contract at the border, and how a caller uses it. -/
import Derived.Test.YtaefmhdpfmpijaaFS
set_option linter.unusedVariables false
set_option linter.unusedSimpArgs false
namespace Go.Proofs.Ytaefmhdpfmpijaa.Abs
open Go

def isRef : AV → Bool
  | .ref _ => true
  | _ => false

/-- The values of those arguments that are pointers to what goes over. -/
def refVals : List AV → List Value → List Value
  | y :: ys, v :: vs => cond (isRef y) (v :: refVals ys vs) (refVals ys vs)
  | _, _ => []

def noHeap : Heap := fun _ => none

/-- The function has a body to be entered. -/
def Enters (P : Program) (f : FuncId) : Prop := ∀ (args : Array Value) (w : World), (callFunc f args).run P w = .ok (.enter f args) w

/-- Called with such arguments the function returns r; what it was given by pointer is then `outs`. -/
def ACall (P : Program) (f : FuncId) (args : List AV) (r : AV) (outs : List AV) : Prop :=
  Enters P f ∧ ∀ (Z : Nat → Prop) (E : Env) (vals : List Value) (X : List Nat), HeapRep (fun b => Z b ∨ b ∈ X) E noHeap 0 → RepBL E args vals X → X.Nodup → (∀ b ∈ X, ¬ Z b) →
    Calls P f vals.toArray E.w fun e w' => ∃ v E' Xr, e = .returned v ∧ E'.w = w' ∧ E'.η = E.η ∧ Evo (· ∈ X) E.w w' ∧ (∀ b, E'.V b ↔ Z b ∨ b ∈ Xr) ∧
      RepBL E' (outs ++ [r]) (refVals args vals ++ [v]) Xr ∧ Xr.Nodup ∧ ∀ b ∈ Xr, ¬ Z b ∧ (b < E.w.heap.size → b ∈ X) ∧ b < w'.heap.size

/-- How an argument is handed on: read, lent for reading, given over, given by pointer. -/
inductive Mode where
  | rd | bw | mv (esz : Nat) | rf (ms : List Mode)

/-- What an argument is at the border. -/
inductive Passed (H : Heap) : AV → AV → List Nat → List Nat → Prop where
  | dem {x y : AV} {ids : List Nat} (h : Dem H y x ids) : Passed H x y ids []
  | bor {id off len esz : Nat} {full : Bool} {cs ds : List AV} (h : H id = some cs) (hd : ds = (cs.drop off).take (len * esz)) (hp : pureL ds = true) : Passed H (.sl id off len esz full) (.ro len ds) [] [id]

inductive PassedL (H : Heap) : List AV → List AV → List Nat → List Nat → Prop where
  | nil : PassedL H [] [] [] []
  | cons {x y : AV} {xs ys : List AV} {i is b bs : List Nat} (h : Passed H x y i b) (t : PassedL H xs ys is bs) : PassedL H (x :: xs) (y :: ys) (i ++ is) (b ++ bs)

theorem PassedL_mem {H : Heap} {xs ys : List AV} {ids bs : List Nat} (h : PassedL H xs ys ids bs) : ∀ i ∈ ids, H i ≠ none := by
  induction h with
  | nil => simp
  | cons h t ih =>
    intro i hi
    rcases List.mem_append.1 hi with h' | h'
    · cases h with
      | dem hd => exact Dem_mem _ _ _ hd i h'
      | bor => simp at h'
    · exact ih i h'

theorem pass_ok {Z : Nat → Prop} {E E' : Env} {H : Heap} {nx : Nat} (h : HeapRep Z E H nx) (hm : SameMem E E') (hV : ∀ b, E'.V b → E.V b) {x y : AV} {v : Value} {ids bs : List Nat}
    (hp : Passed H x y ids bs) (hb : ∀ id ∈ bs, ∀ n, E.ρ id = some n → ¬ E'.V n) (hr : RepV E x v) : RepB E' y v (ids.filterMap E.ρ) := by
  cases hp with
  | dem hd => exact RepB.mono hm hV _ _ _ (Dem_ok h _ _ _ _ hr hd)
  | bor hc hd hpu =>
    rename_i id off len esz full cs ds
    subst hd
    simp only [RepB]
    refine ⟨by simpa [pureV] using hpu, ?_, rfl⟩
    simp only [RepV] at hr ⊢
    obtain ⟨a, cap, rfl, hl, _, hcc⟩ := hr
    refine ⟨a, cap, rfl, hl, ?_⟩
    rcases hcc with rfl | ⟨n, c, e, fr, hn, rfl, hh, hs⟩
    · left
      have : len = 0 := by omega
      subst this
      simp
    · right
      refine ⟨n, off, rfl, hb id (by simp) n hn, ?_⟩
      refine pureM_rep (E := E) hm hV _ _ _ hpu (repM_of_get _ _ _ fun j x hx => ?_)
      refine blk_cells h hc hn (off + j) x ?_
      by_cases hj : j < len * esz
      · rwa [List.getElem?_take_of_lt hj, List.getElem?_drop] at hx
      · rw [List.getElem?_eq_none (by simp; omega)] at hx; cases hx

theorem passL_ok {Z : Nat → Prop} {E E' : Env} {H : Heap} {nx : Nat} (h : HeapRep Z E H nx) (hm : SameMem E E') (hV : ∀ b, E'.V b → E.V b) {xs ys : List AV} {ids bs : List Nat}
    (hp : PassedL H xs ys ids bs) (hb : ∀ id ∈ bs, ∀ n, E.ρ id = some n → ¬ E'.V n) : ∀ {vs : List Value}, RepL E xs vs → RepBL E' ys vs (ids.filterMap E.ρ) := by
  induction hp with
  | nil => intro vs hr; simp only [RepL] at hr; simp [RepBL, hr]
  | cons h1 t ih =>
    intro vs hr
    simp only [RepL] at hr
    obtain ⟨u, us, rfl, hu, hr⟩ := hr
    simp only [RepBL]
    exact ⟨u, us, _, _, rfl, List.filterMap_append, pass_ok h hm hV h1 (fun id hi => hb id (by simp [hi])) hu, ih (fun id hi => hb id (by simp [hi])) hr⟩

/-- The pointers among the arguments, by the names of their blocks. -/
def refIds : List AV → List AV → List Nat
  | .ref _ :: ys, .ptr id _ :: xs => id :: refIds ys xs
  | _ :: ys, _ :: xs => refIds ys xs
  | _, _ => []

def takeRefs : Heap × Nat → List Nat → List AV → Option (Heap × Nat)
  | s, [], [] => some s
  | s, i :: is, .ref cs :: os => match matL cs s with
    | (cs', (H', nx')) => takeRefs (setH H' i (some cs'), nx') is os
  | _, _, _ => none

theorem HeapRep.readopt {Z : Nat → Prop} {E : Env} {H : Heap} {nx id n : Nat} {cs : List AV} (h : HeapRep Z E H nx) (hi : H id = none) (hn : E.ρ id = some n) (hz : Z n) (hb : BlkOk E n cs) :
    HeapRep (fun b => Z b ∧ b ≠ n) E (setH H id (some cs)) nx := by
  have hwr : ∀ b, Wr E.ρ (setH H id (some cs)) b ↔ Wr E.ρ H b ∨ b = n := by
    intro b
    constructor
    · rintro ⟨i, es, h1, h2⟩
      by_cases he : i = id
      · subst he; rw [hn] at h2; injection h2 with h2; exact .inr h2.symm
      · rw [setH_ne _ _ he] at h1; exact .inl ⟨i, es, h1, h2⟩
    · rintro (⟨i, es, h1, h2⟩ | rfl)
      · have he : i ≠ id := fun e => by rw [e, hi] at h1; cases h1
        exact ⟨i, es, by rw [setH_ne _ _ he]; exact h1, h2⟩
      · exact ⟨id, cs, setH_same _ _ _, hn⟩
  refine ⟨fun i es hh => ?_, fun i i' m h1 h2 h3 h4 => ?_, fun b => ?_, fun i m h1 h2 hzz => ?_, fun i hh => ?_, h.one, h.old, fun b hb => h.zold b hb.1, h.tab⟩
  · by_cases he : i = id
    · subst he; rw [setH_same] at hh; injection hh with hh; subst hh; exact .inr ⟨n, hn, hb⟩
    · rw [setH_ne _ _ he] at hh; exact h.blk i es hh
  · by_cases he : i = id <;> by_cases he' : i' = id
    · rw [he, he']
    · subst he
      rw [hn] at h3; injection h3 with h3; subst h3
      rw [setH_ne _ _ he'] at h2
      exact absurd hz (h.apart i' n h2 h4)
    · subst he'
      rw [hn] at h4; injection h4 with h4; subst h4
      rw [setH_ne _ _ he] at h1
      exact absurd hz (h.apart i n h1 h3)
    · rw [setH_ne _ _ he] at h1
      rw [setH_ne _ _ he'] at h2
      exact h.inj i i' m h1 h2 h3 h4
  · rw [hwr, h.V b]
    constructor
    · rintro (hzz | hw)
      · by_cases hbn : b = n
        · exact .inr (.inr hbn)
        · exact .inl ⟨hzz, hbn⟩
      · exact .inr (.inl hw)
    · rintro (⟨hzz, _⟩ | hw | rfl)
      · exact .inl hzz
      · exact .inr hw
      · exact .inl hz
  · by_cases he : i = id
    · subst he; rw [hn] at h2; injection h2 with h2; exact hzz.2 h2.symm
    · rw [setH_ne _ _ he] at h1; exact h.apart i m h1 h2 hzz.1
  · have he : i ≠ id := fun e => by
      rw [e] at hh
      rw [(h.fresh id hh).1] at hn; cases hn
    rw [setH_ne _ _ he]; exact h.fresh i hh

/-- Memory has moved on, but for what is foreign now. -/
theorem HeapRep.evolve {Z1 Z2 : Nat → Prop} {E : Env} {H : Heap} {nx : Nat} {W : Nat → Prop} {w' : World} (h : HeapRep Z1 E H nx) (ev : Evo W E.w w') (hW : ∀ b, W b → Z1 b)
    (h2 : ∀ b, Z2 b → b < w'.heap.size) (h3 : ∀ b, Z2 b → b < E.w.heap.size → Z1 b) :
    ∃ E', E'.w = w' ∧ E'.η = E.η ∧ E'.ρ = E.ρ ∧ Later E E' ∧ HeapRep Z2 E' H nx := by
  let E' : Env := { E with w := w', V := fun b => Z2 b ∨ Wr E.ρ H b }
  have L : Later E E' := Later.of_evo (W := W) ev rfl (fun _ _ h => h) (fun b hb => (h.V b).2 (.inl (hW b hb))) (fun b hb hv => (h.V b).2 (hv.imp (fun hz => h3 b hz hb) (fun x => x)))
  refine ⟨E', rfl, rfl, rfl, L, ⟨fun i es hh => ?_, h.inj, fun b => Iff.rfl, fun i n k1 k2 hz => h.apart i n k1 k2 (h3 n hz (h.old i n k2)), h.fresh, h.one, fun i n hn => Nat.lt_of_lt_of_le (h.old i n hn) ev.size, h2, h.tab.later L⟩⟩
  rcases h.blk i es hh with h0 | ⟨m, hm, hb⟩
  · exact .inl h0
  · refine .inr ⟨m, hm, h.blk_later L hm hb (ev.same m (h.old i m hm) fun hw => ?_)⟩
    exact h.apart i m (by rw [hh]; simp) hm (hW m hw)

/-- The environment without forbidden blocks. -/
def Env.free (E : Env) : Env := { E with V := fun _ => False }

theorem pure_noRo {E E' : Env} (h : SameMem E E') {x : AV} {v : Value} (hp : pureV x = true) (hn : noRoV x = true) (hr : RepV E x v) : RepV E' x v := by
  have h1 : RepV E'.free x v := pureV_rep (E := E) (E' := E'.free) ⟨h.η, h.w⟩ (fun b (hf : False) => hf.elim) x v hp hr
  exact noRoV_rep (E := E'.free) (E' := E') ⟨rfl, rfl⟩ rfl x v hn h1

theorem pure_noRoL {E E' : Env} (h : SameMem E E') {cs : List AV} {vs : List Value} (hp : pureL cs = true) (hn : noRoL cs = true) (hr : RepL E cs vs) : RepL E' cs vs := by
  have h1 : RepL E'.free cs vs := pureL_rep (E := E) (E' := E'.free) ⟨h.η, h.w⟩ (fun b (hf : False) => hf.elim) cs vs hp hr
  exact noRoL_rep (E := E'.free) (E' := E') ⟨rfl, rfl⟩ rfl cs vs hn h1

mutual
/-- Where nothing foreign is read the border's value hangs on no forbidden block. -/
theorem RepB.noRo {E E' : Env} (h : SameMem E E') : ∀ (y : AV) (v : Value) (X : List Nat), noRoV y = true → RepB E y v X → RepB E' y v X
  | .own len esz cs, v, X, hn, hb => by
    simp only [RepB] at hb ⊢
    obtain ⟨hp, a, cap, rfl, hl, hc⟩ := hb
    refine ⟨hp, a, cap, rfl, hl, hc.imp (fun x => x) ?_⟩
    rintro ⟨n, c, e, fr, rfl, rfl, k1, k2, k3, k4, k5⟩
    exact ⟨n, c, e, fr, rfl, rfl, by rw [h.w]; exact k1, k2, k3, k4, pure_noRoL h hp (by simpa [noRoV] using hn) k5⟩
  | .ref cs, v, X, hn, hb => by
    simp only [RepB] at hb ⊢
    obtain ⟨n, Y, c, e, fr, rfl, rfl, k1, k2, k3, k4⟩ := hb
    exact ⟨n, Y, c, e, fr, rfl, rfl, by rw [h.w]; exact k1, k2, k3, RepBL.noRo h cs _ Y (by simpa [noRoV] using hn) k4⟩
  | .agg cs, v, X, hn, hb => by
    simp only [RepB] at hb ⊢
    obtain ⟨vs, rfl, hl⟩ := hb
    exact ⟨vs, rfl, RepBL.noRo h cs _ X (by simpa [noRoV] using hn) hl⟩
  | .tuple cs, v, X, hn, hb => by
    simp only [RepB] at hb ⊢
    obtain ⟨vs, rfl, hl⟩ := hb
    exact ⟨vs, rfl, RepBL.noRo h cs _ X (by simpa [noRoV] using hn) hl⟩
  | .top, v, X, hn, hb => by simp only [RepB] at hb ⊢; exact ⟨hb.1, pure_noRo h hb.1 hn hb.2.1, hb.2.2⟩
  | .int k n, v, X, hn, hb => by simp only [RepB] at hb ⊢; exact ⟨hb.1, pure_noRo h hb.1 hn hb.2.1, hb.2.2⟩
  | .bool b, v, X, hn, hb => by simp only [RepB] at hb ⊢; exact ⟨hb.1, pure_noRo h hb.1 hn hb.2.1, hb.2.2⟩
  | .anyb, v, X, hn, hb => by simp only [RepB] at hb ⊢; exact ⟨hb.1, pure_noRo h hb.1 hn hb.2.1, hb.2.2⟩
  | .str s, v, X, hn, hb => by simp only [RepB] at hb ⊢; exact ⟨hb.1, pure_noRo h hb.1 hn hb.2.1, hb.2.2⟩
  | .nil, v, X, hn, hb => by simp only [RepB] at hb ⊢; exact ⟨hb.1, pure_noRo h hb.1 hn hb.2.1, hb.2.2⟩
  | .ro len cs, v, X, hn, hb => by simp only [RepB] at hb ⊢; exact ⟨hb.1, pure_noRo h hb.1 hn hb.2.1, hb.2.2⟩
  | .sl _ _ _ _ _, v, X, hn, hb => by simp only [RepB] at hb ⊢; exact ⟨hb.1, pure_noRo h hb.1 hn hb.2.1, hb.2.2⟩
  | .ptr _ _, v, X, hn, hb => by simp only [RepB] at hb ⊢; exact ⟨hb.1, pure_noRo h hb.1 hn hb.2.1, hb.2.2⟩
  | .rop cs, v, X, hn, hb => by simp only [RepB] at hb ⊢; exact ⟨hb.1, pure_noRo h hb.1 hn hb.2.1, hb.2.2⟩
  | .nilp, v, X, hn, hb => by simp only [RepB] at hb ⊢; exact ⟨hb.1, pure_noRo h hb.1 hn hb.2.1, hb.2.2⟩
  | .hid i, v, X, hn, hb => by simp only [RepB] at hb ⊢; exact ⟨hb.1, pure_noRo h hb.1 hn hb.2.1, hb.2.2⟩
  | .fn f cs, v, X, hn, hb => by simp only [RepB] at hb ⊢; exact ⟨hb.1, pure_noRo h hb.1 hn hb.2.1, hb.2.2⟩
theorem RepBL.noRo {E E' : Env} (h : SameMem E E') : ∀ (cs : List AV) (vs : List Value) (X : List Nat), noRoL cs = true → RepBL E cs vs X → RepBL E' cs vs X
  | [], vs, X, _, hb => by simpa [RepBL] using hb
  | c :: cs, vs, X, hn, hb => by
    simp only [noRoL, Bool.and_eq_true] at hn
    simp only [RepBL] at hb ⊢
    obtain ⟨u, us, Y, Y', rfl, rfl, h1, h2⟩ := hb
    exact ⟨u, us, Y, Y', rfl, rfl, RepB.noRo h c u Y hn.1 h1, RepBL.noRo h cs us Y' hn.2 h2⟩
end

end Go.Proofs.Ytaefmhdpfmpijaa.Abs
