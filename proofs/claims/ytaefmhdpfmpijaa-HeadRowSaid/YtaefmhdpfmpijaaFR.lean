/- What comes over a border is taken up. -/
import Derived.Test.YtaefmhdpfmpijaaFQ
set_option linter.unusedVariables false
set_option linter.unusedSimpArgs false
namespace Go.Proofs.Ytaefmhdpfmpijaa.Abs
open Go

theorem SameMem.later {E E' : Env} (h : SameMem E E') (hρ : ∀ id n, E.ρ id = some n → E'.ρ id = some n) (hV : ∀ b, E'.V b → E.V b) : Later E E' :=
  ⟨h.η, hρ, by rw [h.w]; exact Nat.le_refl _, fun b c e fr hh => ⟨c, by rw [h.w]; exact hh, rfl⟩, fun b _ _ => by rw [h.w], fun b _ hb => hV b hb⟩

mutual
theorem RepB.mono {E E' : Env} (h : SameMem E E') (hV : ∀ b, E'.V b → E.V b) : ∀ (y : AV) (v : Value) (X : List Nat), RepB E y v X → RepB E' y v X
  | .own len esz cs, v, X, hb => by
    simp only [RepB] at hb ⊢
    obtain ⟨hp, a, cap, rfl, hl, hc⟩ := hb
    refine ⟨hp, a, cap, rfl, hl, hc.imp (fun x => x) ?_⟩
    rintro ⟨n, c, e, fr, rfl, rfl, k1, k2, k3, k4, k5⟩
    exact ⟨n, c, e, fr, rfl, rfl, by rw [h.w]; exact k1, k2, k3, k4, pureL_rep h hV _ _ hp k5⟩
  | .ref cs, v, X, hb => by
    simp only [RepB] at hb ⊢
    obtain ⟨n, Y, c, e, fr, rfl, rfl, k1, k2, k3, k4⟩ := hb
    exact ⟨n, Y, c, e, fr, rfl, rfl, by rw [h.w]; exact k1, k2, k3, RepBL.mono h hV cs _ Y k4⟩
  | .agg cs, v, X, hb => by
    simp only [RepB] at hb ⊢
    obtain ⟨vs, rfl, hl⟩ := hb
    exact ⟨vs, rfl, RepBL.mono h hV cs _ X hl⟩
  | .tuple cs, v, X, hb => by
    simp only [RepB] at hb ⊢
    obtain ⟨vs, rfl, hl⟩ := hb
    exact ⟨vs, rfl, RepBL.mono h hV cs _ X hl⟩
  | .top, v, X, hb => by simp only [RepB] at hb ⊢; exact ⟨hb.1, pureV_rep h hV _ v hb.1 hb.2.1, hb.2.2⟩
  | .int k n, v, X, hb => by simp only [RepB] at hb ⊢; exact ⟨hb.1, pureV_rep h hV _ v hb.1 hb.2.1, hb.2.2⟩
  | .bool b, v, X, hb => by simp only [RepB] at hb ⊢; exact ⟨hb.1, pureV_rep h hV _ v hb.1 hb.2.1, hb.2.2⟩
  | .anyb, v, X, hb => by simp only [RepB] at hb ⊢; exact ⟨hb.1, pureV_rep h hV _ v hb.1 hb.2.1, hb.2.2⟩
  | .str s, v, X, hb => by simp only [RepB] at hb ⊢; exact ⟨hb.1, pureV_rep h hV _ v hb.1 hb.2.1, hb.2.2⟩
  | .nil, v, X, hb => by simp only [RepB] at hb ⊢; exact ⟨hb.1, pureV_rep h hV _ v hb.1 hb.2.1, hb.2.2⟩
  | .ro len cs, v, X, hb => by simp only [RepB] at hb ⊢; exact ⟨hb.1, pureV_rep h hV _ v hb.1 hb.2.1, hb.2.2⟩
  | .sl _ _ _ _ _, v, X, hb => by simp only [RepB] at hb ⊢; exact ⟨hb.1, pureV_rep h hV _ v hb.1 hb.2.1, hb.2.2⟩
  | .ptr _ _, v, X, hb => by simp only [RepB] at hb ⊢; exact ⟨hb.1, pureV_rep h hV _ v hb.1 hb.2.1, hb.2.2⟩
  | .rop cs, v, X, hb => by simp only [RepB] at hb ⊢; exact ⟨hb.1, pureV_rep h hV _ v hb.1 hb.2.1, hb.2.2⟩
  | .nilp, v, X, hb => by simp only [RepB] at hb ⊢; exact ⟨hb.1, pureV_rep h hV _ v hb.1 hb.2.1, hb.2.2⟩
  | .hid i, v, X, hb => by simp only [RepB] at hb ⊢; exact ⟨hb.1, pureV_rep h hV _ v hb.1 hb.2.1, hb.2.2⟩
  | .fn f cs, v, X, hb => by simp only [RepB] at hb ⊢; exact ⟨hb.1, pureV_rep h hV _ v hb.1 hb.2.1, hb.2.2⟩
theorem RepBL.mono {E E' : Env} (h : SameMem E E') (hV : ∀ b, E'.V b → E.V b) : ∀ (cs : List AV) (vs : List Value) (X : List Nat), RepBL E cs vs X → RepBL E' cs vs X
  | [], vs, X, hb => by simpa [RepBL] using hb
  | c :: cs, vs, X, hb => by
    simp only [RepBL] at hb ⊢
    obtain ⟨u, us, Y, Y', rfl, rfl, h1, h2⟩ := hb
    exact ⟨u, us, Y, Y', rfl, rfl, RepB.mono h hV c u Y h1, RepBL.mono h hV cs us Y' h2⟩
end

/-- What is left when the blocks of X are taken up. -/
structure Taken (Z : Nat → Prop) (E : Env) (H : Heap) (nx : Nat) (X : List Nat) (E' : Env) (H' : Heap) (nx' : Nat) : Prop where
  mem : SameMem E E'
  V : ∀ b, E'.V b → E.V b
  ρ : ∀ i, i < nx → E'.ρ i = E.ρ i
  H : ∀ i, i < nx → H' i = H i
  nx : nx ≤ nx'
  heap : HeapRep (fun b => Z b ∧ b ∉ X) E' H' nx'

theorem Taken.later {Z : Nat → Prop} {E : Env} {H : Heap} {nx : Nat} {X : List Nat} {E' : Env} {H' : Heap} {nx' : Nat} (h : HeapRep Z E H nx) (t : Taken Z E H nx X E' H' nx') : Later E E' :=
  t.mem.later (fun id n hn => by
    rcases Nat.lt_or_ge id nx with hi | hi
    · rw [t.ρ id hi]; exact hn
    · rw [(h.fresh id hi).1] at hn; cases hn) t.V

theorem HeapRep.congrZ {Z Z' : Nat → Prop} {E : Env} {H : Heap} {nx : Nat} (h : HeapRep Z E H nx) (hz : ∀ b, Z b ↔ Z' b) : HeapRep Z' E H nx := by
  have : Z = Z' := funext fun b => propext (hz b)
  subst this
  exact h

/-- Fewer foreign blocks are forbidden. -/
theorem HeapRep.weakZ {Z Z' : Nat → Prop} {E : Env} {H : Heap} {nx : Nat} (h : HeapRep Z E H nx) (hz : ∀ b, Z' b → Z b) :
    ∃ E', E'.w = E.w ∧ E'.ρ = E.ρ ∧ E'.η = E.η ∧ (∀ b, E'.V b → E.V b) ∧ HeapRep Z' E' H nx := by
  let E' : Env := { E with V := fun b => Z' b ∨ Wr E.ρ H b }
  have hV : ∀ b, E'.V b → E.V b := fun b hb => (h.V b).2 (hb.imp (hz b) (fun x => x))
  have L : Later E E' := ⟨rfl, fun _ _ h => h, Nat.le_refl _, fun _ c _ _ hh => ⟨c, hh, rfl⟩, fun _ _ _ => rfl, fun b _ hb => hV b hb⟩
  refine ⟨E', rfl, rfl, rfl, hV, ⟨fun i es hh => ?_, h.inj, fun b => Iff.rfl, fun i n h1 h2 hzz => h.apart i n h1 h2 (hz n hzz), h.fresh, h.one, h.old, fun b hb => h.zold b (hz b hb), h.tab.later L⟩⟩
  rcases h.blk i es hh with h0 | ⟨m, hm, hb⟩
  · exact .inl h0
  · exact .inr ⟨m, hm, h.blk_later L hm hb rfl⟩

theorem Taken.none {Z : Nat → Prop} {E : Env} {H : Heap} {nx : Nat} (h : HeapRep Z E H nx) : Taken Z E H nx [] E H nx :=
  ⟨⟨rfl, rfl⟩, fun _ h => h, fun _ _ => rfl, fun _ _ => rfl, Nat.le_refl _, h.congrZ fun b => by simp⟩

theorem Taken.trans {Z : Nat → Prop} {E E1 E2 : Env} {H H1 H2 : Heap} {nx nx1 nx2 : Nat} {X Y : List Nat} (a : Taken Z E H nx X E1 H1 nx1)
    (b : Taken (fun b => Z b ∧ b ∉ X) E1 H1 nx1 Y E2 H2 nx2) : Taken Z E H nx (X ++ Y) E2 H2 nx2 where
  mem := ⟨b.mem.η.trans a.mem.η, b.mem.w.trans a.mem.w⟩
  V := fun x hx => a.V x (b.V x hx)
  ρ := fun i hi => (b.ρ i (Nat.lt_of_lt_of_le hi a.nx)).trans (a.ρ i hi)
  H := fun i hi => (b.H i (Nat.lt_of_lt_of_le hi a.nx)).trans (a.H i hi)
  nx := Nat.le_trans a.nx b.nx
  heap := b.heap.congrZ fun x => by simp [and_assoc]

theorem pure_taken {Z : Nat → Prop} {E : Env} {H : Heap} {nx : Nat} {y : AV} {v : Value} {X : List Nat} (h : HeapRep Z E H nx) (hb : pureV y = true ∧ RepV E y v ∧ X = []) :
    ∃ E', Taken Z E H nx X E' H nx ∧ RepV E' y v := by
  obtain ⟨_, hr, rfl⟩ := hb
  exact ⟨E, Taken.none h, hr⟩

mutual
theorem matV_ok : ∀ (y : AV) (v : Value) (X : List Nat) (Z : Nat → Prop) (E : Env) (H : Heap) (nx : Nat), HeapRep Z E H nx → RepB E y v X → X.Nodup → (∀ b ∈ X, Z b) →
    ∃ E', Taken Z E H nx X E' (matV y (H, nx)).2.1 (matV y (H, nx)).2.2 ∧ RepV E' (matV y (H, nx)).1 v
  | .own len esz cs, v, X, Z, E, H, nx, h, hb, hnd, hz => by
    simp only [RepB] at hb
    obtain ⟨hp, a, cap, rfl, hl, hc⟩ := hb
    simp only [matV]
    rcases hc with ⟨rfl, rfl, _⟩ | ⟨n, c, e, fr, rfl, rfl, k1, k2, k3, k4, k5⟩
    · obtain ⟨E1, e1, e2, e3, e4, e5⟩ := h.empty.weakZ (Z' := fun b => Z b ∧ b ∉ X) (fun b hb => hb.1)
      refine ⟨E1, ⟨⟨e3, e1⟩, e4, fun i _ => by rw [e2], fun i hi => setH_ne _ _ (by omega), by omega, e5⟩, ?_⟩
      simp only [RepV]
      exact ⟨a, 0, rfl, hl, (nofun), .inl rfl⟩
    · have hblk : BlkOk E n cs := ⟨c, e, fr, k1, k3, k4, fun j x hx => by
        have hj : j < cs.length := by
          rcases Nat.lt_or_ge j cs.length with h' | h'
          · exact h'
          · rw [List.getElem?_eq_none h'] at hx; cases hx
        obtain ⟨u, hu, hr⟩ := repL_get _ _ k5 j x hx
        rw [List.getElem?_take_of_lt hj] at hu
        exact ⟨u, by simpa using hu, hr⟩⟩
      obtain ⟨E', e1, e2, e3, e4, e5, e6⟩ := h.adopt (hz n (by simp)) hblk
      refine ⟨E', ⟨⟨e2, e1⟩, fun b hb => (e3 b).1 hb, fun i hi => e4 i (by omega), fun i hi => setH_ne _ _ (by omega), by omega, e6.congrZ fun b => by simp⟩, ?_⟩
      simp only [RepV]
      exact ⟨_, cap, rfl, hl, (nofun), .inr ⟨n, c, e, fr, e5, rfl, by rw [e1]; exact k1, by omega⟩⟩
  | .ref cs, v, X, Z, E, H, nx, h, hb, hnd, hz => by
    simp only [RepB] at hb
    obtain ⟨n, Y, c, e, fr, rfl, rfl, k1, k2, k3, k4⟩ := hb
    obtain ⟨hy1, hy2, hy3⟩ := List.nodup_append.1 hnd
    obtain ⟨E1, t1, r1⟩ := matL_ok cs _ Y Z E H nx h k4 hy1 (fun b hb => hz b (by simp [hb]))
    simp only [matV]
    have hlen : (matL cs (H, nx)).1.length = (c.toList.take cs.length).length := repL_length _ _ r1
    have hblk : BlkOk E1 n (matL cs (H, nx)).1 := ⟨c, e, fr, by rw [t1.mem.w]; exact k1, k2, by rw [hlen]; simp; omega, fun j x hx => by
      obtain ⟨u, hu, hr⟩ := repL_get _ _ r1 j x hx
      have hj : j < cs.length := by
        rcases Nat.lt_or_ge j (c.toList.take cs.length).length with h' | h'
        · simp at h'; omega
        · rw [List.getElem?_eq_none h'] at hu; cases hu
      rw [List.getElem?_take_of_lt hj] at hu
      exact ⟨u, by simpa using hu, hr⟩⟩
    obtain ⟨E', e1, e2, e3, e4, e5, e6⟩ := t1.heap.adopt ⟨hz n (by simp), fun hn => hy3 n hn n (by simp) rfl⟩ hblk
    have t2 : Taken (fun b => Z b ∧ b ∉ Y) E1 (matL cs (H, nx)).2.1 (matL cs (H, nx)).2.2 [n] E' (setH (matL cs (H, nx)).2.1 (matL cs (H, nx)).2.2 (some (matL cs (H, nx)).1)) ((matL cs (H, nx)).2.2 + 1) :=
      ⟨⟨e2, e1⟩, fun b hb => (e3 b).1 hb, fun i hi => e4 i (by omega), fun i hi => setH_ne _ _ (by omega), by omega, e6.congrZ fun b => by simp⟩
    refine ⟨E', t1.trans t2, ?_⟩
    simp only [RepV]
    exact ⟨n, e5, rfl⟩
  | .agg cs, v, X, Z, E, H, nx, h, hb, hnd, hz => by
    simp only [RepB] at hb
    obtain ⟨vs, rfl, hl⟩ := hb
    obtain ⟨E1, t1, r1⟩ := matL_ok cs _ X Z E H nx h hl hnd hz
    exact ⟨E1, t1, by simp only [matV, RepV]; exact ⟨vs, rfl, r1⟩⟩
  | .tuple cs, v, X, Z, E, H, nx, h, hb, hnd, hz => by
    simp only [RepB] at hb
    obtain ⟨vs, rfl, hl⟩ := hb
    obtain ⟨E1, t1, r1⟩ := matL_ok cs _ X Z E H nx h hl hnd hz
    exact ⟨E1, t1, by simp only [matV, RepV]; exact ⟨vs, rfl, r1⟩⟩
  | .top, v, X, Z, E, H, nx, h, hb, _, _ => by simp only [RepB] at hb; exact pure_taken h hb
  | .int k n, v, X, Z, E, H, nx, h, hb, _, _ => by simp only [RepB] at hb; exact pure_taken h hb
  | .bool b, v, X, Z, E, H, nx, h, hb, _, _ => by simp only [RepB] at hb; exact pure_taken h hb
  | .anyb, v, X, Z, E, H, nx, h, hb, _, _ => by simp only [RepB] at hb; exact pure_taken h hb
  | .str s, v, X, Z, E, H, nx, h, hb, _, _ => by simp only [RepB] at hb; exact pure_taken h hb
  | .nil, v, X, Z, E, H, nx, h, hb, _, _ => by simp only [RepB] at hb; exact pure_taken h hb
  | .ro len cs, v, X, Z, E, H, nx, h, hb, _, _ => by simp only [RepB] at hb; exact pure_taken h hb
  | .sl _ _ _ _ _, v, X, Z, E, H, nx, h, hb, _, _ => by simp only [RepB] at hb; exact pure_taken h hb
  | .ptr _ _, v, X, Z, E, H, nx, h, hb, _, _ => by simp only [RepB] at hb; exact pure_taken h hb
  | .rop cs, v, X, Z, E, H, nx, h, hb, _, _ => by simp only [RepB] at hb; exact pure_taken h hb
  | .nilp, v, X, Z, E, H, nx, h, hb, _, _ => by simp only [RepB] at hb; exact pure_taken h hb
  | .hid i, v, X, Z, E, H, nx, h, hb, _, _ => by simp only [RepB] at hb; exact pure_taken h hb
  | .fn f cs, v, X, Z, E, H, nx, h, hb, _, _ => by simp only [RepB] at hb; exact pure_taken h hb
theorem matL_ok : ∀ (cs : List AV) (vs : List Value) (X : List Nat) (Z : Nat → Prop) (E : Env) (H : Heap) (nx : Nat), HeapRep Z E H nx → RepBL E cs vs X → X.Nodup → (∀ b ∈ X, Z b) →
    ∃ E', Taken Z E H nx X E' (matL cs (H, nx)).2.1 (matL cs (H, nx)).2.2 ∧ RepL E' (matL cs (H, nx)).1 vs
  | [], vs, X, Z, E, H, nx, h, hb, _, _ => by
    simp only [RepBL] at hb
    obtain ⟨rfl, rfl⟩ := hb
    exact ⟨E, Taken.none h, by simp [matL, RepL]⟩
  | c :: cs, vs, X, Z, E, H, nx, h, hb, hnd, hz => by
    simp only [RepBL] at hb
    obtain ⟨u, us, Y, Y', rfl, rfl, h1, h2⟩ := hb
    obtain ⟨hy1, hy2, hy3⟩ := List.nodup_append.1 hnd
    obtain ⟨E1, t1, r1⟩ := matV_ok c u Y Z E H nx h h1 hy1 (fun b hb => hz b (by simp [hb]))
    have h2' := RepBL.mono t1.mem t1.V cs us Y' h2
    obtain ⟨E2, t2, r2⟩ := matL_ok cs us Y' (fun b => Z b ∧ b ∉ Y) E1 (matV c (H, nx)).2.1 (matV c (H, nx)).2.2 t1.heap h2' hy2 (fun b hb => ⟨hz b (by simp [hb]), fun hy => hy3 b hy b hb rfl⟩)
    refine ⟨E2, t1.trans t2, ?_⟩
    simp only [matL, RepL]
    exact ⟨u, us, rfl, RepV.later (Taken.later t1.heap t2) _ _ r1, r2⟩
end

end Go.Proofs.Ytaefmhdpfmpijaa.Abs
