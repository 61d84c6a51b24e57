/- What goes over a border is given over. -/
import Derived.Test.YtaefmhdpfmpijaaFR
set_option linter.unusedVariables false
set_option linter.unusedSimpArgs false
namespace Go.Proofs.Ytaefmhdpfmpijaa.Abs
open Go

mutual
/-- The value x, with its blocks `ids` of the heap H, is y at the border. -/
def Dem (H : Heap) : AV → AV → List Nat → Prop
  | .own len esz cs, x, ids => pureL cs = true ∧ cs.length = len * esz ∧ ((x = .nil ∧ len = 0 ∧ cs = [] ∧ ids = []) ∨ ∃ id full, x = .sl id 0 len esz full ∧ H id = some cs ∧ ids = [id])
  | .ref cs, x, ids => ∃ id zs is, x = .ptr id 0 ∧ H id = some zs ∧ DemL H cs zs is ∧ ids = is ++ [id]
  | .agg cs, x, ids => ∃ zs, x = .agg zs ∧ DemL H cs zs ids
  | .tuple cs, x, ids => ∃ zs, x = .tuple zs ∧ DemL H cs zs ids
  | .ro len cs, x, ids => (x = .ro len cs ∧ pureL cs = true ∧ ids = []) ∨ (x = .nil ∧ len = 0 ∧ cs = [] ∧ ids = [])
  | y, x, ids => x = y ∧ pureV y = true ∧ ids = []
def DemL (H : Heap) : List AV → List AV → List Nat → Prop
  | [], zs, ids => zs = [] ∧ ids = []
  | c :: cs, zs, ids => ∃ z zs' i i', zs = z :: zs' ∧ ids = i ++ i' ∧ Dem H c z i ∧ DemL H cs zs' i'
end

theorem rep_take {E : Env} {zs : List AV} {c : Array Value} (hl : zs.length ≤ c.size) (h : ∀ (j : Nat) x, zs[j]? = some x → ∃ u, c[j]? = some u ∧ RepV E x u) : RepL E zs (c.toList.take zs.length) :=
  repL_of_get _ _ (by simp; omega) fun j x u hx hu => by
    obtain ⟨u', h1, h2⟩ := h j x hx
    have hj : j < zs.length := by
      rcases Nat.lt_or_ge j zs.length with h' | h'
      · exact h'
      · rw [List.getElem?_eq_none h'] at hx; cases hx
    rw [List.getElem?_take_of_lt hj, Array.getElem?_toList, h1] at hu
    injection hu with hu
    rw [← hu]; exact h2

theorem pure_out {E : Env} {ρ : Nat → Option Nat} {x y : AV} {v : Value} {ids : List Nat} (hr : RepV E x v) (h : x = y ∧ pureV y = true ∧ ids = []) : pureV y = true ∧ RepV E y v ∧ ids.filterMap ρ = [] := by
  obtain ⟨rfl, hp, rfl⟩ := h
  exact ⟨hp, hr, rfl⟩

mutual
theorem Dem_ok {Z : Nat → Prop} {E : Env} {H : Heap} {nx : Nat} (h : HeapRep Z E H nx) : ∀ (y x : AV) (v : Value) (ids : List Nat), RepV E x v → Dem H y x ids → RepB E y v (ids.filterMap E.ρ)
  | .own len esz cs, x, v, ids, hr, hd => by
    simp only [Dem] at hd
    obtain ⟨hp, hl, hd⟩ := hd
    simp only [RepB]
    refine ⟨hp, ?_⟩
    rcases hd with ⟨rfl, rfl, rfl, rfl⟩ | ⟨id, full, rfl, hi, rfl⟩
    · simp only [RepV] at hr
      subst hr
      exact ⟨none, 0, rfl, Nat.le_refl _, .inl ⟨rfl, rfl, by simp⟩⟩
    · simp only [RepV] at hr
      obtain ⟨a, cap, rfl, hlc, _, hc⟩ := hr
      refine ⟨a, cap, rfl, hlc, ?_⟩
      rcases h.blk id cs hi with ⟨h0, rfl⟩ | ⟨n, hn, c, e, fr, b1, b2, b3, b4⟩
      · left
        rcases hc with rfl | ⟨n, c, e, fr, hn, _⟩
        · exact ⟨rfl, rfl, by simp [h0]⟩
        · rw [h0] at hn; cases hn
      · rcases hc with rfl | ⟨n', c', e', fr', hn', rfl, hh, hs⟩
        · left
          have hl0 : len = 0 := by omega
          subst hl0
          exact ⟨rfl, List.length_eq_zero_iff.1 (by rw [hl]; simp), by simp [hn]⟩
        · right
          obtain rfl : n = n' := by rw [hn] at hn'; injection hn'
          rw [b1] at hh
          injection hh with hh
          injection hh with q1 q2 q3
          subst q1
          exact ⟨n, c, e, fr, rfl, by simp [hn], b1, by omega, b2, b3, rep_take b3 b4⟩
  | .ref cs, x, v, ids, hr, hd => by
    simp only [Dem] at hd
    obtain ⟨id, zs, is, rfl, hi, hd, rfl⟩ := hd
    simp only [RepV] at hr
    obtain ⟨n, hn, rfl⟩ := hr
    rcases h.blk id zs hi with ⟨h0, _⟩ | ⟨n', hn', c, e, fr, b1, b2, b3, b4⟩
    · rw [hn] at h0; cases h0
    · obtain rfl : n = n' := by rw [hn] at hn'; injection hn'
      have hlen := DemL_len cs zs is hd
      simp only [RepB]
      refine ⟨n, is.filterMap E.ρ, c, e, fr, rfl, by simp [hn], b1, b2, by rw [hlen]; exact b3, ?_⟩
      rw [hlen]
      exact DemL_ok h cs zs _ is (rep_take b3 b4) hd
  | .agg cs, x, v, ids, hr, hd => by
    simp only [Dem] at hd
    obtain ⟨zs, rfl, hd⟩ := hd
    simp only [RepV] at hr
    obtain ⟨vs, rfl, hr⟩ := hr
    simp only [RepB]
    exact ⟨vs, rfl, DemL_ok h cs zs _ ids hr hd⟩
  | .tuple cs, x, v, ids, hr, hd => by
    simp only [Dem] at hd
    obtain ⟨zs, rfl, hd⟩ := hd
    simp only [RepV] at hr
    obtain ⟨vs, rfl, hr⟩ := hr
    simp only [RepB]
    exact ⟨vs, rfl, DemL_ok h cs zs _ ids hr hd⟩
  | .ro len cs, x, v, ids, hr, hd => by
    simp only [Dem] at hd
    simp only [RepB]
    rcases hd with ⟨rfl, hp, rfl⟩ | ⟨rfl, rfl, rfl, rfl⟩
    · exact ⟨by simpa [pureV] using hp, hr, rfl⟩
    · simp only [RepV] at hr
      subst hr
      exact ⟨rfl, by simp only [RepV]; exact ⟨none, 0, rfl, Nat.le_refl _, .inl trivial⟩, rfl⟩
  | .top, x, v, ids, hr, hd => by simp only [Dem] at hd; simp only [RepB]; exact pure_out hr hd
  | .int k n, x, v, ids, hr, hd => by simp only [Dem] at hd; simp only [RepB]; exact pure_out hr hd
  | .bool b, x, v, ids, hr, hd => by simp only [Dem] at hd; simp only [RepB]; exact pure_out hr hd
  | .anyb, x, v, ids, hr, hd => by simp only [Dem] at hd; simp only [RepB]; exact pure_out hr hd
  | .str s, x, v, ids, hr, hd => by simp only [Dem] at hd; simp only [RepB]; exact pure_out hr hd
  | .nil, x, v, ids, hr, hd => by simp only [Dem] at hd; simp only [RepB]; exact pure_out hr hd
  | .sl _ _ _ _ _, x, v, ids, hr, hd => by simp only [Dem] at hd; simp only [RepB]; exact pure_out hr hd
  | .ptr _ _, x, v, ids, hr, hd => by simp only [Dem] at hd; simp only [RepB]; exact pure_out hr hd
  | .rop cs, x, v, ids, hr, hd => by simp only [Dem] at hd; simp only [RepB]; exact pure_out hr hd
  | .nilp, x, v, ids, hr, hd => by simp only [Dem] at hd; simp only [RepB]; exact pure_out hr hd
  | .hid i, x, v, ids, hr, hd => by simp only [Dem] at hd; simp only [RepB]; exact pure_out hr hd
  | .fn f cs, x, v, ids, hr, hd => by simp only [Dem] at hd; simp only [RepB]; exact pure_out hr hd
theorem DemL_len {H : Heap} : ∀ (cs zs : List AV) (ids : List Nat), DemL H cs zs ids → cs.length = zs.length
  | [], zs, ids, hd => by simp only [DemL] at hd; rw [hd.1]
  | c :: cs, zs, ids, hd => by
    simp only [DemL] at hd
    obtain ⟨z, zs', i, i', rfl, rfl, _, h2⟩ := hd
    simp [DemL_len cs zs' i' h2]
theorem DemL_ok {Z : Nat → Prop} {E : Env} {H : Heap} {nx : Nat} (h : HeapRep Z E H nx) : ∀ (cs zs : List AV) (vs : List Value) (ids : List Nat), RepL E zs vs → DemL H cs zs ids → RepBL E cs vs (ids.filterMap E.ρ)
  | [], zs, vs, ids, hr, hd => by
    simp only [DemL] at hd
    obtain ⟨rfl, rfl⟩ := hd
    simp only [RepL] at hr
    simp [RepBL, hr]
  | c :: cs, zs, vs, ids, hr, hd => by
    simp only [DemL] at hd
    obtain ⟨z, zs', i, i', rfl, rfl, h1, h2⟩ := hd
    simp only [RepL] at hr
    obtain ⟨u, us, rfl, hu, hr⟩ := hr
    simp only [RepBL]
    exact ⟨u, us, _, _, rfl, List.filterMap_append, Dem_ok h c z u i hu h1, DemL_ok h cs zs' us i' hr h2⟩
end

mutual
theorem Dem_mem {H : Heap} : ∀ (y x : AV) (ids : List Nat), Dem H y x ids → ∀ i ∈ ids, H i ≠ none
  | .own len esz cs, x, ids, hd => by
    simp only [Dem] at hd
    rcases hd.2.2 with ⟨_, _, _, rfl⟩ | ⟨id, full, _, hi, rfl⟩
    · simp
    · intro i hi'; simp at hi'; subst hi'; rw [hi]; simp
  | .ref cs, x, ids, hd => by
    simp only [Dem] at hd
    obtain ⟨id, zs, is, rfl, hi, hd, rfl⟩ := hd
    intro i hi'
    rcases List.mem_append.1 hi' with h' | h'
    · exact DemL_mem cs zs is hd i h'
    · simp at h'; subst h'; rw [hi]; simp
  | .agg cs, x, ids, hd => by
    simp only [Dem] at hd
    obtain ⟨zs, _, hd⟩ := hd
    exact DemL_mem cs zs ids hd
  | .tuple cs, x, ids, hd => by
    simp only [Dem] at hd
    obtain ⟨zs, _, hd⟩ := hd
    exact DemL_mem cs zs ids hd
  | .ro len cs, x, ids, hd => by
    simp only [Dem] at hd
    rcases hd with ⟨_, _, rfl⟩ | ⟨_, _, _, rfl⟩ <;> simp
  | .top, x, ids, hd => by simp only [Dem] at hd; rw [hd.2.2]; simp
  | .int k n, x, ids, hd => by simp only [Dem] at hd; rw [hd.2.2]; simp
  | .bool b, x, ids, hd => by simp only [Dem] at hd; rw [hd.2.2]; simp
  | .anyb, x, ids, hd => by simp only [Dem] at hd; rw [hd.2.2]; simp
  | .str s, x, ids, hd => by simp only [Dem] at hd; rw [hd.2.2]; simp
  | .nil, x, ids, hd => by simp only [Dem] at hd; rw [hd.2.2]; simp
  | .sl _ _ _ _ _, x, ids, hd => by simp only [Dem] at hd; rw [hd.2.2]; simp
  | .ptr _ _, x, ids, hd => by simp only [Dem] at hd; rw [hd.2.2]; simp
  | .rop cs, x, ids, hd => by simp only [Dem] at hd; rw [hd.2.2]; simp
  | .nilp, x, ids, hd => by simp only [Dem] at hd; rw [hd.2.2]; simp
  | .hid i, x, ids, hd => by simp only [Dem] at hd; rw [hd.2.2]; simp
  | .fn f cs, x, ids, hd => by simp only [Dem] at hd; rw [hd.2.2]; simp
theorem DemL_mem {H : Heap} : ∀ (cs zs : List AV) (ids : List Nat), DemL H cs zs ids → ∀ i ∈ ids, H i ≠ none
  | [], zs, ids, hd => by simp only [DemL] at hd; rw [hd.2]; simp
  | c :: cs, zs, ids, hd => by
    simp only [DemL] at hd
    obtain ⟨z, zs', i, i', rfl, rfl, h1, h2⟩ := hd
    intro j hj
    rcases List.mem_append.1 hj with h' | h'
    · exact Dem_mem c z i h1 j h'
    · exact DemL_mem cs zs' i' h2 j h'
end

/-- The heap without some blocks. -/
def remH : Heap → List Nat → Heap
  | H, [] => H
  | H, i :: r => remH (setH H i none) r

theorem remH_ok {E : Env} {nx : Nat} : ∀ (ids : List Nat) (Z : Nat → Prop) (H : Heap), HeapRep Z E H nx → ids.Nodup → (∀ i ∈ ids, H i ≠ none) →
    HeapRep (fun b => Z b ∨ b ∈ ids.filterMap E.ρ) E (remH H ids) nx ∧ (ids.filterMap E.ρ).Nodup ∧ (∀ b ∈ ids.filterMap E.ρ, Wr E.ρ H b ∧ ¬ Z b) ∧ (∀ b, Wr E.ρ (remH H ids) b → Wr E.ρ H b)
  | [], Z, H, h, _, _ => ⟨h.congrZ fun b => by simp, by simp, by simp, fun b hb => hb⟩
  | i :: r, Z, H, h, hnd, hm => by
    obtain ⟨hi, hnd⟩ := List.nodup_cons.1 hnd
    have hmi := hm i (by simp)
    have hm' : ∀ j ∈ r, setH H i none j ≠ none := fun j hj => by
      have : j ≠ i := fun e => hi (e ▸ hj)
      rw [setH_ne _ _ this]; exact hm j (by simp [hj])
    have hwr : ∀ b, Wr E.ρ (setH H i none) b → Wr E.ρ H b := by
      rintro b ⟨k, es, h1, h2⟩
      by_cases hk : k = i
      · subst hk; rw [setH_same] at h1; cases h1
      · rw [setH_ne _ _ hk] at h1; exact ⟨k, es, h1, h2⟩
    cases hρ : E.ρ i with
    | none =>
      obtain ⟨k1, k2, k3, k4⟩ := remH_ok r Z (setH H i none) (h.release0 hρ) hnd hm'
      simp only [List.filterMap_cons, hρ, remH]
      exact ⟨k1, k2, fun b hb => ⟨hwr b (k3 b hb).1, (k3 b hb).2⟩, fun b hb => hwr b (k4 b hb)⟩
    | some n =>
      obtain ⟨k1, k2, k3, k4⟩ := remH_ok r (fun b => Z b ∨ b = n) (setH H i none) (h.release hmi hρ) hnd hm'
      simp only [List.filterMap_cons, hρ, remH]
      have hwn : Wr E.ρ H n := by
        cases hh : H i with
        | none => exact absurd hh hmi
        | some es => exact ⟨i, es, hh, hρ⟩
      refine ⟨k1.congrZ fun b => by simp [or_assoc, or_left_comm], List.nodup_cons.2 ⟨fun hn => (k3 n hn).2 (.inr rfl), k2⟩, fun b hb => ?_, fun b hb => hwr b (k4 b hb)⟩
      rcases List.mem_cons.1 hb with rfl | hb
      · exact ⟨hwn, h.apart i _ hmi hρ⟩
      · exact ⟨hwr b (k3 b hb).1, fun hz => (k3 b hb).2 (.inl hz)⟩

end Go.Proofs.Ytaefmhdpfmpijaa.Abs
