/- append and copy: sound. -/
import Derived.Test.YtaefmhdpfmpijaaFJ
set_option linter.unusedVariables false
set_option linter.unusedSimpArgs false
namespace Go.Proofs.Ytaefmhdpfmpijaa.Abs
open Go

/-- What a source of an append or a copy holds: how many elements, their cells. -/
def srcP (H : Heap) (esz : Nat) (X : AV) (K : Nat → List AV → Prop) : Prop :=
  match X with
  | .nil => K 0 []
  | .ro len cs => cs.length = len * esz ∧ K len cs
  | .sl id off len es full => match H id with
    | some cs => ((es = esz ∧ off = 0 ∧ cs.length = len * esz) ∧ K len cs) ∨ ((es = esz ∧ off + len * esz ≤ cs.length) ∧ K len ((cs.drop off).take (len * esz)))
    | none => False
  | .str s => esz = 1 ∧ K s.length (s.map (AV.int .u8))
  | _ => False

theorem load_list {P : Program} {E : Env} {b off : Nat} {cs : List AV} (hm : ∀ (j : Nat) x, cs[j]? = some x → ∃ u, E.w.cell? ⟨b, off + j, none⟩ = some u ∧ RepV E x u) :
    ∃ vs : Array Value, (loadCells ⟨b, off, none⟩ cs.length).run P E.w = .ok vs E.w ∧ RepL E cs vs.toList := by
  have hex : ∀ n, n ≤ cs.length → ∃ vs : List Value, vs.length = n ∧ (∀ (j : Nat), j < n → ∃ x u, cs[j]? = some x ∧ vs[j]? = some u ∧ E.w.cell? ⟨b, off + j, none⟩ = some u ∧ RepV E x u) := by
    intro n
    induction n with
    | zero => exact fun _ => ⟨[], rfl, fun j hj => by omega⟩
    | succ n ih =>
      intro hn
      obtain ⟨vs, hl', hv⟩ := ih (by omega)
      obtain ⟨u, hu, hr⟩ := hm n cs[n] (by simp)
      refine ⟨vs ++ [u], by simp [hl'], fun j hj => ?_⟩
      by_cases hjn : j < n
      · obtain ⟨x, u', h1, h2, h3, h4⟩ := hv j hjn
        exact ⟨x, u', h1, by rw [List.getElem?_append_left (by omega)]; exact h2, h3, h4⟩
      · obtain rfl : j = n := by omega
        exact ⟨cs[j], u, by simp, by rw [List.getElem?_append_right (by omega)]; simp [hl'], hu, hr⟩
  obtain ⟨vs, hlen, hv⟩ := hex cs.length (Nat.le_refl _)
  refine ⟨vs.toArray, ?_, repL_of_get _ _ (by simp [hlen]) fun j x u hx hu => ?_⟩
  · have := run_loadCells_list (P := P) E.w ⟨b, off, none⟩ vs (fun j v hj => by
      have hjl : j < cs.length := by
        rcases Nat.lt_or_ge j vs.length with h' | h'
        · omega
        · simp [List.getElem?_eq_none h'] at hj
      obtain ⟨x, u, h1, h2, h3, h4⟩ := hv j hjl
      rw [addr_add]
      rw [h2] at hj
      injection hj with hj
      rw [← hj]; exact h3)
    rwa [hlen] at this
  · have hjl : j < cs.length := by
      rcases Nat.lt_or_ge j cs.length with h' | h'
      · exact h'
      · simp [List.getElem?_eq_none h'] at hx
    obtain ⟨x', u', h1, h2, h3, h4⟩ := hv j hjl
    simp only [List.toList_toArray] at hu
    rw [h1] at hx; injection hx with hx
    rw [h2] at hu; injection hu with hu
    rw [← hx, ← hu]; exact h4

/-- What is known of a source's values. -/
structure SrcOk (P : Program) (E : Env) (esz n : Nat) (src : List AV) (v : Value) : Prop where
  len : ∀ w, (Builtin.lenOf v).run P w = .ok n w
  some : ∀ k m, m ≤ n → ∃ vs : Array Value, (Builtin.firstCells esz m v).run P { E.w with drawn := k } = .ok vs { E.w with drawn := k } ∧ RepL E (src.take (m * esz)) vs.toList
  size : src.length = n * esz

theorem SrcOk.cells {P : Program} {E : Env} {esz n : Nat} {src : List AV} {v : Value} (h : SrcOk P E esz n src v) (k : Nat) :
    ∃ vs : Array Value, (Builtin.firstCells esz n v).run P { E.w with drawn := k } = .ok vs { E.w with drawn := k } ∧ RepL E src vs.toList := by
  have := h.some k n (Nat.le_refl _)
  rwa [List.take_of_length_le (by rw [h.size]; exact Nat.le_refl _)] at this

theorem repM_take {E : Env} {cs : List AV} {b off : Nat} (h : RepM E cs b off) (n : Nat) : RepM E (cs.take n) b off :=
  repM_of_get _ _ _ fun j x hx => by
    by_cases hj : j < n
    · rw [List.getElem?_take_of_lt hj] at hx; exact repM_get _ _ _ h j x hx
    · rw [List.getElem?_eq_none (by simp; omega)] at hx; cases hx

theorem srcP_sound {P : Program} {Z : Nat → Prop} {E : Env} {H : Heap} {nx : Nat} (hr : HeapRep Z E H nx) {esz : Nat} {X : AV} {v : Value} {K : Nat → List AV → Prop} (hx : RepV E X v) (h : srcP H esz X K) :
    ∃ n src, K n src ∧ SrcOk P E esz n src v := by
  unfold srcP at h
  split at h
  · simp only [RepV] at hx
    subst hx
    exact ⟨0, [], h, ⟨fun w => rfl, fun k m hm => ⟨#[], by simp [Builtin.firstCells], by simp [RepL]⟩, by simp⟩⟩
  · rename_i len cs
    obtain ⟨hl, hk⟩ := h
    simp only [RepV] at hx
    obtain ⟨a, cap, rfl, _, hc⟩ := hx
    refine ⟨len, cs, hk, ⟨fun w => rfl, fun k m hmn => ?_, hl⟩⟩
    have hmm : m * esz ≤ len * esz := Nat.mul_le_mul_right _ hmn
    rcases hc with rfl | ⟨b, off, rfl, hV, hm⟩
    · have h0 : m * esz = 0 := by have : len * esz = 0 := by simpa using hl.symm
                                  omega
      refine ⟨#[], ?_, by simp [RepL]⟩
      cases a with
      | none => simp [Builtin.firstCells]
      | some a => simp [Builtin.firstCells, h0, loadCells, loadCellsFrom]
    · obtain ⟨vs, h1, h2⟩ := load_list (P := P) (repM_get _ b off (repM_take (RepM.later (later_drawn E k) cs b off hV hm) (m * esz)))
      rw [List.length_take, Nat.min_eq_left (by omega)] at h1
      exact ⟨vs, by simp only [Builtin.firstCells]; exact h1, RepL.later (later_drawn (E.drawn k) E.w.drawn) _ _ h2⟩
  · rename_i id off len es full
    split at h
    · rename_i cs hcs
      have key : ∀ ds : List AV, es = esz → off + len * esz ≤ cs.length → ds = (cs.drop off).take (len * esz) → K len ds → ∃ n src, K n src ∧ SrcOk P E esz n src v := by
        intro ds hes hl hds hk
        subst hes
        simp only [RepV] at hx
        obtain ⟨a, cap, rfl, hlc, _, hc⟩ := hx
        have hdl : ds.length = len * es := by rw [hds]; simp; omega
        refine ⟨len, ds, hk, ⟨fun w => rfl, fun k m hmn => ?_, hdl⟩⟩
        have hmm : m * es ≤ len * es := Nat.mul_le_mul_right _ hmn
        rcases hc with rfl | ⟨n, c, e, fr, hn, rfl, hh, hs⟩
        · have : len = 0 := by omega
          subst this
          have : ds = [] := List.length_eq_zero_iff.1 (by rw [hdl]; simp)
          subst this
          have hm0 : m * es = 0 := by omega
          refine ⟨#[], ?_, by simp [RepL]⟩
          cases a with
          | none => simp [Builtin.firstCells]
          | some a => simp [Builtin.firstCells, hm0, loadCells, loadCellsFrom]
        · obtain ⟨vs, h1, h2⟩ := load_list (P := P) (E := E.drawn k) (b := n) (off := off) (cs := ds.take (m * es)) (fun j x hx' => by
            refine blk_cells (hr.drawn k) hcs hn (off + j) x ?_
            by_cases hjm : j < m * es
            case neg => rw [List.getElem?_eq_none (by simp; omega)] at hx'; cases hx'
            rw [List.getElem?_take_of_lt hjm, hds] at hx'
            by_cases hj : j < len * es
            · rwa [List.getElem?_take_of_lt hj, List.getElem?_drop] at hx'
            · rw [List.getElem?_eq_none (by simp; omega)] at hx'; cases hx')
          rw [List.length_take, Nat.min_eq_left (by omega)] at h1
          exact ⟨vs, by simp only [Builtin.firstCells]; exact h1, RepL.later (later_drawn (E.drawn k) E.w.drawn) _ _ h2⟩
      rcases h with ⟨⟨hes, ho, hl⟩, hk⟩ | ⟨⟨hes, hl⟩, hk⟩
      · exact key cs hes (by omega) (by rw [ho, List.drop_zero, List.take_of_length_le (by omega)]) hk
      · exact key _ hes hl rfl hk
    · exact h.elim
  · rename_i s
    obtain ⟨rfl, hk⟩ := h
    simp only [RepV] at hx
    obtain ⟨ba, rfl, rfl⟩ := hx
    refine ⟨_, _, hk, ⟨fun w => by simp [Builtin.lenOf, length_bytesOf], fun k m hm => ⟨_, rfl, ?_⟩, by simp⟩⟩
    rw [length_bytesOf] at hm
    have e : (ba.extract 0 m).data.toList = ba.data.toList.take m := by rw [Go.Lib.extract_data]; simp
    refine repL_of_get _ _ (by simp [length_bytesOf]) fun j x u hx hu => ?_
    have hd : ∀ j : Nat, (bytesOf ba)[j]? = (ba.data.toList[j]?).map (fun (b : UInt8) => (b.toNat : Int)) := fun j => by simp [bytesOf]
    by_cases hj : j < m
    case neg => rw [List.getElem?_eq_none (by simp; omega)] at hx; cases hx
    rw [List.getElem?_take_of_lt (by omega), List.getElem?_map, hd] at hx
    simp only [Array.toList_map, List.getElem?_map, e] at hu
    rw [List.getElem?_take_of_lt hj] at hu
    cases hjj : ba.data.toList[j]? with
    | none => rw [hjj] at hx; simp at hx
    | some y =>
      rw [hjj] at hx hu
      simp at hx hu
      rw [← hx, ← hu]; exact rep_int E _ _
  · exact h.elim

/-- The most bytes that a slice of our own may come to have. -/
def limB : Nat := 17592186044416

theorem nextcap_le (need old : Nat) (h : old < need) : Builtin.nextslicecap need old ≤ 2 * need + 4096 := by
  unfold Builtin.nextslicecap
  split
  · omega
  · split
    · omega
    · have g : ∀ r c, c ≤ 2 * need + 4096 → c < need + 1024 ∨ c ≤ 2 * need + 4096 → Builtin.growBy need r c ≤ 2 * need + 4096 := by
        intro r
        induction r with
        | zero => intro c h1 _; simpa [Builtin.growBy] using h1
        | succ r ih =>
          intro c h1 _
          unfold Builtin.growBy
          split
          · exact h1
          · exact ih _ (by omega) (by omega)
      exact g 4 old (by omega) (.inr (by omega))

/-- The memory of a block, with cells more of which nothing is known. -/
theorem BlkOk.tops {E : Env} {n : Nat} {cs : List AV} (h : BlkOk E n cs) (k : Nat) (hk : ∀ c e fr, E.w.heap[n]? = some (.cells c e fr) → cs.length + k ≤ c.size) :
    BlkOk E n (cs ++ List.replicate k .top) := by
  obtain ⟨c, e, fr, h1, h2, h3, h4⟩ := h
  refine ⟨c, e, fr, h1, h2, by simpa using hk c e fr h1, fun j x hx => ?_⟩
  by_cases hj : j < cs.length
  · rw [List.getElem?_append_left hj] at hx; exact h4 j x hx
  · rw [List.getElem?_append_right (by omega)] at hx
    have hjk : j - cs.length < k := by
      rcases Nat.lt_or_ge (j - cs.length) (List.replicate k AV.top).length with h' | h'
      · simpa using h'
      · rw [List.getElem?_eq_none h'] at hx; cases hx
    have hc := hk c e fr h1
    refine ⟨c[j]'(by omega), by simp, ?_⟩
    rw [List.getElem?_replicate, if_pos hjk] at hx
    injection hx with hx
    subst hx
    simp [RepV]

/-- A block goes under another name. -/
theorem HeapRep.move {Z : Nat → Prop} {E : Env} {H : Heap} {nx : Nat} (h : HeapRep Z E H nx) {id : Nat} {cs ds : List AV} (hi : H id = some cs)
    (hd : (E.ρ id = none ∧ ds = []) ∨ ∃ n, E.ρ id = some n ∧ BlkOk E n ds) :
    ∃ E', E'.w = E.w ∧ Later E E' ∧ E'.ρ nx = E.ρ id ∧ HeapRep Z E' (setH (setH H id none) nx (some ds)) (nx + 1) ∧ (∀ b, Wr E'.ρ (setH (setH H id none) nx (some ds)) b ↔ Wr E.ρ H b) := by
  have hnx := h.fresh nx (Nat.le_refl _)
  have hne : id ≠ nx := fun e => by rw [e, hnx.2] at hi; cases hi
  let E' : Env := { E with ρ := fun i => cond (Nat.beq i nx) (E.ρ id) (E.ρ i) }
  have r1 : E'.ρ nx = E.ρ id := by simp [E']
  have r2 : ∀ i, i ≠ nx → E'.ρ i = E.ρ i := fun i hi => by
    have : Nat.beq i nx = false := by
      cases hh : Nat.beq i nx
      · rfl
      · exact absurd (Nat.eq_of_beq_eq_true hh) hi
    simp [E', this]
  have L : Later E E' := by
    refine ⟨rfl, fun i n hn => ?_, Nat.le_refl _, fun _ c _ _ hh => ⟨c, hh, rfl⟩, fun _ _ _ => rfl, fun _ _ hh => hh⟩
    have : i ≠ nx := fun e => by rw [e, hnx.1] at hn; cases hn
    rw [r2 i this]; exact hn
  have hget : ∀ i, i ≠ nx → i ≠ id → setH (setH H id none) nx (some ds) i = H i := fun i h1 h2 => by rw [setH_ne _ _ h1, setH_ne _ _ h2]
  have hid : setH (setH H id none) nx (some ds) id = none := by rw [setH_ne _ _ hne, setH_same]
  have hwr : ∀ b, Wr E'.ρ (setH (setH H id none) nx (some ds)) b ↔ Wr E.ρ H b := by
    intro b
    constructor
    · rintro ⟨i, es, h1, h2⟩
      by_cases hin : i = nx
      · subst hin; exact ⟨id, cs, hi, by rw [← r1]; exact h2⟩
      · by_cases hii : i = id
        · subst hii; rw [hid] at h1; cases h1
        · rw [hget i hin hii] at h1; rw [r2 i hin] at h2; exact ⟨i, es, h1, h2⟩
    · rintro ⟨i, es, h1, h2⟩
      have hin : i ≠ nx := fun e => by rw [e, hnx.2] at h1; cases h1
      by_cases hii : i = id
      · subst hii; exact ⟨nx, ds, setH_same _ _ _, by rw [r1]; exact h2⟩
      · exact ⟨i, es, by rw [hget i hin hii]; exact h1, by rw [r2 i hin]; exact h2⟩
  refine ⟨E', rfl, L, r1, ⟨fun i es hh => ?_, fun i i' n h1 h2 h3 h4 => ?_, fun b => by rw [hwr]; exact h.V b, fun i n h1 h2 => ?_, fun i hh => ?_, h.one, fun i n hn => ?_, h.zold, h.tab.later L⟩, hwr⟩
  · by_cases hin : i = nx
    · subst hin
      rw [setH_same] at hh
      injection hh with hh
      subst hh
      rw [r1]
      rcases hd with hd | ⟨n, hn, hb⟩
      · exact .inl hd
      · refine .inr ⟨n, hn, ?_⟩
        obtain ⟨c, e, fr, k1, k2, k3, k4⟩ := hb
        exact ⟨c, e, fr, k1, k2, k3, fun j x hx => let ⟨u, hu, hr⟩ := k4 j x hx; ⟨u, hu, RepV.later L x u hr⟩⟩
    · by_cases hii : i = id
      · subst hii; rw [hid] at hh; cases hh
      · rw [hget i hin hii] at hh
        rw [r2 i hin]
        rcases h.blk i es hh with h0 | ⟨m, hm, hb⟩
        · exact .inl h0
        · exact .inr ⟨m, hm, h.blk_later L hm hb rfl⟩
  · have nrm : ∀ i, setH (setH H id none) nx (some ds) i ≠ none → ∃ k, H k ≠ none ∧ E'.ρ i = E.ρ k ∧ ((i = nx ∧ k = id) ∨ (i ≠ nx ∧ k = i ∧ i ≠ id)) := by
      intro i hh
      by_cases hin : i = nx
      · subst hin; exact ⟨id, by rw [hi]; simp, r1, .inl ⟨rfl, rfl⟩⟩
      · by_cases hii : i = id
        · subst hii; exact absurd hid hh
        · rw [hget i hin hii] at hh; exact ⟨i, hh, r2 i hin, .inr ⟨hin, rfl, hii⟩⟩
    obtain ⟨k, q1, q2, q3⟩ := nrm i h1
    obtain ⟨k', q1', q2', q3'⟩ := nrm i' h2
    have := h.inj k k' n q1 q1' (by rw [← q2]; exact h3) (by rw [← q2']; exact h4)
    rcases q3 with ⟨a1, a2⟩ | ⟨a1, a2, a3⟩ <;> rcases q3' with ⟨b1, b2⟩ | ⟨b1, b2, b3⟩ <;> (try omega)
  · by_cases hin : i = nx
    · subst hin; rw [r1] at h2; exact h.apart id n (by rw [hi]; simp) h2
    · by_cases hii : i = id
      · subst hii; exact absurd hid h1
      · rw [hget i hin hii] at h1; rw [r2 i hin] at h2; exact h.apart i n h1 h2
  · have hin : i ≠ nx := by omega
    have hii : i ≠ id := fun e => by
      have := h.fresh i (by omega)
      rw [e] at this; rw [hi] at this; exact absurd this.2 (by simp)
    rw [r2 i hin, hget i hin hii]; exact h.fresh i (by omega)
  · by_cases hin : i = nx
    · subst hin; rw [r1] at hn; exact h.old id n hn
    · rw [r2 i hin] at hn; exact h.old i n hn

/-- An empty one, nil or without room. -/
theorem HeapRep.empty {Z : Nat → Prop} {E : Env} {H : Heap} {nx : Nat} (h : HeapRep Z E H nx) : HeapRep Z E (setH H nx (some [])) (nx + 1) := by
  have hnx := h.fresh nx (Nat.le_refl _)
  have hwr : ∀ b, Wr E.ρ (setH H nx (some [])) b ↔ Wr E.ρ H b := by
    intro b
    constructor
    · rintro ⟨i, es, h1, h2⟩
      by_cases hin : i = nx
      · subst hin; rw [hnx.1] at h2; cases h2
      · rw [setH_ne _ _ hin] at h1; exact ⟨i, es, h1, h2⟩
    · rintro ⟨i, es, h1, h2⟩
      have hin : i ≠ nx := fun e => by rw [e, hnx.2] at h1; cases h1
      exact ⟨i, es, by rw [setH_ne _ _ hin]; exact h1, h2⟩
  refine ⟨fun i es hh => ?_, fun i i' n h1 h2 h3 h4 => ?_, fun b => by rw [hwr]; exact h.V b, fun i n h1 h2 => ?_, fun i hh => ?_, h.one, h.old, h.zold, h.tab⟩
  · by_cases hin : i = nx
    · subst hin; rw [setH_same] at hh; injection hh with hh; exact .inl ⟨hnx.1, hh.symm⟩
    · rw [setH_ne _ _ hin] at hh; exact h.blk i es hh
  · have hin : i ≠ nx := fun e => by rw [e, hnx.1] at h3; cases h3
    have hin' : i' ≠ nx := fun e => by rw [e, hnx.1] at h4; cases h4
    rw [setH_ne _ _ hin] at h1
    rw [setH_ne _ _ hin'] at h2
    exact h.inj i i' n h1 h2 h3 h4
  · have hin : i ≠ nx := fun e => by rw [e, hnx.1] at h2; cases h2
    rw [setH_ne _ _ hin] at h1
    exact h.apart i n h1 h2
  · have hin : i ≠ nx := by omega
    rw [setH_ne _ _ hin]; exact h.fresh i (by omega)

end Go.Proofs.Ytaefmhdpfmpijaa.Abs
