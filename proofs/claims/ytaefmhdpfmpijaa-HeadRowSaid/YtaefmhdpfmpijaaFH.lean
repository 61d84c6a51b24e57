/- Slices of slices, of strings, of arrays: sound. -/
import Derived.Test.YtaefmhdpfmpijaaFG
set_option linter.unusedVariables false
set_option linter.unusedSimpArgs false
namespace Go.Proofs.Ytaefmhdpfmpijaa.Abs
open Go

def intO : Option AV → Option (Option Int)
  | none => some none
  | some (.int _ i) => some (some i)
  | some _ => none

def okB (l h : Option Int) (len : Nat) : Prop :=
  match l, h with
  | none, none => True
  | none, some h => 0 ≤ h ∧ h ≤ len
  | some l, none => 0 ≤ l ∧ l ≤ len
  | some l, some h => 0 ≤ l ∧ l ≤ h ∧ h ≤ len

def offB : Option Int → Nat
  | none => 0
  | some l => l.toNat

def endB (h : Option Int) (len : Nat) : Nat :=
  match h with
  | none => len
  | some h => h.toNat

def lenB (l h : Option Int) (len : Nat) : Nat :=
  match l, h with
  | none, none => len
  | none, some h => h.toNat
  | some l, none => len - l.toNat
  | some l, some h => h.toNat - l.toNat

theorem lenB_eq (l h : Option Int) (len : Nat) : lenB l h len = endB h len - offB l := by
  cases l <;> cases h <;> simp [lenB, endB, offB]

def cutB {α : Type} (cs : List α) (l h : Option Int) (sz : Nat) : List α :=
  match l, h with
  | none, none => cs
  | none, some h => cs.take (h.toNat * sz)
  | some l, none => cs.drop (l.toNat * sz)
  | some l, some h => (cs.drop (l.toNat * sz)).take ((h.toNat - l.toNat) * sz)

theorem cutB_get {α : Type} (cs : List α) (l h : Option Int) (sz : Nat) (j : Nat) (x : α) (hx : (cutB cs l h sz)[j]? = some x) : cs[offB l * sz + j]? = some x := by
  cases l <;> cases h <;> simp only [cutB, offB, Nat.zero_mul, Nat.zero_add, List.getElem?_drop] at hx ⊢
  · exact hx
  · rename_i h
    by_cases hj : j < h.toNat * sz
    · rwa [List.getElem?_take_of_lt hj] at hx
    · rw [List.getElem?_eq_none (by simp; omega)] at hx; cases hx
  · exact hx
  · rename_i l h
    by_cases hj : j < (h.toNat - l.toNat) * sz
    · rwa [List.getElem?_take_of_lt hj, List.getElem?_drop] at hx
    · rw [List.getElem?_eq_none (by simp; omega)] at hx; cases hx

theorem okB_le {l h : Option Int} {len : Nat} (ok : okB l h len) : offB l ≤ endB h len ∧ endB h len ≤ len := by
  cases l <;> cases h <;> simp only [okB] at ok <;> simp only [offB, endB] <;> omega

theorem cutB_length {α : Type} (cs : List α) (l h : Option Int) (sz len : Nat) (hc : cs.length = len * sz) (ok : okB l h len) : (cutB cs l h sz).length = lenB l h len * sz := by
  cases l <;> cases h <;> simp only [okB] at ok <;> simp only [cutB, lenB, List.length_take, List.length_drop, hc]
  · rename_i h
    apply Nat.min_eq_left
    exact Nat.mul_le_mul_right _ (by omega)
  · rw [Nat.sub_mul]
  · rename_i l h
    rw [← Nat.sub_mul]
    apply Nat.min_eq_left
    exact Nat.mul_le_mul_right _ (by omega)

/-- The operands of a slice expression, as values. -/
def RepO (E : Env) : Option AV → Option Value → Prop
  | none, o => o = none
  | some x, o => ∃ v, o = some v ∧ RepV E x v

theorem run_bounds {P : Program} {E : Env} {lo hi : Option AV} {lv hv : Option Value} {l h : Option Int} (hl : RepO E lo lv) (hh : RepO E hi hv) (il : intO lo = some l) (ih : intO hi = some h)
    (b : Bool) (len cap : Nat) (hc : len ≤ cap) (ok : okB l h len) (w : World) : (Instr.sliceBounds b len cap lv hv none).run P w = .ok (offB l, endB h len, cap) w := by
  have key : ∀ (o : Option AV) (ov : Option Value) (i : Option Int), RepO E o ov → intO o = some i → (i = none ∧ ov = none) ∨ ∃ k n, i = some n ∧ ov = some (.int k n) := by
    intro o ov i h1 h2
    cases o with
    | none => simp only [intO] at h2; injection h2 with h2; simp only [RepO] at h1; exact .inl ⟨h2.symm, h1⟩
    | some x =>
      simp only [RepO] at h1
      obtain ⟨v, rfl, hr⟩ := h1
      cases x <;> simp only [intO] at h2 <;> (try cases h2)
      simp only [RepV] at hr
      exact .inr ⟨_, _, rfl, by rw [hr]⟩
  rcases key lo lv l hl il with ⟨rfl, rfl⟩ | ⟨k1, n1, rfl, rfl⟩ <;> rcases key hi hv h hh ih with ⟨rfl, rfl⟩ | ⟨k2, n2, rfl, rfl⟩ <;> simp only [okB] at ok
  · simp [Instr.sliceBounds, offB, endB]
  · have e2 := fun c => run_sliceBound (P := P) w k2 n2 cap c (by omega) (by omega)
    simp [Instr.sliceBounds, offB, endB, e2]
  · have e1 := fun c => run_sliceBound (P := P) w k1 n1 len c (by omega) (by omega)
    simp [Instr.sliceBounds, offB, endB, e1]
  · have e2 := fun c => run_sliceBound (P := P) w k2 n2 cap c (by omega) (by omega)
    have e1 := fun c => run_sliceBound (P := P) w k1 n1 n2.toNat c (by omega) (by omega)
    simp [Instr.sliceBounds, offB, endB, e1, e2]

def sliceP (T : Types) (H : Heap) (t : TypeId) (X : AV) (lo hi : Option AV) (K : AV → Prop) : Prop :=
  match intO lo, intO hi with
  | some l, some h => match X with
    | .str s => match T t with
      | some ⟨.str, _, _, _, _⟩ => okB l h s.length ∧ K (.str (cutB s l h 1))
      | _ => False
    | .nil => match T t with
      | some ⟨.slice e, _, _, _, _⟩ => match T e with
        | some ei => okB l h 0 ∧ K .nil
        | none => False
      | _ => False
    | .ro len cs => match T t with
      | some ⟨.slice e, _, _, _, _⟩ => match T e with
        | some ei => (cs.length = len * ei.size ∧ okB l h len) ∧ K (.ro (lenB l h len) (cutB cs l h ei.size))
        | none => False
      | _ => False
    | .sl id off len esz full => match T t with
      | some ⟨.slice e, _, _, _, _⟩ => match T e with
        | some ei => (esz = ei.size ∧ okB l h len) ∧ K (.sl id (off + offB l * esz) (lenB l h len) esz (match h with | none => full | some _ => false))
        | none => False
      | _ => False
    | .ptr id off => match T t with
      | some ⟨.arr n e, _, _, _, _⟩ => match T e, H id with
        | some ei, some cs => (off + n * ei.size ≤ cs.length ∧ okB l h n) ∧ K (.sl id (off + offB l * ei.size) (lenB l h n) ei.size (match h with | none => true | some _ => false))
        | _, _ => False
      | _ => False
    | .rop cs => match T t with
      | some ⟨.arr n e, _, _, _, _⟩ => match T e with
        | some ei => (n * ei.size ≤ cs.length ∧ okB l h n) ∧ K (.ro (lenB l h n) (cutB (cs.take (n * ei.size)) l h ei.size))
        | none => False
      | _ => False
    | _ => False
  | _, _ => False

theorem ro_cut {E : Env} {cs : List AV} {b off : Nat} (h : RepM E cs b off) (l hh : Option Int) (sz : Nat) : RepM E (cutB cs l hh sz) b (off + offB l * sz) :=
  repM_of_get _ _ _ fun j x hx => by
    obtain ⟨u, h1, h2⟩ := repM_get _ _ _ h _ x (cutB_get cs l hh sz j x hx)
    exact ⟨u, by rw [Nat.add_assoc]; exact h1, h2⟩

theorem slice_addr (b o m l k : Nat) (hm : m ≠ l) : (if m = l then (some (⟨b, o, none⟩ : Addr)) else (some (⟨b, o, none⟩ : Addr)).map (·.add k)) = some ⟨b, o + k, none⟩ := by
  rw [if_neg hm]; simp [addr_add]

theorem cutB_str (s : ByteArray) (l h : Option Int) (ok : okB l h s.size) : bytesOf (s.extract (offB l) (endB h s.size)) = cutB (bytesOf s) l h 1 := by
  have hlen := length_bytesOf s
  have e : bytesOf (s.extract (offB l) (endB h s.size)) = ((bytesOf s).drop (offB l)).take (endB h s.size - offB l) := by
    unfold bytesOf
    rw [Go.Lib.extract_data, List.map_take, List.map_drop]
  rw [e]
  cases l <;> cases h <;> simp only [okB] at ok <;> simp only [offB, endB, cutB, Nat.mul_one, List.drop_zero, Nat.sub_zero]
  · rw [← hlen, List.take_length]
  · apply List.take_of_length_le; simp [hlen]

set_option maxHeartbeats 1000000 in
theorem sliceP_sound {P : Program} {T : Types} (hT : TOK P T) {Z : Nat → Prop} {E : Env} {H : Heap} {nx : Nat} (hr : HeapRep Z E H nx) {t : TypeId} {X : AV} {lo hi : Option AV} {v : Value} {lv hv : Option Value}
    {K : AV → Prop} (hx : RepV E X v) (hl : RepO E lo lv) (hh : RepO E hi hv) (h : sliceP T H t X lo hi K) :
    ∃ x r, K x ∧ (∀ w, (Instr.sliceAt t v lv hv none).run P w = .ok r w) ∧ RepV E x r := by
  unfold sliceP at h
  split at h
  case h_2 => exact h.elim
  rename_i l hb il ih
  split at h
  · rename_i s
    split at h
    · rename_i a b z sg ht
      obtain ⟨d, hd, ho, _⟩ := (hT t _ ht).und
      have ho' : d = .string := ho
      subst ho'
      obtain ⟨ok, hk⟩ := h
      simp only [RepV] at hx
      obtain ⟨ba, rfl, rfl⟩ := hx
      rw [length_bytesOf] at ok
      refine ⟨_, .string (ba.extract (offB l) (endB hb ba.size)), hk, fun w => ?_, ?_⟩
      · have := run_bounds (P := P) hl hh il ih false ba.size ba.size (Nat.le_refl _) ok w
        simp [Instr.sliceAt, Instr.slice, run_underlying hd, this]
      · simp only [RepV]; exact ⟨_, rfl, cutB_str ba l hb ok⟩
    · exact h.elim
  · split at h
    · rename_i e a b z sg ht
      obtain ⟨d, hd, ho, _⟩ := (hT t _ ht).und
      have ho' : d = .slice e := ho
      subst ho'
      split at h
      · rename_i ei he
        have hs := fun w => run_sizeOf (hT e _ he) w
        obtain ⟨ok, hk⟩ := h
        simp only [RepV] at hx
        subst hx
        obtain ⟨h1, h2⟩ := okB_le ok
        have ho1 : offB l = 0 := by omega
        have ho2 : endB hb 0 = 0 := by omega
        refine ⟨_, .slice none 0 0, hk, fun w => ?_, by simp only [RepV]⟩
        have hbd := run_bounds (P := P) hl hh il ih true 0 0 (Nat.le_refl _) ok w
        rw [ho1, ho2] at hbd
        simp only [Instr.sliceAt, Sem.run_bind, run_underlying hd, Result.andThen_ok, Instr.slice, hbd]
        simp [hs]
      · exact h.elim
    · exact h.elim
  · rename_i len cs
    split at h
    · rename_i e a b z sg ht
      obtain ⟨d, hd, ho, _⟩ := (hT t _ ht).und
      have ho' : d = .slice e := ho
      subst ho'
      split at h
      · rename_i ei he
        have hs := fun w => run_sizeOf (hT e _ he) w
        obtain ⟨⟨hcl, ok⟩, hk⟩ := h
        simp only [RepV] at hx
        obtain ⟨ao, cap, rfl, hlc, hc⟩ := hx
        obtain ⟨h1, h2⟩ := okB_le ok
        refine ⟨_, .slice (if cap = offB l then ao else ao.map (·.add (offB l * ei.size))) (endB hb len - offB l) (cap - offB l), hk, fun w => ?_, ?_⟩
        · have hbd := run_bounds (P := P) hl hh il ih true len cap hlc ok w
          simp only [Instr.sliceAt, Sem.run_bind, run_underlying hd, Result.andThen_ok, Instr.slice, hbd, hs, Sem.run_pure]
        · simp only [RepV]
          refine ⟨_, _, by rw [lenB_eq], by rw [lenB_eq]; omega, ?_⟩
          rcases hc with rfl | ⟨bb, off, rfl, hV, hm⟩
          · left
            cases l <;> cases hb <;> simp [cutB]
          · by_cases hcap : cap = offB l
            · left
              have hlen0 : lenB l hb len = 0 := by rw [lenB_eq]; omega
              have := cutB_length cs l hb ei.size len hcl ok
              rw [hlen0, Nat.zero_mul] at this
              exact List.length_eq_zero_iff.1 this
            · right
              exact ⟨bb, off + offB l * ei.size, by rw [if_neg hcap]; simp [addr_add], hV, ro_cut hm l hb ei.size⟩
      · exact h.elim
    · exact h.elim
  · rename_i id off len esz full
    split at h
    · rename_i e a b z sg ht
      obtain ⟨d, hd, ho, _⟩ := (hT t _ ht).und
      have ho' : d = .slice e := ho
      subst ho'
      split at h
      · rename_i ei he
        have hs := fun w => run_sizeOf (hT e _ he) w
        obtain ⟨⟨hes, ok⟩, hk⟩ := h
        subst hes
        simp only [RepV] at hx
        obtain ⟨ao, cap, rfl, hlc, hf, hc⟩ := hx
        obtain ⟨h1, h2⟩ := okB_le ok
        refine ⟨_, .slice (if cap = offB l then ao else ao.map (·.add (offB l * ei.size))) (endB hb len - offB l) (cap - offB l), hk, fun w => ?_, ?_⟩
        · have hbd := run_bounds (P := P) hl hh il ih true len cap hlc ok w
          simp only [Instr.sliceAt, Sem.run_bind, run_underlying hd, Result.andThen_ok, Instr.slice, hbd, hs, Sem.run_pure]
        · simp only [RepV]
          refine ⟨_, _, by rw [lenB_eq], by rw [lenB_eq]; omega, ?_, ?_⟩
          · intro hfull
            rw [lenB_eq]
            cases hb with
            | none => simp only [endB]; have := hf hfull; omega
            | some x => simp at hfull
          · by_cases hcap : cap = offB l
            · left; omega
            · right
              rcases hc with rfl | ⟨n, c, e', fr, hn, rfl, hh', hs'⟩
              · omega
              · refine ⟨n, c, e', fr, hn, by rw [if_neg hcap]; simp [addr_add], hh', ?_⟩
                rw [Nat.sub_mul]
                have : offB l * ei.size ≤ cap * ei.size := Nat.mul_le_mul_right _ (by omega)
                omega
      · exact h.elim
    · exact h.elim
  · rename_i id off
    split at h
    · rename_i n e a b z sg ht
      obtain ⟨d, hd, ho, _⟩ := (hT t _ ht).und
      have ho' : d = .array n e := ho
      subst ho'
      split at h
      · rename_i ei cs he hcs
        have hs := fun w => run_sizeOf (hT e _ he) w
        obtain ⟨⟨hsz, ok⟩, hk⟩ := h
        simp only [RepV] at hx
        obtain ⟨m, hm, rfl⟩ := hx
        obtain ⟨h1, h2⟩ := okB_le ok
        refine ⟨_, .slice (some (if n = offB l then (⟨m, off, none⟩ : Addr) else Addr.add ⟨m, off, none⟩ (offB l * ei.size))) (endB hb n - offB l) (n - offB l), hk, fun w => ?_, ?_⟩
        · have hbd := run_bounds (P := P) hl hh il ih false n n (Nat.le_refl _) ok w
          simp only [Instr.sliceAt, Sem.run_bind, run_underlying hd, Result.andThen_ok, Instr.sureAddr, hbd, hs, Sem.run_pure]
        · simp only [RepV]
          refine ⟨_, _, by rw [lenB_eq], by rw [lenB_eq]; omega, ?_, ?_⟩
          · intro hfull
            rw [lenB_eq]
            cases hb with
            | none => simp only [endB]
            | some x => simp at hfull
          · by_cases hcap : n = offB l
            · left; omega
            · right
              rcases hr.blk id cs hcs with ⟨h0, _⟩ | ⟨m', hm', c, e', fr, b1, b2, b3, b4⟩
              · rw [hm] at h0; cases h0
              · obtain rfl : m = m' := by rw [hm] at hm'; injection hm'
                refine ⟨m, c, e', fr, hm, by rw [if_neg hcap, addr_add], b1, ?_⟩
                rw [Nat.sub_mul]
                have : offB l * ei.size ≤ n * ei.size := Nat.mul_le_mul_right _ (by omega)
                omega
      · exact h.elim
    · exact h.elim
  · rename_i cs
    split at h
    · rename_i n e a b z sg ht
      obtain ⟨d, hd, ho, _⟩ := (hT t _ ht).und
      have ho' : d = .array n e := ho
      subst ho'
      split at h
      · rename_i ei he
        have hs := fun w => run_sizeOf (hT e _ he) w
        obtain ⟨⟨hsz, ok⟩, hk⟩ := h
        simp only [RepV] at hx
        obtain ⟨bb, off, rfl, hc⟩ := hx
        obtain ⟨h1, h2⟩ := okB_le ok
        refine ⟨_, .slice (some (if n = offB l then (⟨bb, off, none⟩ : Addr) else Addr.add ⟨bb, off, none⟩ (offB l * ei.size))) (endB hb n - offB l) (n - offB l), hk, fun w => ?_, ?_⟩
        · have hbd := run_bounds (P := P) hl hh il ih false n n (Nat.le_refl _) ok w
          simp only [Instr.sliceAt, Sem.run_bind, run_underlying hd, Result.andThen_ok, Instr.sureAddr, hbd, hs, Sem.run_pure]
        · simp only [RepV]
          refine ⟨_, _, by rw [lenB_eq], by rw [lenB_eq]; omega, ?_⟩
          have hcl : (cs.take (n * ei.size)).length = n * ei.size := by simp; omega
          have hcut := cutB_length (cs.take (n * ei.size)) l hb ei.size n hcl ok
          by_cases hcap : n = offB l
          · left
            have hlen0 : lenB l hb n = 0 := by rw [lenB_eq]; omega
            rw [hlen0, Nat.zero_mul] at hcut
            exact List.length_eq_zero_iff.1 hcut
          · rcases hc with rfl | ⟨hV, hm⟩
            · left
              cases l <;> cases hb <;> simp [cutB]
            · right
              refine ⟨bb, off + offB l * ei.size, by rw [if_neg hcap, addr_add], hV, ro_cut ?_ l hb ei.size⟩
              exact repM_of_get _ _ _ fun j x hx => by
                by_cases hj : j < n * ei.size
                · rw [List.getElem?_take_of_lt hj] at hx; exact repM_get _ _ _ hm j x hx
                · rw [List.getElem?_eq_none (by simp; omega)] at hx; cases hx
      · exact h.elim
    · exact h.elim
  · exact h.elim

end Go.Proofs.Ytaefmhdpfmpijaa.Abs
