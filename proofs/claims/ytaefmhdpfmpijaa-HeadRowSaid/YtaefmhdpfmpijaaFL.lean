/- append, copy, make: sound. -/
import Derived.Test.YtaefmhdpfmpijaaFK
set_option linter.unusedVariables false
set_option linter.unusedSimpArgs false
namespace Go.Proofs.Ytaefmhdpfmpijaa.Abs
open Go

/-- The second operand is a slice or a string (not the length of a fused make). -/
def srcTy (T : Types) (t : TypeId) : Bool :=
  match T t with
  | some ⟨.slice _, _, _, _, _⟩ => true
  | some ⟨.str, _, _, _, _⟩ => true
  | _ => false

def appendP (T : Types) (H : Heap) (nx : Nat) (t tx : TypeId) (B X : AV) (K : AV → Heap → Nat → Prop) : Prop :=
  match T t with
  | some ⟨.slice e, _, _, _, _⟩ => match T e with
    | some ei => cond (srcTy T tx && !isTop ei.zero && Nat.ble 1 ei.bytes && Nat.ble ei.bytes 1048576) (srcP H ei.size X fun n src => src.all AV.one = true ∧ match B with
      | .nil => (n * ei.bytes ≤ limB) ∧ forceSz ei.size fun sz => K (.sl nx 0 n sz false) (setH H nx (some src)) (nx + 1)
      | .sl id off len es full => match H id with
        | some cs => match full with
          | false => (off = 0 ∧ es = ei.size ∧ cs.length = len * es ∧ (len + n) * ei.bytes ≤ limB) ∧ K (.sl nx 0 (len + n) es false) (setH (setH H id none) nx (some (cs ++ src))) (nx + 1)
          | true => (es = ei.size ∧ off + len * es ≤ cs.length ∧ (len = 0 ∨ 0 < n) ∧ (len + n) * ei.bytes ≤ limB) ∧ K (.sl nx 0 (len + n) es false) (setH H nx (some ((cs.drop off).take (len * es) ++ src))) (nx + 1)
        | none => False
      | _ => False) False
    | none => False
  | _ => False

theorem srcTy_zeros {P : Program} {T : Types} (hT : TOK P T) {t : TypeId} (h : srcTy T t = true) (w : World) :
    ∃ d, P.underlying t = some d ∧ ∀ k, d ≠ .int k := by
  unfold srcTy at h
  split at h
  · rename_i e a b z sg ht
    obtain ⟨d, hd, ho, _⟩ := (hT t _ ht).und
    have ho' : d = .slice e := ho
    subst ho'
    exact ⟨_, hd, fun k => by simp⟩
  · rename_i a b z sg ht
    obtain ⟨d, hd, ho, _⟩ := (hT t _ ht).und
    have ho' : d = .string := ho
    subst ho'
    exact ⟨_, hd, fun k => by simp⟩
  · cases h

/-- Nothing is appended beyond the room: the row itself is written. -/
theorem run_append_in {P : Program} {t tx ty e : TypeId} {d : TypeDesc} {size : Nat} (ht : P.underlying t = some (.slice e)) (hs : ∀ w, (sizeOf e).run P w = .ok size w)
    (hx : P.underlying tx = some d) (hd : ∀ k, d ≠ .int k) {base : Option Addr} {len cap n : Nat} {x : Value} {w w' : World} {vs : Array Value}
    (hlen : (Builtin.lenOf x).run P w = .ok n w) (hc : (Builtin.firstCells size n x).run P w = .ok vs w) (hroom : len + n ≤ cap)
    (hst : ∀ a, base = some a → (storeCells (a.add (len * size)) vs.toList).run P w = .ok () w') (hno : base = none → w' = w) :
    (Builtin.append_ #[t, tx] ty #[.slice base len cap, x]).run P w = .ok (.slice base (len + n) cap) w' := by
  have hz : (match (generalizing := false) d with | .int _ => true | _ => false) = false := by cases d <;> first | rfl | exact absurd rfl (hd _)
  cases base with
  | none =>
    obtain rfl := hno rfl
    simp [Builtin.append_, run_underlying ht, run_underlying hx, hs, hz, hlen, hroom, hc]
  | some a => simp [Builtin.append_, run_underlying ht, run_underlying hx, hs, hz, hlen, hroom, hc, hst a rfl]

/-- A new row is made. -/
theorem run_append_new {P : Program} {t tx ty e : TypeId} {d : TypeDesc} {f : TypeInfo} {z : Value} (ht : P.underlying t = some (.slice e)) (hf : P.info? e = some f) (hfz : f.zero = some z)
    (hx : P.underlying tx = some d) (hd : ∀ k, d ≠ .int k) {base : Option Addr} {len cap n : Nat} {x : Value} {w : World} {vs us : Array Value}
    (hlen : ∀ w, (Builtin.lenOf x).run P w = .ok n w) (hroom : ¬ len + n ≤ cap) (hb : 0 < f.bytes) (hb2 : f.bytes ≤ 1048576) (hlim : (len + n) * f.bytes ≤ limB)
    (ho : (Builtin.firstCells f.size len (.slice base len cap)).run P { w with drawn := w.drawn + 1 } = .ok us { w with drawn := w.drawn + 1 })
    (hc : (Builtin.firstCells f.size n x).run P { w with drawn := w.drawn + 1 } = .ok vs { w with drawn := w.drawn + 1 }) :
    ∃ newCap, len + n ≤ newCap ∧ (Builtin.append_ #[t, tx] ty #[.slice base len cap, x]).run P w =
      ((newRow e (us ++ vs ++ Builtin.zeroCells z.cells (newCap - (len + n)))).run P { w with drawn := w.drawn + 1 }).andThen fun a w' => .ok (.slice (some a) (len + n) newCap) w' := by
  have hz : (match (generalizing := false) d with | .int _ => true | _ => false) = false := by cases d <;> first | rfl | exact absurd rfl (hd _)
  have h1 : ¬ (9223372036854775807 < (len : Int) + (n : Int) ∧ f.bytes = 0) := by
    intro h; omega
  have h2 : ¬ (2 ^ 48 < Builtin.nextslicecap (len + n) cap * f.bytes) := by
    have := nextcap_le (len + n) cap (by omega)
    have h3 : Builtin.nextslicecap (len + n) cap * f.bytes ≤ (2 * (len + n) + 4096) * f.bytes := Nat.mul_le_mul_right _ this
    have h4 : (2 * (len + n) + 4096) * f.bytes = 2 * ((len + n) * f.bytes) + 4096 * f.bytes := by rw [Nat.add_mul, Nat.mul_assoc]
    unfold limB at hlim
    omega
  refine ⟨(Question.appendCap (len + n) cap e).cut (w.tape w.drawn (.appendCap (len + n) cap e)), by simp [Question.cut], ?_⟩
  have hs : ∀ w, (sizeOf e).run P w = .ok f.size w := fun w => by simp [sizeOf, typeInfo, hf]
  have hti : ∀ w, (typeInfo e).run P w = .ok f w := fun w => by simp [typeInfo, hf]
  have hzv : ∀ w, (zeroValue e).run P w = .ok z w := fun w => by simp [zeroValue, typeInfo, hf, hfz]
  have hask : ∀ k w, (askRoom k).run P w = .ok () w := fun k w => by unfold askRoom; split <;> simp [mark, Sem.run]
  simp only [Builtin.append_, run_underlying ht, run_underlying hx, hs, hti, hzv, hz, hlen, hroom, Sem.run_bind, Result.andThen_ok, Sem.run_pure, List.getElem?_toArray, List.getElem?_cons_zero, List.getElem?_cons_succ,
    Bool.false_eq_true, if_false, ite_false, false_and, false_or, Bool.not_false, if_true]
  rw [if_neg (by simp only [IntKind.max_i64]; omega)]
  simp only [Sem.run_bind, hti, Result.andThen_ok]
  rw [if_neg h2]
  have hch : ∀ q : Question, q.forced = false → ∀ w : World, (choose q).run P w = .ok (q.cut (w.tape w.drawn q)) { w with drawn := w.drawn + 1 } := fun q hq w => by simp [choose, Sem.run, hq]
  simp only [Sem.run_bind, hch _ (show (Question.appendCap (len + n) cap e).forced = false from rfl), Result.andThen_ok, hti, hask, ho, hc, hzv, Sem.run_pure]

/-- A block of one's own is given up: what reads it may stay. -/
theorem HeapRep.drop {Z : Nat → Prop} {E : Env} {H : Heap} {nx : Nat} (h : HeapRep Z E H nx) (id : Nat) :
    ∃ E', E'.w = E.w ∧ E'.ρ = E.ρ ∧ Later E E' ∧ HeapRep Z E' (setH H id none) nx ∧ (∀ b, Wr E'.ρ (setH H id none) b → Wr E.ρ H b) ∧ (∀ n, H id ≠ none → E.ρ id = some n → ¬ E'.V n) := by
  let E' : Env := { E with V := fun b => Z b ∨ Wr E.ρ (setH H id none) b }
  have hwr : ∀ b, Wr E.ρ (setH H id none) b → Wr E.ρ H b := by
    rintro b ⟨i, es, h1, h2⟩
    by_cases hi : i = id
    · subst hi; rw [setH_same] at h1; cases h1
    · rw [setH_ne _ _ hi] at h1; exact ⟨i, es, h1, h2⟩
  have L : Later E E' := ⟨rfl, fun _ _ h => h, Nat.le_refl _, fun _ c _ _ hh => ⟨c, hh, rfl⟩, fun _ _ _ => rfl, fun b _ hb => (h.V b).2 (hb.imp (fun x => x) (hwr b))⟩
  have hne : ∀ i, setH H id none i ≠ none → H i ≠ none ∧ i ≠ id := fun i hi => by
    by_cases he : i = id
    · subst he; rw [setH_same] at hi; exact absurd rfl hi
    · rw [setH_ne _ _ he] at hi; exact ⟨hi, he⟩
  refine ⟨E', rfl, rfl, L, ⟨fun i es hh => ?_, fun i i' n h1 h2 h3 h4 => h.inj i i' n (hne i h1).1 (hne i' h2).1 h3 h4, fun b => Iff.rfl, fun i n h1 h2 => h.apart i n (hne i h1).1 h2, fun i hh => ?_, h.one, h.old, h.zold, h.tab.later L⟩, hwr, fun n hi hn hv => ?_⟩
  · by_cases he : i = id
    · subst he; rw [setH_same] at hh; cases hh
    · rw [setH_ne _ _ he] at hh
      rcases h.blk i es hh with h0 | ⟨m, hm, hb⟩
      · exact .inl h0
      · exact .inr ⟨m, hm, h.blk_later L hm hb rfl⟩
  · by_cases he : i = id
    · subst he; exact ⟨(h.fresh i hh).1, setH_same _ _ _⟩
    · rw [setH_ne _ _ he]; exact h.fresh i hh
  · rcases hv with hz | ⟨i, es, h1, h2⟩
    · exact h.apart id n hi hn hz
    · obtain ⟨k1, k2⟩ := hne i (by rw [h1]; simp)
      exact k2 (h.inj i id n k1 hi h2 hn)

theorem zeroCells_size (z : Array Value) (n : Nat) : (Builtin.zeroCells z n).size = n * z.size := size_zeroCells z n

/-- The new row of an append. -/
theorem grow_after {P : Program} {Z : Nat → Prop} {E0 E : Env} {H0 H : Heap} {nx : Nat} {e : TypeId} {us vs zs : Array Value} {cs src : List AV} {len n newCap esz : Nat}
    (hE : Later E0 E) (hev : Evo (Wr E0.ρ H0) E0.w E.w) (hw : ∀ b, b < E0.w.heap.size → Wr E.ρ H b → Wr E0.ρ H0 b) (h : HeapRep Z E H nx) (h1 : RepL E cs us.toList) (h2 : RepL E src vs.toList)
    (hc : cs.length = len * esz) (hs : src.length = n * esz) (hz : zs.size = (newCap - (len + n)) * esz) (hcap : len + n ≤ newCap) :
    ∃ a E', (newRow e (us ++ vs ++ zs)).run P E.w = .ok a E'.w ∧ After Z E0 H0 (.sl nx 0 (len + n) esz false) (setH H nx (some (cs ++ src))) (nx + 1) (.slice (some a) (len + n) newCap) E' := by
  have l1 := repL_length _ _ h1
  have l2 := repL_length _ _ h2
  simp only [Array.length_toList] at l1 l2
  obtain ⟨k1, k2, k3, k4, k5⟩ := newRow_sound (P := P) h e (us ++ vs ++ zs) (cs ++ src) (by simp; omega) (fun j x hx => by
    by_cases hj : j < cs.length
    · rw [List.getElem?_append_left hj] at hx
      obtain ⟨u, hu, hr⟩ := repL_get _ _ h1 j x hx
      rw [Array.getElem?_toList] at hu
      exact ⟨u, by rw [Array.append_assoc, Array.getElem?_append_left (by omega)]; exact hu, hr⟩
    · rw [List.getElem?_append_right (by omega)] at hx
      obtain ⟨u, hu, hr⟩ := repL_get _ _ h2 _ x hx
      rw [Array.getElem?_toList] at hu
      have hjv : j - us.size < vs.size := by
        rcases Nat.lt_or_ge (j - us.size) vs.size with h' | h'
        · exact h'
        · rw [Array.getElem?_eq_none (by omega)] at hu; cases hu
      exact ⟨u, by rw [Array.append_assoc, Array.getElem?_append_right (by omega), Array.getElem?_append_left hjv, ← l1]; exact hu, hr⟩)
  refine ⟨_, _, k1, ⟨hE.trans k2, hev.trans k3 hw, ?_, k4⟩⟩
  simp only [RepV]
  refine ⟨_, newCap, rfl, hcap, (nofun), .inr ⟨_, us ++ vs ++ zs, e, (0, 0), k5, rfl, Go.heap_alloc_new _ _, ?_⟩⟩
  simp only [Array.size_append, hz]
  have : (newCap - (len + n)) * esz + (len + n) * esz = newCap * esz := by rw [← Nat.add_mul]; congr 1; omega
  have e1 : (len + n) * esz = len * esz + n * esz := Nat.add_mul _ _ _
  omega

set_option maxHeartbeats 1000000 in
theorem appendP_sound {P : Program} {T : Types} (hT : TOK P T) {Z : Nat → Prop} {E : Env} {H : Heap} {nx : Nat} (hr : HeapRep Z E H nx) {t tx ty : TypeId} {B X : AV} {vb vx : Value} {K : AV → Heap → Nat → Prop}
    (hb : RepV E B vb) (hx : RepV E X vx) (h : appendP T H nx t tx B X K) :
    ∃ x H' nx' E' r, K x H' nx' ∧ (Builtin.append_ #[t, tx] ty #[vb, vx]).run P E.w = .ok r E'.w ∧ After Z E H x H' nx' r E' := by
  unfold appendP at h
  simp only [forceSz_eq] at h
  split at h
  case h_2 => exact h.elim
  rename_i e a1 b1 z1 sg1 ht
  obtain ⟨d, hd, hdo, _⟩ := (hT t _ ht).und
  have ho' : d = .slice e := hdo
  subst ho'
  split at h
  case h_2 => exact h.elim
  rename_i ei he
  cases hcond : (srcTy T tx && !isTop ei.zero && Nat.ble 1 ei.bytes && Nat.ble ei.bytes 1048576) with
  | false => rw [hcond] at h; exact h.elim
  | true =>
  rw [hcond] at h
  simp only [Bool.and_eq_true, Bool.not_eq_true'] at hcond
  obtain ⟨⟨⟨hsrc, hzt⟩, hb1⟩, hb2⟩ := hcond
  have hb1 := Nat.le_of_ble_eq_true hb1
  have hb2 := Nat.le_of_ble_eq_true hb2
  obtain ⟨dx, hdx, hdxn⟩ := srcTy_zeros hT hsrc E.w
  obtain ⟨f, hf, hfs, hfb, z, hfz, hzsz, hzr, _⟩ := (hT e _ he).info
  have hzr' : ∀ E, RepV E ei.zero z := hzr.resolve_left (fun e => by rw [e] at hzt; simp [isTop] at hzt)
  have hse := fun w => run_sizeOf (hT e _ he) w
  have h' := h
  simp only [cond_true] at h'
  clear h
  have hrd := hr.drawn (E.w.drawn + 1)
  have Ld := later_drawn E (E.w.drawn + 1)
  have evd : Evo (Wr E.ρ H) E.w (E.drawn (E.w.drawn + 1)).w := Evo.drawn _ _ _
  obtain ⟨n, src, ⟨hone, h⟩, hS⟩ := srcP_sound (P := P) hr hx h'
  clear h'
  obtain ⟨vs, hvs1, hvs2⟩ := hS.cells E.w.drawn
  obtain ⟨us, hus1, hus2⟩ := hS.cells (E.w.drawn + 1)
  have hus2' := RepL.later Ld _ _ hus2
  have hsc : ∀ v ∈ vs.toList, scalar v = true := repL_scalar hr.one _ _ hvs2 (by simpa using hone)
  have hz0 : ∀ k, (Builtin.zeroCells z.cells k).size = k * ei.size := fun k => by rw [zeroCells_size, hzsz]
  have hvl : vs.size = n * ei.size := by have := repL_length _ _ hvs2; rw [hS.size] at this; simpa using this.symm
  split at h
  · -- nil
    simp only [RepV] at hb
    subst hb
    by_cases hn : n = 0
    · subst hn
      have hs0 : src = [] := List.length_eq_zero_iff.1 (by rw [hS.size]; simp)
      subst hs0
      refine ⟨_, _, _, E, _, h.2, run_append_in hd hse hdx hdxn (hS.len E.w) hvs1 (by simp) (fun a ha => by cases ha) (fun _ => rfl), ⟨Later.refl E, Evo.refl _ _, ?_, hr.empty⟩⟩
      simp only [RepV]
      exact ⟨_, _, rfl, by simp, (nofun), .inl rfl⟩
    · obtain ⟨newCap, hc1, hc2⟩ := run_append_new (P := P) (ty := ty) hd hf hfz hdx hdxn (base := none) (len := 0) (cap := 0) hS.len (by omega) (by omega) (by omega) (by rw [hfb]; simpa using h.1) (us := #[]) (w := E.w)
        (by simp [Builtin.firstCells]) (by rw [hfs]; exact hus1)
      obtain ⟨a, E', k1, k2⟩ := grow_after (P := P) (e := e) (esz := ei.size) (len := 0) (n := n) (newCap := newCap) (zs := Builtin.zeroCells z.cells (newCap - (0 + n))) Ld evd (fun b _ hb => hb) hrd (us := #[]) (cs := []) (by simp [RepL]) hus2' (by simp) hS.size (hz0 _) hc1
      refine ⟨_, _, _, E', _, h.2, ?_, by simpa using k2⟩
      rw [hc2]
      have k1' := k1
      simp only [Env.drawn] at k1'
      rw [k1']
      simp
  · rename_i id off len es full
    split at h
    case h_2 => exact h.elim
    rename_i cs hcs
    simp only [RepV] at hb
    obtain ⟨ao, cap, rfl, hlc, hfull, hc⟩ := hb
    split at h
    · -- it may have room
      obtain ⟨⟨rfl, rfl, hcl, hlim⟩, hk⟩ := h
      by_cases hroom : len + n ≤ cap
      · rcases hc with rfl | ⟨m, c, e', fr, hm, rfl, hh, hs⟩
        · have hl0 : len = 0 := by omega
          have hn0 : n = 0 := by omega
          subst hl0; subst hn0
          have hs0 : src = [] := List.length_eq_zero_iff.1 (by rw [hS.size]; simp)
          have hc0 : cs = [] := List.length_eq_zero_iff.1 (by rw [hcl]; simp)
          subst hs0; subst hc0
          have hv0 : vs.toList = [] := by
            have : vs.size = 0 := by rw [hvl]; simp
            simpa using this
          obtain ⟨E', e1, L', r1, hr', hw'⟩ := hr.move (ds := []) hcs (by
            rcases hr.blk id [] hcs with h0 | ⟨m, hm, hb⟩
            · exact .inl h0
            · exact .inr ⟨m, hm, hb⟩)
          refine ⟨_, _, _, E', .slice ao 0 0, hk, ?_, ⟨L', e1 ▸ Evo.refl _ _, ?_, by simpa using hr'⟩⟩
          · rw [e1]
            exact run_append_in hd hse hdx hdxn (hS.len E.w) hvs1 (by simp) (fun a _ => by rw [hv0]; simp [storeCells]) (fun _ => rfl)
          · simp only [RepV]
            exact ⟨_, _, rfl, by simp, (nofun), .inl rfl⟩
        · have hblk : BlkOk E m cs := by
            rcases hr.blk id cs hcs with ⟨h0, _⟩ | ⟨m', hm', hb⟩
            · rw [hm] at h0; cases h0
            · obtain rfl : m = m' := by rw [hm] at hm'; injection hm'
              exact hb
          have hmul : (len + n) * ei.size ≤ cap * ei.size := Nat.mul_le_mul_right _ hroom
          have hmul2 : (len + n) * ei.size = len * ei.size + n * ei.size := Nat.add_mul _ _ _
          have hblk2 := hblk.tops src.length (fun c' e'' fr' hh' => by
            rw [hh] at hh'
            injection hh' with hh'
            injection hh' with q1 q2 q3
            subst q1
            rw [hcl, hS.size]; omega)
          obtain ⟨E1, e1, L1, r1, hr1, hw1⟩ := hr.move (ds := cs ++ List.replicate src.length .top) hcs (.inr ⟨m, hm, hblk2⟩)
          have hvs1' : RepL E1 src vs.toList := RepL.later L1 _ _ hvs2
          obtain ⟨E2, k1, k2, k3, k4⟩ := storeCells_sound (P := P) (off := len * ei.size) src vs.toList 0 E1 _ _ hr1 (setH_same _ _ _) (by rw [r1]; exact hm) (by simp; omega) hvs1' hsc
          rw [setH_twice, Nat.add_zero, setN_eq _ _ _ (by simp; omega)] at k4
          have hset : (cs ++ List.replicate src.length AV.top).take (len * ei.size) ++ src ++ (cs ++ List.replicate src.length AV.top).drop (len * ei.size + src.length) = cs ++ src := by
            rw [← hcl, List.take_left, List.drop_eq_nil_of_le (by simp), List.append_nil]
          rw [hset] at k4
          refine ⟨_, _, _, E2, .slice (some ⟨m, 0, none⟩) (len + n) cap, hk, ?_, ⟨L1.trans k2, ?_, ?_, k4⟩⟩
          · refine run_append_in hd hse hdx hdxn (hS.len E.w) hvs1 hroom (fun a ha => ?_) (fun hh => by cases hh)
            injection ha with ha
            subst ha
            rw [addr_add, Nat.zero_add, ← e1]
            exact k1
          · rw [← e1]
            exact k3.mono (fun b hb => (hw1 b).1 hb)
          · simp only [RepV]
            obtain ⟨c', hc1, hc2⟩ := (L1.trans k2).kept m c e' fr hh
            exact ⟨_, _, rfl, hroom, (nofun), .inr ⟨m, c', e', fr, k2.ρ _ _ (by rw [r1]; exact hm), rfl, hc1, by omega⟩⟩
      · -- a new row
        obtain ⟨E1, e1, r1, L1, hr1, hw1, _⟩ := hrd.drop id
        have hold : ∃ os : Array Value, (Builtin.firstCells ei.size len (.slice ao len cap)).run P { E.w with drawn := E.w.drawn + 1 } = .ok os { E.w with drawn := E.w.drawn + 1 } ∧ RepL E1 cs os.toList := by
          rcases hc with rfl | ⟨m, c, e', fr, hm, rfl, hh, hs⟩
          · have hl0 : len = 0 := by omega
            subst hl0
            have hc0 : cs = [] := List.length_eq_zero_iff.1 (by rw [hcl]; simp)
            subst hc0
            refine ⟨#[], ?_, by simp [RepL]⟩
            cases ao with
            | none => simp [Builtin.firstCells]
            | some a => simp [Builtin.firstCells, loadCells, loadCellsFrom]
          · obtain ⟨os, h1, h2⟩ := load_list (P := P) (E := E.drawn (E.w.drawn + 1)) (b := m) (off := 0) (cs := cs) (fun j x hx' => by
              rw [Nat.zero_add]; exact blk_cells hrd hcs hm j x hx')
            exact ⟨os, by simp only [Builtin.firstCells, ← hcl]; exact h1, RepL.later L1 _ _ h2⟩
        obtain ⟨os, ho1, ho2⟩ := hold
        obtain ⟨newCap, hc1, hc2⟩ := run_append_new (P := P) (ty := ty) hd hf hfz hdx hdxn (base := ao) (len := len) (cap := cap) hS.len hroom (by omega) (by omega) (by rw [hfb]; exact hlim) (us := os) (w := E.w)
          (by rw [hfs]; exact ho1) (by rw [hfs]; exact hus1)
        obtain ⟨a, E', k1, k2⟩ := grow_after (P := P) (e := e) (esz := ei.size) (len := len) (n := n) (newCap := newCap) (zs := Builtin.zeroCells z.cells (newCap - (len + n))) (E0 := E) (H0 := H) (E := E1) (Ld.trans L1) (by rw [e1]; exact evd)
          (fun b _ hb => hw1 b hb) hr1 ho2 (RepL.later L1 _ _ hus2') hcl hS.size (hz0 _) hc1
        refine ⟨_, _, _, E', _, hk, ?_, k2⟩
        rw [hc2]
        rw [e1] at k1
        simp only [Env.drawn] at k1
        rw [k1]
        simp
    · -- without room
      obtain ⟨⟨rfl, hcl, hln, hlim⟩, hk⟩ := h
      have hcap := hfull rfl
      by_cases hn : n = 0
      · subst hn
        have hl0 : len = 0 := by omega
        subst hl0
        have hs0 : src = [] := List.length_eq_zero_iff.1 (by rw [hS.size]; simp)
        subst hs0
        have hv0 : vs.toList = [] := by
          have : vs.size = 0 := by rw [hvl]; simp
          simpa using this
        subst hcap
        refine ⟨_, _, _, E, .slice ao 0 0, hk, run_append_in hd hse hdx hdxn (hS.len E.w) hvs1 (by simp) (fun a _ => by rw [hv0]; simp [storeCells]) (fun _ => rfl), ⟨Later.refl E, Evo.refl _ _, ?_, by simpa using hr.empty⟩⟩
        simp only [RepV]
        exact ⟨_, _, rfl, by simp, (nofun), .inl rfl⟩
      · have hold : ∃ os : Array Value, (Builtin.firstCells ei.size len (.slice ao len cap)).run P { E.w with drawn := E.w.drawn + 1 } = .ok os { E.w with drawn := E.w.drawn + 1 } ∧ RepL (E.drawn (E.w.drawn + 1)) ((cs.drop off).take (len * ei.size)) os.toList := by
          have hdl : ((cs.drop off).take (len * ei.size)).length = len * ei.size := by simp; omega
          rcases hc with rfl | ⟨m, c, e', fr, hm, rfl, hh, hs⟩
          · have hl0 : len = 0 := by omega
            subst hl0
            refine ⟨#[], ?_, by simp [RepL]⟩
            cases ao with
            | none => simp [Builtin.firstCells]
            | some a => simp [Builtin.firstCells, loadCells, loadCellsFrom]
          · obtain ⟨os, h1, h2⟩ := load_list (P := P) (E := E.drawn (E.w.drawn + 1)) (b := m) (off := off) (cs := (cs.drop off).take (len * ei.size)) (fun j x hx' => by
              refine blk_cells hrd hcs hm (off + j) x ?_
              by_cases hj : j < len * ei.size
              · rwa [List.getElem?_take_of_lt hj, List.getElem?_drop] at hx'
              · rw [List.getElem?_eq_none (by omega)] at hx'; cases hx')
            rw [hdl] at h1
            exact ⟨os, by simp only [Builtin.firstCells]; exact h1, h2⟩
        obtain ⟨os, ho1, ho2⟩ := hold
        obtain ⟨newCap, hc1, hc2⟩ := run_append_new (P := P) (ty := ty) hd hf hfz hdx hdxn (base := ao) (len := len) (cap := cap) hS.len (by omega) (by omega) (by omega) (by rw [hfb]; exact hlim) (us := os) (w := E.w)
          (by rw [hfs]; exact ho1) (by rw [hfs]; exact hus1)
        obtain ⟨a, E', k1, k2⟩ := grow_after (P := P) (e := e) (esz := ei.size) (len := len) (n := n) (newCap := newCap) (zs := Builtin.zeroCells z.cells (newCap - (len + n))) (E0 := E) (H0 := H) (E := E.drawn (E.w.drawn + 1)) Ld evd
          (fun b _ hb => hb) hrd ho2 hus2' (by simp; omega) hS.size (hz0 _) hc1
        refine ⟨_, _, _, E', _, hk, ?_, k2⟩
        rw [hc2]
        have k1' := k1
        simp only [Env.drawn] at k1'
        rw [k1']
        simp
  · exact h.elim

end Go.Proofs.Ytaefmhdpfmpijaa.Abs
