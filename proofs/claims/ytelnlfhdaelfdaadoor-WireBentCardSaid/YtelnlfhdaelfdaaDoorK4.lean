/- Texts GG to EL, merged. -/
import Derived.ChangeArms
import Derived.OpenShut
import Derived.WideShapes
import Derived.Test.YtelnlfhdaelfdaaDoorK3
section
set_option linter.unusedVariables false
set_option linter.unusedSimpArgs false
namespace Go.Proofs.YtelnlfhdaelfdaaDoor.Abs
open Go
def TyF (R : TypeId → List AV → Prop) : List (Nat × TypeId) → List (List AV) → Prop
  | [], ys => ys = []
  | f :: fs, ys => ∃ y r, ys = y :: r ∧ R f.2 y ∧ TyF R fs r
/-- The cells xs are those of a value of type t. -/
def TyL (T : Types) : Nat → TypeId → List AV → Prop
  | 0, _, _ => False
  | n + 1, t, xs => match T t with
    | none => False
    | some i => match i.d with
      | .int k => ∃ z, xs = [.int k z] ∧ IntKind.lo k ≤ z ∧ z ≤ IntKind.hi k
      | .bool => ∃ b, xs = [.bool b]
      | .str => ∃ s, xs = [.str s] ∧ Byt s ∧ s.length ≤ 9223372036854775807
      | .slice e => ∃ es : List (List AV), xs = [.ro es.length es.flatten] ∧ es.length ≤ 9223372036854775807 ∧ ∀ y ∈ es, TyL T n e y
      | .struct fs => ∃ ys : List (List AV), xs = ys.flatten ∧ TyF (TyL T n) fs ys
      | .arr m e => ∃ ys : List (List AV), xs = ys.flatten ∧ ys.length = m ∧ ∀ y ∈ ys, TyL T n e y
      | _ => False
def szT (T : Types) (t : TypeId) : Nat := match T t with
  | some i => i.size
  | none => 0
def tileF (T : Types) : Nat → List (Nat × TypeId) → Option Nat
  | k, [] => some k
  | k, f :: fs => match Nat.beq k f.1 with
    | true => tileF T (k + szT T f.2) fs
    | false => none
/-- A plain type, no deeper than that. -/
def tyOk (T : Types) : Nat → TypeId → Bool
  | 0, _ => false
  | n + 1, t => match T t with
    | none => false
    | some i => match i.d with
      | .int _ | .bool | .str => Nat.beq i.size 1
      | .slice e => Nat.beq i.size 1 && tyOk T n e
      | .struct fs => (match tileF T 0 fs with | some k => Nat.beq k i.size | none => false) && fs.all fun f => tyOk T n f.2
      | .arr m e => Nat.beq i.size (m * szT T e) && tyOk T n e
      | _ => false
section
variable {H : Type} {enc : TypeId × Value → H} {P : Program} {T : Types} {W : World} {base : Nat} {spare : Nat → Bool} {held : Bool}
theorem cellsOf_T (hT : TOK P T) {t : TypeId} {i : TI} (h : T t = some i) : P.cellsOf t = i.size := by
  obtain ⟨f, h1, h2, _⟩ := (hT t i h).info
  simp [Program.cellsOf, h1, h2]
theorem wf_lohi {k : IntKind} {n : Int} (h : (Lit.int k n).wf = true) : IntKind.lo k ≤ n ∧ n ≤ IntKind.hi k := by
  cases k <;> simp [Lit.wf, IntKind.min, IntKind.max, IntKind.signed, IntKind.bits, Abs.IntKind.lo, Abs.IntKind.hi] at h ⊢ <;> omega
theorem trod_int {fuel : Nat} {t : TypeId} {k : IntKind} {cs : List Value} {x : DataW H × List MemPlace} (ht : P.underlying t = some (.int k)) (h : DataW.trod enc P W base spare held fuel t cs = some x) :
    ∃ n, cs = [.int k n] ∧ (Lit.int k n).wf = true := by
  cases fuel with
  | zero => simp [DataW.trod] at h
  | succ n =>
    unfold DataW.trod at h
    rw [ht] at h
    split at h <;> simp_all
theorem trod_bool {fuel : Nat} {t : TypeId} {cs : List Value} {x : DataW H × List MemPlace} (ht : P.underlying t = some .bool) (h : DataW.trod enc P W base spare held fuel t cs = some x) :
    ∃ b, cs = [.bool b] := by
  cases fuel with
  | zero => simp [DataW.trod] at h
  | succ n =>
    unfold DataW.trod at h
    rw [ht] at h
    split at h <;> simp_all
theorem cells_get {a : Addr} {n : Nat} {cs : List Value} (h : W.cells? base a n = some cs) : cs.length = n ∧ ∀ j, j < n → W.cell? (a.add j) = cs[j]? := by
  unfold World.cells? at h
  split at h
  · have h1 := mapM_some_length h
    refine ⟨by simpa using h1, fun j hj => ?_⟩
    exact mapM_some_get h j j (by simp [hj])
  · cases h
theorem add_add (a : Addr) (i j : Nat) : (a.add i).add j = a.add (i + j) := by
  unfold Addr.add
  by_cases hi : i = 0
  · subst hi; simp
  · by_cases hj : j = 0
    · subst hj; simp [hi]
    · have : ¬ i + j = 0 := by omega
      rw [if_neg hi, if_neg hj, if_neg this]
      simp [Nat.add_assoc]
theorem spot_none {a : Addr} {v : Value} (h : W.cell? a = some v) : a.spot = none := by
  unfold World.cell? at h
  split at h
  · cases hs : a.spot with
    | none => rfl
    | some q => simp [hs] at h
  · cases h
/-- Chunks side by side. -/
theorem chunks_repL {E : Env} (sz : Nat) : ∀ (m : Nat) (xss : List (List AV)) (cs : List Value), xss.length = m → cs.length = m * sz →
    (∀ i x, xss[i]? = some x → RepL E x ((cs.drop (i * sz)).take sz)) → RepL E xss.flatten cs
  | 0, xss, cs, h1, h2, h3 => by
    obtain rfl := List.length_eq_zero_iff.1 h1
    have : cs = [] := List.length_eq_zero_iff.1 (by omega)
    subst this
    simp [RepL]
  | m + 1, xss, cs, h1, h2, h3 => by
    cases xss with
    | nil => simp at h1
    | cons x xss =>
      have h0 := h3 0 x rfl
      simp only [Nat.zero_mul, List.drop_zero] at h0
      have ih := chunks_repL (E := E) sz m xss (cs.drop sz) (by simpa using h1) (by simp [h2, Nat.add_mul]) (fun i y hy => by
        have := h3 (i + 1) y (by simpa using hy)
        rw [List.drop_drop]
        rwa [show sz + i * sz = (i + 1) * sz by rw [Nat.add_mul]; omega])
      have := repL_append h0 ih
      rw [List.take_append_drop] at this
      simpa using this
theorem repM_of_repL {E : Env} {b off : Nat} : ∀ (xs : List AV) (cs : List Value), RepL E xs cs → (∀ j u, cs[j]? = some u → E.w.cell? ⟨b, off + j, none⟩ = some u) → RepM E xs b off
  | [], cs, _, _ => by simp [RepM]
  | x :: xs, cs, h, hc => by
    simp only [RepL] at h
    obtain ⟨u, us, rfl, h1, h2⟩ := h
    simp only [RepM]
    refine ⟨⟨u, by simpa using hc 0 u rfl, h1⟩, ?_⟩
    have aux : ∀ (off' : Nat), off' = off + 1 → RepM E xs b off' := by
      intro off' e
      subst e
      exact repM_of_repL xs us h2 fun j v hv => by
        have := hc (j + 1) v (by simpa using hv)
        rwa [show off + 1 + j = off + (j + 1) by omega]
    exact aux _ rfl
theorem choose_list {α : Type} {Q : Nat → α → Prop} : ∀ (n : Nat), (∀ i, i < n → ∃ x, Q i x) → ∃ l : List α, l.length = n ∧ ∀ i x, l[i]? = some x → Q i x
  | 0, _ => ⟨[], rfl, fun i x h => by simp at h⟩
  | n + 1, h => by
    obtain ⟨l, h1, h2⟩ := choose_list n (fun i hi => h i (by omega))
    obtain ⟨x, hx⟩ := h n (by omega)
    refine ⟨l ++ [x], by simp [h1], fun i y hy => ?_⟩
    rcases Nat.lt_or_ge i l.length with hi | hi
    · rw [List.getElem?_append_left hi] at hy; exact h2 i y hy
    · rw [List.getElem?_append_right hi] at hy
      have hin : i = n := by
        have := (List.getElem?_eq_some_iff.1 hy).1
        simp at this
        omega
      subst hin
      rw [h1] at hy
      simp at hy
      subst hy
      exact hx
theorem fields_open (n : Nat) (ih : ∀ (f : Nat) (t : TypeId) (cs : List Value) (x : DataW H × List MemPlace), tyOk T n t = true → DataW.trod enc P W base spare held f t cs = some x → ∃ xs, RepL (env0 W) xs cs ∧ TyL T n t xs)
    (hT : TOK P T) {fuel : Nat} {cs : List Value} : ∀ (fs : List Field) (k e : Nat), tileF T k (fs.map fun f => (f.offset, f.type)) = some e → (∀ f ∈ fs, tyOk T n f.type = true) →
      (∀ f ∈ fs, ∃ y, DataW.trod enc P W base spare held fuel f.type ((cs.drop f.offset).take (P.cellsOf f.type)) = some y) → cs.length = e →
      k ≤ e ∧ ∃ ys : List (List AV), RepL (env0 W) ys.flatten (cs.drop k) ∧ TyF (TyL T n) (fs.map fun f => (f.offset, f.type)) ys
  | [], k, e, ht, _, _, hl => by
    simp only [List.map_nil, tileF, Option.some.injEq] at ht
    subst ht
    refine ⟨Nat.le_refl _, [], ?_, rfl⟩
    rw [List.drop_of_length_le (by omega)]
    simp [RepL]
  | f :: fs, k, e, ht, ho, hd, hl => by
    simp only [List.map_cons, tileF] at ht
    split at ht
    case h_2 => cases ht
    rename_i hb
    obtain rfl := Nat.eq_of_beq_eq_true hb
    have hk := ho f (by simp)
    obtain ⟨y, hy⟩ := hd f (by simp)
    obtain ⟨xs, hr, hx⟩ := ih _ _ _ _ hk hy
    obtain ⟨h1, ys, h2, h3⟩ := fields_open n ih hT fs _ e ht (fun g hg => ho g (by simp [hg])) (fun g hg => hd g (by simp [hg])) hl
    have hsz : P.cellsOf f.type = szT T f.type := by
      unfold szT
      cases hTt : T f.type with
      | none => cases n <;> simp [tyOk, hTt] at hk
      | some i => exact cellsOf_T hT hTt
    rw [hsz] at hr
    refine ⟨by omega, xs :: ys, ?_, ⟨xs, ys, rfl, hx, h3⟩⟩
    have := repL_append hr h2
    rw [← List.drop_drop, List.take_append_drop] at this
    simpa using this
theorem open_any (hT : TOK P T) : ∀ (n f : Nat) (t : TypeId) (cs : List Value) (x : DataW H × List MemPlace), tyOk T n t = true → DataW.trod enc P W base spare held f t cs = some x →
    ∃ xs, RepL (env0 W) xs cs ∧ TyL T n t xs
  | 0, f, t, cs, x, ho, _ => by simp [tyOk] at ho
  | n + 1, f, t, cs, x, ho, h => by
    simp only [tyOk] at ho
    split at ho
    · cases ho
    rename_i i hi
    obtain ⟨d, hu, hd, _⟩ := (hT t i hi).und
    have hc := cellsOf_T hT hi
    simp only [TyL, hi]
    cases hid : i.d with
    | int k =>
      rw [hid] at hd
      have hd' : d = .int k := hd
      subst hd'
      obtain ⟨z, rfl, hz⟩ := trod_int hu h
      exact ⟨[.int k z], by simp [RepL, RepV], z, rfl, wf_lohi hz⟩
    | bool =>
      rw [hid] at hd
      have hd' : d = .bool := hd
      subst hd'
      obtain ⟨b, rfl⟩ := trod_bool hu h
      exact ⟨[.bool b], by simp [RepL, RepV], b, rfl⟩
    | str =>
      rw [hid] at hd
      have hd' : d = .string := hd
      subst hd'
      obtain ⟨s, rfl, _, hs⟩ := DataW.trod_string hu h
      refine ⟨[.str (bytesOf s)], by simp [RepL, RepV], bytesOf s, rfl, ?_, ?_⟩
      · intro y hy
        simp only [bytesOf, List.mem_map] at hy
        obtain ⟨u, _, rfl⟩ := hy
        have := u.toNat_lt
        omega
      · have : s.size = s.data.size := rfl
        simp only [bytesOf, List.length_map, Array.length_toList]
        simp only [maxLen] at hs
        omega
    | slice e =>
      rw [hid] at hd ho
      have hd' : d = .slice e := hd
      subst hd'
      simp only [Bool.and_eq_true] at ho
      rcases DataW.trod_slice hu h with ⟨rfl, _⟩ | ⟨a, len, cap, elems, rest, m, _, rfl, _, hb, hl, hm, hlen, hel, _, _⟩
      · exact ⟨[.ro 0 []], by simp only [RepL]; exact ⟨_, _, rfl, by simp only [RepV]; exact ⟨none, 0, rfl, Nat.le_refl _, .inl trivial⟩, rfl⟩, [], rfl, by simp, by simp⟩
      have each : ∀ j, j < len → ∃ q : List AV × List Value, (W.cells? base (a.add (j * P.cellsOf e)) (P.cellsOf e) = some q.2 ∧ RepL (env0 W) q.1 q.2) ∧ TyL T n e q.1 := by
        intro j hj
        have := hel j hj
        rw [List.getElem?_eq_getElem (by omega), Option.bind_eq_some_iff] at this
        obtain ⟨vs, hv, ht⟩ := this
        obtain ⟨xs, h1, h2⟩ := open_any hT n m e vs _ ho.2 ht
        exact ⟨(xs, vs), ⟨hv, h1⟩, h2⟩
      obtain ⟨qs, hq1, hq2⟩ := choose_list len each
      refine ⟨[.ro (qs.map (·.1)).length (qs.map (·.1)).flatten], ?_, qs.map (·.1), rfl, by simp only [List.length_map, hq1]; simp only [maxLen] at hm; omega, ?_⟩
      · simp only [RepL]
        refine ⟨_, _, rfl, ?_, rfl⟩
        simp only [RepV]
        refine ⟨some a, cap, by simp [hq1], by simp [hq1, hl], ?_⟩
        by_cases hz : (qs.map (·.1)).flatten = []
        · exact .inl hz
        right
        -- there is a cell
        have hsp : a.spot = none := by
          apply Classical.byContradiction
          intro hne
          apply hz
          have hall : ∀ q ∈ qs, q.1 = [] := by
            intro q hqm
            obtain ⟨j, hj, rfl⟩ := List.mem_iff_getElem.1 hqm
            obtain ⟨⟨k1, k2⟩, _⟩ := hq2 j _ (List.getElem?_eq_getElem hj)
            obtain ⟨g1, g2⟩ := cells_get k1
            cases hxs : qs[j].1 with
            | nil => rfl
            | cons y ys =>
              rw [hxs] at k2
              have hlen2 := repL_length _ _ k2
              simp only [List.length_cons] at hlen2
              -- the first element's first cell stands at a itself
              have hpos : 0 < P.cellsOf e := by omega
              have h0 : 0 < qs.length := by omega
              obtain ⟨⟨k1', k2'⟩, _⟩ := hq2 0 _ (List.getElem?_eq_getElem h0)
              obtain ⟨g1', g2'⟩ := cells_get k1'
              have := g2' 0 hpos
              rw [List.getElem?_eq_getElem (by omega)] at this
              have hs := spot_none this
              simp [Addr.add] at hs
              exact absurd hs hne
          have : ∀ l ∈ qs.map (·.1), l = [] := by
            intro l hl
            obtain ⟨q, hq, rfl⟩ := List.mem_map.1 hl
            exact hall q hq
          exact List.flatten_eq_nil_iff.2 this
        obtain ⟨blk, off, spot⟩ := a
        simp only at hsp
        subst hsp
        refine ⟨blk, off, rfl, fun hf => hf, ?_⟩
        have hL : RepL (env0 W) (qs.map (·.1)).flatten (qs.map (·.2)).flatten := by
          clear hz hq1
          have key : ∀ (qs : List (List AV × List Value)), (∀ q ∈ qs, RepL (env0 W) q.1 q.2) → RepL (env0 W) (qs.map (·.1)).flatten (qs.map (·.2)).flatten := by
            intro qs
            induction qs with
            | nil => intro _; simp [RepL]
            | cons q qs ih => intro hq; simp only [List.map_cons, List.flatten_cons]; exact repL_append (hq q (by simp)) (ih fun r hr => hq r (by simp [hr]))
          refine key qs fun q hqm => ?_
          obtain ⟨j, hj, rfl⟩ := List.mem_iff_getElem.1 hqm
          exact (hq2 j _ (List.getElem?_eq_getElem hj)).1.2
        refine repM_of_repL _ _ hL ?_
        -- the cells of all elements, side by side
        have key2 : ∀ (qs : List (List AV × List Value)) (s : Nat), (∀ j q, qs[j]? = some q → q.2.length = P.cellsOf e ∧ ∀ i u, q.2[i]? = some u → (env0 W).w.cell? ⟨blk, off + ((s + j) * P.cellsOf e + i), none⟩ = some u) →
            ∀ j u, (qs.map (·.2)).flatten[j]? = some u → (env0 W).w.cell? ⟨blk, off + (s * P.cellsOf e + j), none⟩ = some u := by
          intro qs
          induction qs with
          | nil => intro s _ j u hu; simp at hu
          | cons q qs ih =>
            intro s hq j u hu
            simp only [List.map_cons, List.flatten_cons] at hu
            have h0 := hq 0 q rfl
            rcases Nat.lt_or_ge j q.2.length with hj | hj
            · rw [List.getElem?_append_left hj] at hu
              have := h0.2 j u hu
              rwa [Nat.add_zero] at this
            · rw [List.getElem?_append_right hj] at hu
              have := ih (s + 1) (fun j' q' hq' => by
                have := hq (j' + 1) q' (by simpa using hq')
                rwa [show s + (j' + 1) = s + 1 + j' by omega] at this) _ u hu
              rw [h0.1] at this hj
              rwa [show (s + 1) * P.cellsOf e + (j - P.cellsOf e) = s * P.cellsOf e + j by rw [Nat.add_mul]; omega] at this
        intro j u hu
        have := key2 qs 0 (fun j q hq => by
          obtain ⟨⟨k1, k2⟩, _⟩ := hq2 j q hq
          obtain ⟨g1, g2⟩ := cells_get k1
          refine ⟨g1, fun i u hu => ?_⟩
          have hi : i < P.cellsOf e := by rw [← g1]; exact (List.getElem?_eq_some_iff.1 hu).1
          have := g2 i hi
          rw [hu, add_add, addr_add] at this
          rw [Nat.zero_add]
          exact this) j u hu
        rwa [Nat.zero_mul, Nat.zero_add] at this
      · intro y hy
        obtain ⟨q, hqm, rfl⟩ := List.mem_map.1 hy
        obtain ⟨j, hj, rfl⟩ := List.mem_iff_getElem.1 hqm
        exact (hq2 j _ (List.getElem?_eq_getElem hj)).2
    | struct fs =>
      rw [hid] at hd ho
      have hd' : ∃ a, d = .struct a ∧ a.toList.map (fun f => (f.offset, f.type)) = fs := hd
      obtain ⟨a, rfl, rfl⟩ := hd'
      simp only [Bool.and_eq_true] at ho
      obtain ⟨ys, m, _, _, hcl, hyl, hf⟩ := DataW.trod_struct hu h
      obtain ⟨ho1, ho2⟩ := ho
      split at ho1
      case h_2 => cases ho1
      rename_i e he
      have hes := Nat.eq_of_beq_eq_true ho1
      obtain ⟨_, zs, h1, h2⟩ := fields_open n (fun f t cs x a b => open_any hT n f t cs x a b) hT (fuel := m) (cs := cs) a.toList 0 e he (fun g hg => by
          simp only [List.all_map, List.all_eq_true] at ho2
          exact ho2 g hg) (fun g hg => by
          obtain ⟨j, hj, rfl⟩ := List.mem_iff_getElem.1 hg
          have hj' : j < a.size := by simpa using hj
          have := hf j a[j] (by simp [hj'])
          rw [List.getElem?_eq_getElem (by omega)] at this
          exact ⟨_, by simpa using this⟩) (by omega)
      rw [List.drop_zero] at h1
      exact ⟨zs.flatten, h1, zs, rfl, h2⟩
    | arr m e =>
      rw [hid] at hd ho
      have hd' : d = .array m e := hd
      subst hd'
      simp only [Bool.and_eq_true] at ho
      obtain ⟨ys, q, _, _, hcl, hyl, hf⟩ := DataW.trod_array hu h
      have hes := Nat.eq_of_beq_eq_true ho.1
      have hsz : P.cellsOf e = szT T e := by
        unfold szT
        cases hTt : T e with
        | none => cases n <;> simp [tyOk, hTt] at ho
        | some i => exact cellsOf_T hT hTt
      have each : ∀ j, j < m → ∃ x : List AV, RepL (env0 W) x ((cs.drop (j * szT T e)).take (szT T e)) ∧ TyL T n e x := by
        intro j hj
        have := hf j hj
        rw [List.getElem?_eq_getElem (by omega)] at this
        obtain ⟨xs, h1, h2⟩ := open_any hT n q e _ _ ho.2 this
        rw [hsz] at h1
        exact ⟨xs, h1, h2⟩
      obtain ⟨qs, hq1, hq2⟩ := choose_list m each
      refine ⟨qs.flatten, chunks_repL (szT T e) m qs cs hq1 (by omega) (fun j x hx => (hq2 j x hx).1), qs, rfl, hq1, fun y hy => ?_⟩
      obtain ⟨j, hj, rfl⟩ := List.mem_iff_getElem.1 hy
      exact (hq2 j _ (List.getElem?_eq_getElem hj)).2
    | ptr e => rw [hid] at ho; cases ho
    | other => rw [hid] at ho; cases ho
end
end Go.Proofs.YtelnlfhdaelfdaaDoor.Abs
end
section
set_option linter.unusedVariables false
set_option linter.unusedSimpArgs false
namespace Go.Proofs.YtelnlfhdaelfdaaDoor.Abs
open Go
attribute [local irreducible] ifB fitP Does Weaker
theorem frzL_app {i : Nat} {zs : List AV} : ∀ a b : List AV, frzL i zs (a ++ b) = frzL i zs a ++ frzL i zs b
  | [], b => rfl
  | x :: a, b => by simp [frzL, frzL_app a b]
theorem frzL_bys {i : Nat} {zs : List AV} : ∀ l : List Int, frzL i zs (bys l) = bys l
  | [] => rfl
  | x :: l => congrArg (AV.int .u8 x :: ·) (frzL_bys l)
theorem frzL_toks {i : Nat} {zs : List AV} : ∀ l : List Tok, frzL i zs (toksC l) = toksC l
  | [] => rfl
  | t :: l => by simp [toksC, frzL, frzV, frzL_toks l]
theorem encR_len {u : List Int → Bool} {l : List Tok} {a : List Int} (h : encR u l = (a, 0)) : a.length ≤ 32768 := (encR_yes h).2.2
theorem pureL_app : ∀ a b : List AV, pureL (a ++ b) = (pureL a && pureL b)
  | [], b => by simp [pureL]
  | x :: a, b => by simp [pureL, pureL_app a b, Bool.and_assoc]
theorem ones_toks : ∀ l : List Tok, (toksC l).all AV.one = true
  | [] => rfl
  | t :: l => by simp [toksC, ones_toks l, AV.one]
/-- Cells of bytes. -/
theorem bytes_of_ty {T : Types} {n : Nat} {e : TypeId} (hk : ∃ i, T e = some i ∧ i.d = .int .u8) : ∀ (es : List (List AV)), (∀ y ∈ es, TyL T n e y) → ∃ l : List Int, es.flatten = bys l ∧ l.length = es.length ∧ Byt l
  | [], _ => ⟨[], rfl, rfl, by simp [Byt]⟩
  | y :: es, h => by
    obtain ⟨l, h1, h2, h3⟩ := bytes_of_ty hk es (fun z hz => h z (by simp [hz]))
    have hy := h y (by simp)
    obtain ⟨i, hi, hd⟩ := hk
    cases n with
    | zero => exact hy.elim
    | succ n =>
      simp only [TyL, hi, hd] at hy
      obtain ⟨z, rfl, z1, z2⟩ := hy
      refine ⟨z :: l, by simp [h1, bys], by simp [h2], fun x hx => ?_⟩
      simp only [IntKind.lo, IntKind.hi] at z1 z2
      rcases List.mem_cons.1 hx with rfl | hx
      · exact ⟨z1, by omega⟩
      · exact h3 x hx
theorem bytes_of_slice {n : Nat} {xs : List AV} (h : TyL TT (n + 2) 38 xs) : ∃ l : List Int, xs = [.ro l.length (bys l)] ∧ (Byt l ∧ l.length ≤ 9223372036854775807) := by
  obtain ⟨es, rfl, hl, he⟩ := h
  obtain ⟨l, h1, h2, h3⟩ := bytes_of_ty ⟨_, show TT 5 = some _ from rfl, rfl⟩ es he
  exact ⟨l, by simp [h1, h2], h3, by omega⟩
theorem rep_agg {E : Env} {xs : List AV} {vs : Array Value} (h : RepL E xs (Value.agg vs).cells.toList) : RepV E (.agg xs) (.agg vs) := by
  simp only [RepV]
  exact ⟨vs, rfl, h⟩
end Go.Proofs.YtelnlfhdaelfdaaDoor.Abs
end
section
set_option linter.unusedVariables false
set_option linter.unusedSimpArgs false
namespace Go.Proofs.YtelnlfhdaelfdaaDoor.Abs
open Go
def rLoop (g : Nat → Option (Nat × List Int)) (mp : Bool) : Nat → Nat → Nat → List Int → List Int → Option (Nat × List Int)
  | 0, _, at', b, _ => some (at', b)
  | n + 1, i, at', b, last =>
    match g at' with
    | none => none
    | some (a, x) =>
      if 32768 < b.length + x.length then none
      else if mp = true ∧ i % 2 = 0 then
        if 0 < i ∧ (bytesLt x last || decide (x = last)) = true then none else rLoop g mp n (i + 1) a (b ++ x) x
      else rLoop g mp n (i + 1) a (b ++ x) last
def rBad (t : Tok) : Prop := ((t.k = 3 ∨ t.k = 4) ∧ t.n ≠ 0) ∨ (¬ (t.k = 3 ∨ t.k = 4) ∧ 0 < t.b.length) ∨ t.n < 0
instance (t : Tok) : Decidable (rBad t) := by unfold rBad; infer_instance
/-- An item from a token on: where the next one is, the bytes; f: how deep arrays may still be. -/
def rItem (u : List Int → Bool) (l : List Tok) : Nat → Nat → Option (Nat × List Int)
  | f, at' =>
    if h : l.length ≤ at' then none
    else
      let t := l[at']'(by omega)
      if rBad t then none
      else if t.k = 1 then some (at' + 1, putL 0 t.n)
      else if t.k = 2 then some (at' + 1, putL 1 t.n)
      else if t.k = 3 then some (at' + 1, putL 2 t.b.length ++ t.b)
      else if t.k = 4 then if u t.b = true then some (at' + 1, putL 3 t.b.length ++ t.b) else none
      else if t.k = 5 ∨ t.k = 6 then
        match f with
        | 0 => none
        | f + 1 =>
          if 64 < t.n then none
          else if t.k = 6 then rLoop (rItem u l f) true (2 * t.n.toNat) 0 (at' + 1) (putL 5 t.n) []
          else rLoop (rItem u l f) false t.n.toNat 0 (at' + 1) (putL 4 t.n) []
      else none
theorem lt_tri : ∀ (a b : List Int), (bytesLt a b || decide (a = b)) = !bytesLt b a
  | [], [] => by simp [bytesLt]
  | [], _ :: _ => by simp [bytesLt]
  | _ :: _, [] => by simp [bytesLt]
  | x :: a, y :: b => by
    have ih := lt_tri a b
    simp only [bytesLt]
    by_cases h1 : x < y
    · have h2 : ¬ y < x := by omega
      have h3 : ¬ y = x := by omega
      simp [h1, h2, h3]
    · by_cases h2 : y < x
      · have h3 : ¬ x = y := by omega
        simp [h1, h2, h3]
      · obtain rfl : x = y := by omega
        simpa using ih
theorem cmp_ge {a b : List Int} : decide (0 ≤ cmpI a b) = !bytesLt a b := by
  unfold cmpI
  cases bytesLt a b with
  | true => simp
  | false => by_cases h : a = b <;> simp [h]
/-- What a loop goes over. -/
theorem rLoop_grow {g : Nat → Option (Nat × List Int)} {mp : Bool} : ∀ (n i at' : Nat) (b last : List Int) (a : Nat) (bs : List Int), rLoop g mp n i at' b last = some (a, bs) → b <+: bs
  | 0, i, at', b, last, a, bs, h => by
    simp only [rLoop, Option.some.injEq, Prod.mk.injEq] at h
    rw [h.2]
    exact List.prefix_refl _
  | n + 1, i, at', b, last, a, bs, h => by
    unfold rLoop at h
    split at h
    · cases h
    rename_i a' x hg
    split at h
    · cases h
    split at h
    · split at h
      · cases h
      · exact (List.prefix_append _ _).trans (rLoop_grow n _ _ _ _ _ _ h)
    · exact (List.prefix_append _ _).trans (rLoop_grow n _ _ _ _ _ _ h)
/-- A step of the writer that does what a step of the reckoning does. -/
def Fits (W' : W → W) (g : Nat → Option (Nat × List Int)) : Prop :=
  ∀ (at' : Nat) (out : List Int) (a : Nat) (bs : List Int), g at' = some (a, bs) → out.length + bs.length ≤ 32768 → W' ⟨at', out, false⟩ = ⟨a, out ++ bs, false⟩
theorem arr_fits {w : W → W} {g : Nat → Option (Nat × List Int)} (H : Fits w g) : ∀ (n i at' : Nat) (out b last : List Int) (a : Nat) (bs : List Int), rLoop g false n i at' b last = some (a, bs) → out.length + bs.length ≤ 32768 →
    wArr w n ⟨at', out ++ b, false⟩ = ⟨a, out ++ bs, false⟩
  | 0, i, at', out, b, last, a, bs, h, hl => by
    simp only [rLoop, Option.some.injEq, Prod.mk.injEq] at h
    rw [h.1, h.2]
    rfl
  | n + 1, i, at', out, b, last, a, bs, h, hl => by
    unfold rLoop at h
    split at h
    · cases h
    rename_i a' x hg
    split at h
    · cases h
    rw [if_neg (by simp)] at h
    have hp := (rLoop_grow _ _ _ _ _ _ _ h).length_le
    simp only [List.length_append] at hp
    have e := H at' (out ++ b) a' x hg (by simp; omega)
    rw [wArr, if_neg (by simp), e, List.append_assoc]
    exact arr_fits H n _ _ out (b ++ x) last a bs h hl
theorem map_fits {w : W → W} {g : Nat → Option (Nat × List Int)} (H : Fits w g) : ∀ (n i at' : Nat) (out b last : List Int) (from' to' : Nat) (a : Nat) (bs : List Int), rLoop g true (2 * n) (2 * i) at' b last = some (a, bs) → out.length + bs.length ≤ 32768 →
    (0 < i → to' ≤ (out ++ b).length ∧ last = ((out ++ b).drop from').take (to' - from')) → wMap w n i from' to' ⟨at', out ++ b, false⟩ = ⟨a, out ++ bs, false⟩
  | 0, i, at', out, b, last, from', to', a, bs, h, hl, _ => by
    simp only [Nat.mul_zero, rLoop, Option.some.injEq, Prod.mk.injEq] at h
    rw [h.1, h.2]
    rfl
  | n + 1, i, at', out, b, last, from', to', a, bs, h, hl, hk => by
    rw [show 2 * (n + 1) = 2 * n + 1 + 1 by omega] at h
    unfold rLoop at h
    split at h
    · cases h
    rename_i a' x hg
    split at h
    · cases h
    rw [if_pos ⟨rfl, by omega⟩] at h
    split at h
    · cases h
    rename_i hlt
    unfold rLoop at h
    split at h
    · cases h
    rename_i a2 y hg2
    split at h
    · cases h
    rw [if_neg (by omega)] at h
    have hp := (rLoop_grow _ _ _ _ _ _ _ h).length_le
    simp only [List.length_append] at hp
    have e := H at' (out ++ b) a' x hg (by simp; omega)
    have e2 := H a' (out ++ b ++ x) a2 y hg2 (by simp; omega)
    have hcond : ¬ (((w ⟨at', out ++ b, false⟩).bad || (decide (0 < i) && decide (0 ≤ cmpI (((w ⟨at', out ++ b, false⟩).out.drop from').take (to' - from')) ((w ⟨at', out ++ b, false⟩).out.drop (out ++ b).length)))) = true) := by
      rw [e]
      simp only [Bool.false_or]
      by_cases hi : 0 < i
      · obtain ⟨k1, k2⟩ := hk hi
        have d1 : ((out ++ b ++ x).drop from').take (to' - from') = last := by
          rw [k2]
          by_cases hf : from' ≤ (out ++ b).length
          · rw [List.drop_append_of_le_length hf, List.take_append_of_le_length (by simp; simp at k1; omega)]
          · rw [show to' - from' = 0 by omega]; simp
        have d2 : (out ++ b ++ x).drop (out ++ b).length = x := by simp
        rw [d1, d2, cmp_ge]
        have : ¬ (bytesLt x last || decide (x = last)) = true := fun hh => hlt ⟨by omega, hh⟩
        rw [lt_tri] at this
        simpa [hi] using this
      · simp [hi]
    rw [wMap, if_neg (by simp), if_neg hcond, e, e2]
    have hout : out ++ b ++ x ++ y = out ++ (b ++ x ++ y) := by simp [List.append_assoc]
    simp only
    rw [hout]
    refine map_fits H n (i + 1) a2 out (b ++ x ++ y) x _ _ a bs (by rw [show 2 * (i + 1) = 2 * i + 1 + 1 by omega]; exact h) hl (fun _ => ⟨?_, ?_⟩)
    · simp
    · rw [show out ++ (b ++ x ++ y) = out ++ b ++ (x ++ y) by simp [List.append_assoc], List.drop_left, show (out ++ b ++ x).length - (out ++ b).length = x.length by simp; omega]
      simp
theorem wHead_yes {M n : Int} (hM : 0 ≤ M ∧ M < 8) (hn : 0 ≤ n) (at' : Nat) (out : List Int) : wHead M n ⟨at', out, false⟩ = ⟨at', out ++ putL M n, false⟩ := by
  simp only [wHead, putS]
  rw [if_neg (by omega)]
  simp
theorem item_fits1 (u : List Int → Bool) (l : List Tok) (f : Nat) (ih : ∀ f', f = f' + 1 → Fits (wItem u l f') (rItem u l f')) : Fits (wItem u l f) (rItem u l f) := by
    intro at' out a bs h hl
    unfold rItem at h
    split at h
    · cases h
    rename_i hat
    simp only at h
    split at h
    · cases h
    rename_i hbad
    have hat' : at' < l.length := by omega
    have hb : ∀ t : Tok, ¬ rBad t → (t.k = 3 ∨ t.k = 4 → t.n = 0) ∧ (¬ (t.k = 3 ∨ t.k = 4) → t.b = []) ∧ 0 ≤ t.n := by
      intro t ht
      simp only [rBad] at ht
      exact ⟨by omega, fun hk => List.length_eq_zero_iff.1 (by omega), by omega⟩
    obtain ⟨hb1, hb2, hb3⟩ := hb _ hbad
    unfold wItem
    rw [dif_neg (show ¬ (l.length ≤ (⟨at', out, false⟩ : W).at' ∨ 32768 < (⟨at', out, false⟩ : W).out.length) by simp only; omega)]
    simp only
    split at h
    · rename_i k1
      rw [if_pos k1]
      simp only [Option.some.injEq, Prod.mk.injEq] at h
      obtain ⟨rfl, rfl⟩ := h
      rw [wNumber, hb2 (by omega)]
      simp only [List.length_nil, Int.natCast_zero, Int.lt_irrefl, decide_false, Bool.or_false]
      exact wHead_yes (by omega) hb3 _ _
    rename_i k1; rw [if_neg k1]
    split at h
    · rename_i k2
      rw [if_pos k2]
      simp only [Option.some.injEq, Prod.mk.injEq] at h
      obtain ⟨rfl, rfl⟩ := h
      rw [wNumber, hb2 (by omega)]
      simp only [List.length_nil, Int.natCast_zero, Int.lt_irrefl, decide_false, Bool.or_false]
      exact wHead_yes (by omega) hb3 _ _
    rename_i k2; rw [if_neg k2]
    split at h
    · rename_i k3
      rw [if_pos (.inl k3)]
      simp only [Option.some.injEq, Prod.mk.injEq] at h
      obtain ⟨rfl, rfl⟩ := h
      simp only [List.length_append] at hl
      have n4 : ¬ l[at'].k = 4 := by omega
      rw [wBytes, if_neg (by simp [n4, hb1 (.inl k3)]; omega), if_neg n4]
      rw [wHead_yes (by omega) (by omega)]
      simp
    rename_i k3
    split at h
    · rename_i k4
      rw [if_pos (.inr k4)]
      split at h
      case isFalse => cases h
      rename_i hu
      simp only [Option.some.injEq, Prod.mk.injEq] at h
      obtain ⟨rfl, rfl⟩ := h
      simp only [List.length_append] at hl
      rw [wBytes, if_neg (by simp [k4, hu, hb1 (.inr k4)]; omega), if_pos k4]
      rw [wHead_yes (by omega) (by omega)]
      simp
    rename_i k4
    rw [if_neg (by omega)]
    split at h
    case isFalse => cases h
    rename_i k5
    rw [if_pos k5]
    cases f with
    | zero => cases h
    | succ f =>
      simp only at h ⊢
      split at h
      · cases h
      rename_i hn
      rw [if_neg (by simp [wManyBad, hb2 (by omega)]; omega)]
      have ih := ih f rfl
      split at h
      · rename_i k6
        rw [if_neg (by omega), wHead_yes (by omega) hb3]
        exact map_fits ih _ 0 _ out _ [] 0 0 a bs h hl (fun hh => absurd hh (by omega))
      · rename_i k6
        rw [if_pos (by omega), wHead_yes (by omega) hb3]
        exact arr_fits ih _ 0 _ out _ [] a bs h hl
theorem item_fits (u : List Int → Bool) (l : List Tok) : ∀ f : Nat, Fits (wItem u l f) (rItem u l f)
  | 0 => item_fits1 u l 0 (fun f' h => by omega)
  | f + 1 => item_fits1 u l (f + 1) (fun f' h => by obtain rfl : f = f' := by omega
                                                    exact item_fits u l f)
/-- And the other way round. -/
def Back (W' : W → W) (g : Nat → Option (Nat × List Int)) : Prop :=
  ∀ (w : W), (W' w).bad = false → (W' w).out.length ≤ 32768 → ∃ bs, (W' w).out = w.out ++ bs ∧ g w.at' = some ((W' w).at', bs)
theorem arr_back {w : W → W} {g : Nat → Option (Nat × List Int)} (hm : Mono w) (H : Back w g) : ∀ (n i : Nat) (v : W) (out b last : List Int), v.out = out ++ b → (wArr w n v).bad = false → (wArr w n v).out.length ≤ 32768 →
    ∃ bs, (wArr w n v).out = out ++ bs ∧ rLoop g false n i v.at' b last = some ((wArr w n v).at', bs)
  | 0, i, v, out, b, last, hv, h1, h2 => ⟨b, hv, rfl⟩
  | n + 1, i, v, out, b, last, hv, h1, h2 => by
    have hb := (wArr_mono w hm (n + 1) v h1).1
    rw [wArr, if_neg (by simp [hb])] at h1 h2 ⊢
    obtain ⟨k1, k2⟩ := wArr_mono w hm n _ h1
    have k3 := k2.length_le
    obtain ⟨x, hx, hg⟩ := H v k1 (by omega)
    obtain ⟨bs, e1, e2⟩ := arr_back hm H n (i + 1) (w v) out (b ++ x) last (by rw [hx, hv, List.append_assoc]) h1 h2
    refine ⟨bs, e1, ?_⟩
    rw [hx, hv] at k3
    simp only [List.length_append] at k3
    unfold rLoop
    rw [hg]
    simp only
    rw [if_neg (by omega), if_neg (by simp)]
    exact e2
theorem map_back {w : W → W} {g : Nat → Option (Nat × List Int)} (hm : Mono w) (H : Back w g) : ∀ (n i : Nat) (v : W) (out b last : List Int) (from' to' : Nat), v.out = out ++ b →
    (0 < i → to' ≤ (out ++ b).length ∧ last = ((out ++ b).drop from').take (to' - from')) → (wMap w n i from' to' v).bad = false → (wMap w n i from' to' v).out.length ≤ 32768 →
    ∃ bs, (wMap w n i from' to' v).out = out ++ bs ∧ rLoop g true (2 * n) (2 * i) v.at' b last = some ((wMap w n i from' to' v).at', bs)
  | 0, i, v, out, b, last, from', to', hv, hk, h1, h2 => ⟨b, hv, rfl⟩
  | n + 1, i, v, out, b, last, from', to', hv, hk, h1, h2 => by
    have hb := (wMap_mono w hm (n + 1) i from' to' v h1).1
    rw [wMap, if_neg (by simp [hb])] at h1 h2 ⊢
    split at h1
    · simp at h1
    rename_i hc
    rw [if_neg hc] at h2 ⊢
    obtain ⟨k1, k2⟩ := wMap_mono w hm n _ _ _ _ h1
    obtain ⟨k3, k4⟩ := hm _ k1
    have k5 := k2.length_le
    have k6 := k4.length_le
    obtain ⟨x, hx, hg⟩ := H v k3 (by omega)
    obtain ⟨y, hy, hg2⟩ := H (w v) k1 (by omega)
    have hvl : v.out.length = (out ++ b).length := by rw [hv]
    obtain ⟨bs, e1, e2⟩ := map_back hm H n (i + 1) (w (w v)) out (b ++ x ++ y) x v.out.length (w v).out.length (by rw [hy, hx, hv]; simp [List.append_assoc]) (fun _ => ⟨by rw [hx, hv]; simp, by
      rw [hx, hv, show out ++ (b ++ x ++ y) = out ++ b ++ (x ++ y) by simp [List.append_assoc], List.drop_left, show (out ++ b ++ x).length - (out ++ b).length = x.length by simp; omega]
      simp⟩) h1 h2
    refine ⟨bs, e1, ?_⟩
    have hlt : ¬ (0 < 2 * i ∧ (bytesLt x last || decide (x = last)) = true) := by
      rintro ⟨q1, q2⟩
      obtain ⟨p1, p2⟩ := hk (by omega)
      apply hc
      rw [k3, Bool.false_or, hx, hv]
      have d1 : ((out ++ b ++ x).drop from').take (to' - from') = last := by
        rw [p2]
        by_cases hf : from' ≤ (out ++ b).length
        · rw [List.drop_append_of_le_length hf, List.take_append_of_le_length (by simp; simp at p1; omega)]
        · rw [show to' - from' = 0 by omega]; simp
      have d2 : (out ++ b ++ x).drop (out ++ b).length = x := by simp
      rw [d1, d2, cmp_ge]
      rw [lt_tri] at q2
      simp only [Bool.not_eq_true'] at q2
      simp [q2]
      omega
    have k7 : (w (w v)).out.length ≤ 32768 := by omega
    rw [hy, hx, hv] at k7
    simp only [List.length_append] at k7
    rw [show 2 * (n + 1) = 2 * n + 1 + 1 by omega]
    unfold rLoop
    rw [hg]
    simp only
    rw [if_neg (by omega), if_pos ⟨trivial, by omega⟩, if_neg hlt]
    unfold rLoop
    rw [hg2]
    simp only
    rw [if_neg (by simp; omega), if_neg (by omega)]
    rw [show 2 * i + 1 + 1 = 2 * (i + 1) by omega]
    exact e2
theorem item_back1 (u : List Int → Bool) (l : List Tok) (f : Nat) (ih : ∀ f', f = f' + 1 → Back (wItem u l f') (rItem u l f')) : Back (wItem u l f) (rItem u l f) := by
    intro w h hl
    have hw := (wItem_mono u l f w h).1
    obtain ⟨at', out, bad⟩ := w
    simp only at hw
    subst hw
    unfold wItem at h hl ⊢
    split at h
    · simp at h
    rename_i hh
    rw [dif_neg hh] at hl ⊢
    simp only at hh h hl ⊢
    have hat : ¬ l.length ≤ at' := by omega
    unfold rItem
    rw [dif_neg hat]
    simp only
    have num : ∀ (M : Int) (t : Tok), 0 ≤ M ∧ M < 8 → ¬ (t.k = 3 ∨ t.k = 4) → (wNumber M t ⟨at' + 1, out, false⟩).bad = false → ¬ rBad t ∧ wNumber M t ⟨at' + 1, out, false⟩ = ⟨at' + 1, out ++ putL M t.n, false⟩ := by
      intro M t hM hk hn
      unfold wNumber at hn ⊢
      obtain ⟨q1, q2, q3⟩ := wHead_ok hn hM
      simp only [Bool.false_or, decide_eq_false_iff_not] at q3
      refine ⟨by simp only [rBad]; omega, by rw [q2]⟩
    split at h
    · rename_i k1
      rw [if_pos k1] at hl ⊢
      obtain ⟨q1, q2⟩ := num 0 _ (by omega) (by omega) h
      rw [q2, if_neg q1, if_pos k1]
      exact ⟨_, rfl, rfl⟩
    rename_i k1; rw [if_neg k1] at hl ⊢
    split at h
    · rename_i k2
      rw [if_pos k2] at hl ⊢
      obtain ⟨q1, q2⟩ := num 1 _ (by omega) (by omega) h
      rw [q2, if_neg q1, if_neg k1, if_pos k2]
      exact ⟨_, rfl, rfl⟩
    rename_i k2; rw [if_neg k2] at hl ⊢
    split at h
    · rename_i k3
      rw [if_pos k3] at hl ⊢
      obtain ⟨q1, q2, q3, q4⟩ := wBytes_ok h
      have nb : ¬ rBad l[at'] := by simp only [rBad]; omega
      rw [q4, if_neg nb, if_neg k1, if_neg k2]
      by_cases k4 : l[at'].k = 4
      · rw [if_neg (show ¬ l[at'].k = 3 by omega), if_pos k4, if_pos k4, if_pos (q3 k4)]
        exact ⟨_, by simp, rfl⟩
      · rw [if_pos (show l[at'].k = 3 by omega), if_neg k4]
        exact ⟨_, by simp, rfl⟩
    rename_i k3; rw [if_neg k3] at hl ⊢
    split at h
    case isFalse => simp at h
    rename_i k5
    rw [if_pos k5] at hl ⊢
    cases f with
    | zero => simp at h
    | succ f =>
      simp only at h hl ⊢
      split at h
      · simp at h
      rename_i hb
      rw [if_neg hb] at hl ⊢
      have ih := ih f rfl
      have hmo := wItem_mono u l f
      have hb' : l[at'].b.length = 0 ∧ 0 ≤ l[at'].n ∧ ¬ 64 < l[at'].n := by
        simp only [wManyBad, Bool.or_eq_true, decide_eq_true_eq, not_or] at hb
        omega
      have nb : ¬ rBad l[at'] := by simp only [rBad]; omega
      rw [if_neg nb, if_neg k1, if_neg k2, if_neg (show ¬ l[at'].k = 3 by omega), if_neg (show ¬ l[at'].k = 4 by omega), if_pos k5, if_neg hb'.2.2]
      split at h
      · rename_i k6
        rw [if_pos k6] at hl ⊢
        rw [if_neg (show ¬ l[at'].k = 6 by omega)]
        rw [wHead_yes (by omega) hb'.2.1] at h hl ⊢
        exact arr_back hmo ih _ 0 _ out _ [] rfl h hl
      · rename_i k6
        rw [if_neg k6] at hl ⊢
        rw [if_pos (show l[at'].k = 6 by omega)]
        rw [wHead_yes (by omega) hb'.2.1] at h hl ⊢
        exact map_back hmo ih _ 0 _ out _ [] 0 0 rfl (fun hh => absurd hh (by omega)) h hl
theorem item_back (u : List Int → Bool) (l : List Tok) : ∀ f : Nat, Back (wItem u l f) (rItem u l f)
  | 0 => item_back1 u l 0 (fun f' h => by omega)
  | f + 1 => item_back1 u l (f + 1) (fun f' h => by obtain rfl : f = f' := by omega
                                                    exact item_back u l f)
/-- What a row's bytes are, by the reckoning. -/
theorem encR_iff (u : List Int → Bool) (l : List Tok) (a : List Int) : encR u l = (a, 0) ↔ l.length ≤ 600 ∧ rItem u l 6 0 = some (l.length, a) ∧ a.length ≤ 32768 := by
  constructor
  · intro h
    obtain ⟨h1, h2, h3⟩ := encR_yes h
    obtain ⟨bs, e1, e2⟩ := item_back u l 6 ⟨0, [], false⟩ (by rw [h2]) (by rw [h2]; exact h3)
    rw [h2] at e1 e2
    simp only [List.nil_append] at e1
    subst e1
    exact ⟨h1, e2, h3⟩
  · rintro ⟨h1, h2, h3⟩
    have := item_fits u l 6 0 [] l.length a h2 (by simpa using h3)
    unfold encR
    rw [if_neg (by omega), this]
    simp
    omega
end Go.Proofs.YtelnlfhdaelfdaaDoor.Abs
end
section
set_option linter.unusedVariables false
set_option linter.unusedSimpArgs false
namespace Go.Proofs.YtelnlfhdaelfdaaDoor.Abs
open Go
/-- On goes every step. -/
def Gos (g : Nat → Option (Nat × List Int)) (L : Nat) : Prop := ∀ k a x, g k = some (a, x) → k < a ∧ a ≤ L ∧ 0 < x.length
theorem rLoop_go {g : Nat → Option (Nat × List Int)} {mp : Bool} {L : Nat} (H : Gos g L) : ∀ (n i at' : Nat) (b last : List Int) (a : Nat) (bs : List Int), rLoop g mp n i at' b last = some (a, bs) → at' + n ≤ a ∧ (at' ≤ L → a ≤ L) ∧ b.length + n ≤ bs.length
  | 0, i, at', b, last, a, bs, h => by
    simp only [rLoop, Option.some.injEq, Prod.mk.injEq] at h
    rw [h.1, h.2]
    exact ⟨Nat.le_refl _, fun h => h, Nat.le_refl _⟩
  | n + 1, i, at', b, last, a, bs, h => by
    unfold rLoop at h
    split at h
    · cases h
    rename_i a1 x hg
    obtain ⟨q1, q2, q3⟩ := H _ _ _ hg
    have fin : ∀ lst, rLoop g mp n (i + 1) a1 (b ++ x) lst = some (a, bs) → at' + (n + 1) ≤ a ∧ (at' ≤ L → a ≤ L) ∧ b.length + (n + 1) ≤ bs.length := by
      intro lst hh
      obtain ⟨p1, p2, p3⟩ := rLoop_go H n _ _ _ _ _ _ hh
      simp only [List.length_append] at p3
      exact ⟨by omega, fun _ => p2 q2, by omega⟩
    split at h
    · cases h
    split at h
    · split at h
      · cases h
      · exact fin _ h
    · exact fin _ h
theorem putL_pos (M n : Int) : 0 < (putL M n).length := by simp [putL]
theorem rItem_go (u : List Int → Bool) (l : List Tok) : ∀ f : Nat, Gos (rItem u l f) l.length
  | 0 => fun k a x h => by
    unfold rItem at h
    split at h
    · cases h
    simp only at h
    have p0 := putL_pos
    split at h
    · cases h
    split at h
    · simp only [Option.some.injEq, Prod.mk.injEq] at h; obtain ⟨rfl, rfl⟩ := h; exact ⟨by omega, by omega, p0 _ _⟩
    split at h
    · simp only [Option.some.injEq, Prod.mk.injEq] at h; obtain ⟨rfl, rfl⟩ := h; exact ⟨by omega, by omega, p0 _ _⟩
    split at h
    · simp only [Option.some.injEq, Prod.mk.injEq] at h; obtain ⟨rfl, rfl⟩ := h; exact ⟨by omega, by omega, by simp only [List.length_append]; have := p0 2 (l[k].b.length : Int); omega⟩
    split at h
    · split at h
      · simp only [Option.some.injEq, Prod.mk.injEq] at h; obtain ⟨rfl, rfl⟩ := h; exact ⟨by omega, by omega, by simp only [List.length_append]; have := p0 3 (l[k].b.length : Int); omega⟩
      · cases h
    split at h
    · cases h
    · cases h
  | f + 1 => fun k a x h => by
    unfold rItem at h
    split at h
    · cases h
    simp only at h
    have p0 := putL_pos
    split at h
    · cases h
    split at h
    · simp only [Option.some.injEq, Prod.mk.injEq] at h; obtain ⟨rfl, rfl⟩ := h; exact ⟨by omega, by omega, p0 _ _⟩
    split at h
    · simp only [Option.some.injEq, Prod.mk.injEq] at h; obtain ⟨rfl, rfl⟩ := h; exact ⟨by omega, by omega, p0 _ _⟩
    split at h
    · simp only [Option.some.injEq, Prod.mk.injEq] at h; obtain ⟨rfl, rfl⟩ := h; exact ⟨by omega, by omega, by simp only [List.length_append]; have := p0 2 (l[k].b.length : Int); omega⟩
    split at h
    · split at h
      · simp only [Option.some.injEq, Prod.mk.injEq] at h; obtain ⟨rfl, rfl⟩ := h; exact ⟨by omega, by omega, by simp only [List.length_append]; have := p0 3 (l[k].b.length : Int); omega⟩
      · cases h
    split at h
    · split at h
      · cases h
      have ih := rItem_go u l f
      split at h
      · obtain ⟨q1, q2, q3⟩ := rLoop_go ih _ _ _ _ _ _ _ h
        exact ⟨by omega, q2 (by omega), by have := p0 5 l[k].n; omega⟩
      · obtain ⟨q1, q2, q3⟩ := rLoop_go ih _ _ _ _ _ _ _ h
        exact ⟨by omega, q2 (by omega), by have := p0 4 l[k].n; omega⟩
    · cases h
/-- What an item is, of its token and of what stands behind. -/
def rTok (u : List Int → Bool) (g : Nat → Option (Nat × List Int)) (z : Bool) (t : Tok) (k : Nat) : Option (Nat × List Int) :=
  if rBad t then none
  else if t.k = 1 then some (k, putL 0 t.n)
  else if t.k = 2 then some (k, putL 1 t.n)
  else if t.k = 3 then some (k, putL 2 t.b.length ++ t.b)
  else if t.k = 4 then if u t.b = true then some (k, putL 3 t.b.length ++ t.b) else none
  else if t.k = 5 ∨ t.k = 6 then
    if z = true then none
    else if 64 < t.n then none
    else if t.k = 6 then rLoop g true (2 * t.n.toNat) 0 k (putL 5 t.n) []
    else rLoop g false t.n.toNat 0 k (putL 4 t.n) []
  else none
def rSub (u : List Int → Bool) (l : List Tok) : Nat → Nat → Option (Nat × List Int)
  | 0 => fun _ => none
  | f + 1 => rItem u l f
theorem rItem_tok (u : List Int → Bool) (l : List Tok) (f k : Nat) (hk : k < l.length) : rItem u l f k = rTok u (rSub u l f) (decide (f = 0)) l[k] (k + 1) := by
  cases f with
  | zero =>
    unfold rItem rTok rSub
    rw [dif_neg (by omega)]
    simp
  | succ f =>
    unfold rItem rTok rSub
    rw [dif_neg (by omega)]
    simp
theorem rItem_none (u : List Int → Bool) (l : List Tok) (f k : Nat) (hk : l.length ≤ k) : rItem u l f k = none := by
  unfold rItem
  rw [dif_pos hk]
end Go.Proofs.YtelnlfhdaelfdaaDoor.Abs
end
section
set_option linter.unusedVariables false
set_option linter.unusedSimpArgs false
namespace Go.Proofs.YtelnlfhdaelfdaaDoor.Abs
open Go
attribute [local irreducible] ifB fitP Does Weaker
def wkC (r : Option (Nat × List Int)) : List AV := match r with
  | some (a, bs) => [.int .i64 (a : Int), .own bs.length 1 (bys bs), .bool false]
  | none => [.int .i64 0, .own 0 1 [], .bool true]
def RItemOk (l : List Tok) (f : Nat) : Prop := ∀ at' : Nat, at' ≤ 1000000 → ACall Tryd.prog 106 [.ro l.length (toksC l), .int .i64 at', .int .i64 (6 - (f : Int))] (.agg (wkC (rItem validR l f at'))) []
theorem ritem_none (l : List Tok) (f : Nat) (hl : l.length ≤ 1000000) (at' : Nat) (h : l.length ≤ at') (d : Int) : ACall Tryd.prog 106 [.ro l.length (toksC l), .int .i64 at', .int .i64 d] (.agg (wkC none)) [] := by
  refine ACall.of_does TTok Tryd.func106 rfl Tryd.call106 rfl (wpc_sound (M := MC) (PL := PL0) (CU := noCut) TTok mixed _ _ _ ?_)
  conv => whnf
  repeat ((first | (refine ifB_pos (decide_eq_true (by first | omega | rfl | (dsimp only; omega))) ?_) | refine ⟨rfl, ?_⟩ | refine ⟨_, rfl, ?_⟩ | refine ⟨⟨rfl, rfl⟩, ?_⟩ | (refine ⟨⟨rfl, rfl, ?_⟩, ?_⟩; (focus (first | exact Nat.le_of_ble_eq_true rfl | (simp; done))))); conv => whnf)
  rfl
def PLri1 : Plan := (takesTo [0, 1, 2, 6] (.all [(3, (takesTo [4] (.all [(5, (.all [(7, (.all [(8, (takesTo [9] (.all [(10, .done)])))]))])), (7, (.all [(5, (.all [(8, (takesTo [9] (.all [(10, .done)])))]))]))]))), (7, (.all [(3, (takesTo [4] (.all [(5, (.all [(8, (takesTo [9] (.all [(10, .done)])))]))])))]))]))
def PLri : Nat → Bool × Plan := plans [(13, (false, PLri1)), (17, (false, PLri1))]
set_option maxHeartbeats 4000000 in
theorem ritem_at (l : List Tok) (hl : ToksOk l) (hlb : ∀ t ∈ l, t.b.length ≤ 1099511627776) (hll : l.length ≤ 1000000) (at' : Nat) (ha : at' < l.length) (f : Nat) (hf : f ≤ 6)
    (hm : (l[at'].k = 5 ∨ l[at'].k = 6) → ¬ rBad l[at'] → ACall Tryd.prog 106 [.ro l.length (toksC l), .int .i64 at', .int .i64 (6 - (f : Int))] (.agg (wkC (rItem validR l f at'))) []) :
    ACall Tryd.prog 106 [.ro l.length (toksC l), .int .i64 at', .int .i64 (6 - (f : Int))] (.agg (wkC (rItem validR l f at'))) [] := by
  have hL := pureL_toks l
  by_cases hmm : (l[at'].k = 5 ∨ l[at'].k = 6) ∧ ¬ rBad l[at']
  · exact hm hmm.1 hmm.2
  clear hm
  rw [rItem_tok _ _ _ _ ha]
  obtain ⟨t, ht⟩ : ∃ t, t = l[at'] := ⟨_, rfl⟩
  have hto : TokOk t := by rw [ht]; exact hl _ (List.getElem_mem ha)
  have htb : t.b.length ≤ 1099511627776 := by rw [ht]; exact hlb _ (List.getElem_mem ha)
  have hld : ∀ m s : Nat, m = 3 * at' → s = 3 → takeN s ((toksC l).drop m) = some (tokC t) := by
    intro m s hm hs
    rw [takeN_tok ha hm hs, ht]
  rw [← ht] at hmm ⊢
  obtain ⟨k, n, b⟩ := t
  clear ht
  simp only [rBad] at htb hmm
  replace hld : ∀ m s : Nat, m = 3 * at' → s = 3 → takeN s ((toksC l).drop m) = some [.int .i64 k, .int .i64 n, .ro b.length (bys b)] := hld
  refine ACall.of_does TTok Tryd.func106 rfl Tryd.call106 rfl (wpc_sound (M := MC) (PL := PLri) (CU := cutAt [200005]) TTok mixed _ _ _ ?_)
  conv => whnf
  repeat ((first | (refine ifB_neg (decide_eq_false (by first | omega | rfl | (dsimp only; omega))) ?_) | refine ⟨rfl, ?_⟩ | (refine ⟨⟨rfl, rfl, ?_⟩, ?_⟩; (focus (first | exact Nat.le_of_ble_eq_true rfl | (simp; done)))) | (refine ⟨⟨?_, ?_, ?_⟩, ?_⟩; (focus omega); (focus (first | omega | (simp; done) | (simp; omega))); (focus (first | (simp; done) | (simp; omega) | (rw [toksC_length]; simp; omega))))); conv => whnf)
  refine ⟨_, hld _ _ (by simp; omega) rfl, ?_⟩
  conv => whnf
  repeat ((first | refine ⟨rfl, ?_⟩ | (refine ⟨⟨rfl, rfl, ?_⟩, ?_⟩; (focus (first | exact Nat.le_of_ble_eq_true rfl | (simp; done))))); conv => whnf)
  refine Does.seqCut (α := Unit) (fun _ => mkSt [(0, .ro l.length (toksC l)), (1, .int .i64 (at' : Int)), (2, .int .i64 (6 - (f : Int))), (6, .ptr 0 0), (7, .ptr 1 0), (8, .ptr 2 0), (57, .bool (decide (rBad ⟨k, n, b⟩)))]
    [(0, [.int .i64 0, .nil, .bool false]), (1, [.int .i64 0, .nil, .bool true]), (2, [.int .i64 k, .int .i64 n, .ro b.length (bys b)])] 3 191) (fun _ => True) ?_ (fun _ _ => ?_)
  · refine wpc_sound (M := MC) (PL := PL0) (CU := noCut) TTok mixed _ _ _ ?_
    conv => whnf
    repeat' (first | (refine ifB_t ?_; (conv => whnf)) | (refine ifB_f ?_; (conv => whnf)) | (refine ifB_neg (decide_eq_false (by first | omega | rfl | (dsimp only; omega))) ?_; (conv => whnf)) | (refine ifB_pos (decide_eq_true (by first | omega | rfl | (dsimp only; omega))) ?_; (conv => whnf)) | (exact ⟨(), trivial, weaker_of [(0, 0), (1, 1), (2, 2)] rfl rfl ⟨⟨rfl, rfl, hL⟩, ⟨rfl, rfl⟩, ⟨rfl, rfl⟩, ⟨rfl, rfl⟩, ⟨rfl, rfl⟩, ⟨rfl, rfl⟩, leP_bool (by first | exact (decide_eq_true (p := rBad ⟨k, n, b⟩) (by simp only [rBad]; omega)).symm | exact (decide_eq_false (p := rBad ⟨k, n, b⟩) (by simp only [rBad]; omega)).symm | exact decide_eq_decide.2 (by simp only [rBad]; omega)), trivial⟩ ⟨⟨⟨rfl, rfl⟩, trivial, rfl, trivial⟩, ⟨⟨rfl, rfl⟩, trivial, rfl, trivial⟩, ⟨⟨rfl, rfl⟩, ⟨rfl, rfl⟩, ⟨rfl, rfl, pureL_bys _⟩, trivial⟩, trivial⟩⟩) | (refine ⟨_, rfl, ?_⟩; conv => whnf) | (refine ifB_dec (fun _ => ?_) (fun _ => ?_) <;> conv => whnf) | (refine And.intro ?_ ?_ <;> conv => whnf))
  · refine wpc_sound (M := MC) (PL := PLri) (CU := noCut) TTok mixed _ _ _ ?_
    conv => whnf
    unfold rTok
    refine ifB_bool (fun hC => ?_) (fun hC => ?_)
    · rw [if_pos (of_decide_eq_true hC)]
      conv => whnf
      repeat ((first | refine ⟨rfl, ?_⟩ | refine ⟨_, rfl, ?_⟩ | refine ⟨⟨rfl, rfl⟩, ?_⟩ | (refine ⟨⟨rfl, rfl, ?_⟩, ?_⟩; (focus (first | exact Nat.le_of_ble_eq_true rfl | (simp; done))))); conv => whnf)
      rfl
    have hC := of_decide_eq_false hC
    rw [if_neg hC]
    simp only [rBad] at hC
    conv => whnf
    repeat ((refine ⟨_, rfl, ?_⟩); conv => whnf)
    have hp2 := putL_short 2 (n := (b.length : Int)) (by omega)
    have hp3 := putL_short 3 (n := (b.length : Int)) (by omega)
    refine ifB_dec (fun k1 => ?_) (fun k1 => ?_)
    · rw [if_pos k1]
      conv => whnf
      repeat ((first | (refine fit_i64 ⟨by first | omega | rfl | (dsimp only; omega), by first | omega | rfl | (dsimp only; omega)⟩ ?_) | refine ⟨rfl, ?_⟩ | refine ⟨_, rfl, ?_⟩); conv => whnf)
      refine ⟨_, _, refHead_ok 0 n (by omega) (by omega) (by omega), by first | rfl | simp [noRoIf, noRoL, noRoV, noRoL_bys], ?_⟩
      conv => whnf
      repeat ((first | refine ⟨rfl, ?_⟩ | refine ⟨_, rfl, ?_⟩ | refine ⟨⟨rfl, rfl⟩, ?_⟩ | (refine ⟨⟨rfl, rfl, rfl, ?_, pureL_bys _⟩, ?_⟩; (focus (simp; done))) | (refine ⟨⟨rfl, rfl, ?_⟩, ?_⟩; (focus (first | exact Nat.le_of_ble_eq_true rfl | (simp; done))))); conv => whnf)
      rfl
    rw [if_neg k1]
    conv => whnf
    refine ifB_dec (fun k2 => ?_) (fun k2 => ?_)
    · rw [if_pos k2]
      conv => whnf
      repeat ((first | (refine fit_i64 ⟨by first | omega | rfl | (dsimp only; omega), by first | omega | rfl | (dsimp only; omega)⟩ ?_) | refine ⟨rfl, ?_⟩ | refine ⟨_, rfl, ?_⟩); conv => whnf)
      refine ⟨_, _, refHead_ok 1 n (by omega) (by omega) (by omega), by first | rfl | simp [noRoIf, noRoL, noRoV, noRoL_bys], ?_⟩
      conv => whnf
      repeat ((first | refine ⟨rfl, ?_⟩ | refine ⟨_, rfl, ?_⟩ | refine ⟨⟨rfl, rfl⟩, ?_⟩ | (refine ⟨⟨rfl, rfl, rfl, ?_, pureL_bys _⟩, ?_⟩; (focus (simp; done))) | (refine ⟨⟨rfl, rfl, ?_⟩, ?_⟩; (focus (first | exact Nat.le_of_ble_eq_true rfl | (simp; done))))); conv => whnf)
      rfl
    rw [if_neg k2]
    conv => whnf
    refine ifB_dec (fun k3 => ?_) (fun k3 => ?_)
    · rw [if_pos k3]
      conv => whnf
      refine ⟨by kernel_rfl, ?_⟩
      conv => whnf
      repeat' (first | (refine fit_i64 ⟨by first | omega | rfl | (dsimp only; omega), by first | omega | rfl | (dsimp only; omega)⟩ ?_; (conv => whnf)) | (refine ⟨ones_bys _, ?_⟩; (conv => whnf)) | (refine ⟨rfl, ?_⟩; (conv => whnf)) | (refine ⟨⟨rfl, rfl⟩, ?_⟩; (conv => whnf)) | (refine ⟨⟨rfl, rfl, ?_⟩, ?_⟩; (focus (first | exact Nat.le_of_ble_eq_true rfl | (simp; done))); (conv => whnf)) | (refine ⟨⟨rfl, rfl, ?_, ?_⟩, ?_⟩; (focus (first | (simp [lenB, offB]; done) | (simp [lenB, offB]; omega))); (focus (first | (simp [limB, lenB, offB]; done) | (simp [limB, lenB, offB]; omega))); (conv => whnf)) | (refine And.intro ?_ ?_; (focus (first | (simp [limB, lenB, offB]; done) | (simp [limB, lenB, offB]; omega))); (conv => whnf)) | (refine ⟨_, _, refHead_ok 2 b.length (by omega) (by omega) (by omega), by first | rfl | simp [noRoIf, noRoL, noRoV, noRoL_bys], ?_⟩; conv => whnf) | (refine ⟨⟨by simp, rfl, by rw [bys_append], by simp, pureL_bys _⟩, ?_⟩; conv => whnf) | (rfl) | (refine ⟨_, rfl, ?_⟩; conv => whnf) | (refine And.intro ?_ ?_ <;> conv => whnf))
    rw [if_neg k3]
    conv => whnf
    refine ifB_dec (fun k4 => ?_) (fun k4 => ?_)
    · rw [if_pos k4]
      have hu := refUtf8_ok b hto.2.2 htb
      cases hv : validR b
      · rw [hv] at hu
        rw [if_neg (by simp)]
        conv => whnf
        repeat ((first | refine ⟨pureL_bys _, ?_⟩ | refine ⟨rfl, ?_⟩ | refine ⟨_, rfl, ?_⟩); conv => whnf)
        refine ⟨_, _, hu, by first | rfl | simp [noRoIf, noRoL, noRoV, noRoL_bys], ?_⟩
        conv => whnf
        repeat ((first | refine ifB_t ?_ | refine ⟨rfl, ?_⟩ | refine ⟨_, rfl, ?_⟩ | refine ⟨⟨rfl, rfl⟩, ?_⟩ | (refine ⟨⟨rfl, rfl, ?_⟩, ?_⟩; (focus (first | exact Nat.le_of_ble_eq_true rfl | (simp; done))))); conv => whnf)
        rfl
      rw [hv] at hu
      rw [if_pos rfl]
      conv => whnf
      repeat ((first | refine ⟨pureL_bys _, ?_⟩ | refine ⟨rfl, ?_⟩ | refine ⟨_, rfl, ?_⟩); conv => whnf)
      refine ⟨_, _, hu, by first | rfl | simp [noRoIf, noRoL, noRoV, noRoL_bys], ?_⟩
      conv => whnf
      repeat ((refine ifB_f ?_); conv => whnf)
      refine ⟨by kernel_rfl, ?_⟩
      conv => whnf
      repeat' (first | (refine fit_i64 ⟨by first | omega | rfl | (dsimp only; omega), by first | omega | rfl | (dsimp only; omega)⟩ ?_; (conv => whnf)) | (refine ⟨ones_bys _, ?_⟩; (conv => whnf)) | (refine ⟨rfl, ?_⟩; (conv => whnf)) | (refine ⟨⟨rfl, rfl⟩, ?_⟩; (conv => whnf)) | (refine ⟨⟨rfl, rfl, ?_⟩, ?_⟩; (focus (first | exact Nat.le_of_ble_eq_true rfl | (simp; done))); (conv => whnf)) | (refine ⟨⟨rfl, rfl, ?_, ?_⟩, ?_⟩; (focus (first | (simp [lenB, offB]; done) | (simp [lenB, offB]; omega))); (focus (first | (simp [limB, lenB, offB]; done) | (simp [limB, lenB, offB]; omega))); (conv => whnf)) | (refine And.intro ?_ ?_; (focus (first | (simp [limB, lenB, offB]; done) | (simp [limB, lenB, offB]; omega))); (conv => whnf)) | (refine ⟨_, _, refHead_ok 3 b.length (by omega) (by omega) (by omega), by first | rfl | simp [noRoIf, noRoL, noRoV, noRoL_bys], ?_⟩; conv => whnf) | (refine ⟨⟨by simp, rfl, by rw [bys_append], by simp, pureL_bys _⟩, ?_⟩; conv => whnf) | (rfl) | (refine ⟨_, rfl, ?_⟩; conv => whnf) | (refine And.intro ?_ ?_ <;> conv => whnf))
    rw [if_neg k4]
    clear hp2 hp3
    have k5 : k ≠ 5 := by omega
    have k6 : k ≠ 6 := by omega
    rw [if_neg (show ¬ (k = 5 ∨ k = 6) by omega)]
    conv => whnf
    repeat ((first | (refine ifB_neg (decide_eq_false (by first | omega | rfl | (dsimp only; omega))) ?_) | refine ⟨rfl, ?_⟩ | refine ⟨_, rfl, ?_⟩ | refine ⟨⟨rfl, rfl⟩, ?_⟩ | (refine ⟨⟨rfl, rfl, ?_⟩, ?_⟩; (focus (first | exact Nat.le_of_ble_eq_true rfl | (simp; done))))); conv => whnf)
    rfl
end Go.Proofs.YtelnlfhdaelfdaaDoor.Abs
end
section
set_option linter.unusedVariables false
set_option linter.unusedSimpArgs false
namespace Go.Proofs.YtelnlfhdaelfdaaDoor.Abs
open Go
attribute [local irreducible] ifB fitP Does Weaker
def PLrm : Nat → Bool × Plan := plans [(38, (false, (takesTo [0, 2, 4] (.all [(1, (.all [(3, (takesTo [7] (.all [(5, (.all [(6, (.all [(8, (takesTo [9] (.all [(10, .done)])))]))]))]))), (5, (.all [(3, (takesTo [7] (.all [(6, (.all [(8, (takesTo [9] (.all [(10, .done)])))]))])))]))])), (3, (.all [(1, (takesTo [7] (.all [(5, (.all [(6, (.all [(8, (takesTo [9] (.all [(10, .done)])))]))]))]))), (5, (.all [(1, (takesTo [7] (.all [(6, (.all [(8, (takesTo [9] (.all [(10, .done)])))]))]))), (6, (.all [(1, (takesTo [7] (.all [(8, (takesTo [9] (.all [(10, .done)])))])))]))]))])), (5, (.all [(1, (.all [(3, (takesTo [7] (.all [(6, (.all [(8, (takesTo [9] (.all [(10, .done)])))]))])))])), (3, (.all [(1, (takesTo [7] (.all [(6, (.all [(8, (takesTo [9] (.all [(10, .done)])))]))]))), (6, (.all [(1, (takesTo [7] (.all [(8, (takesTo [9] (.all [(10, .done)])))])))]))]))]))]))))]
theorem Does.weakerTo' {P : Program} {k : Nat} {c : Code} {Q : AX → St → Prop} {st : St} {env : List (Nat × AV)} {heap : List (Nat × List AV)} {nx n : Nat} (g : List (Nat × Nat)) (hn : st.n = n) (hg : renOk k g heap nx = true)
    (he : envLe (oldOf k g) st.env env) (hh : heapLe (oldOf k g) st.heap heap) (h : Does P k c Q (mkSt env heap nx n)) : Does P k c Q st := Does.weaker (weaker_of g hn hg he hh) h
theorem whole_bys (l : List Int) : (List.drop 0 (bys l)).take (l.length * 1) = bys l := by rw [List.drop_zero, Nat.mul_one]; exact List.take_of_length_le (by simp)
theorem rItem_byt {l : List Tok} (hl : ToksOk l) {f a a' : Nat} {x : List Int} (h : rItem validR l f a = some (a', x)) (hx : x.length ≤ 32768) : Byt x := by
  have := item_fits validR l f a [] a' x h (by simpa using hx)
  have h2 := wItem_byt validR l hl f ⟨a, [], false⟩ (by simp [Byt])
  rw [this] at h2
  simpa using h2
theorem rLoop_len {g : Nat → Option (Nat × List Int)} {mp : Bool} : ∀ (n i at' : Nat) (b last : List Int) (a : Nat) (bs : List Int), rLoop g mp n i at' b last = some (a, bs) → bs.length ≤ max 32768 b.length
  | 0, i, at', b, last, a, bs, h => by
    simp only [rLoop, Option.some.injEq, Prod.mk.injEq] at h
    rw [h.2]; omega
  | n + 1, i, at', b, last, a, bs, h => by
    unfold rLoop at h
    split at h
    · cases h
    rename_i a1 x hg
    split at h
    · cases h
    split at h
    · split at h
      · cases h
      · have := rLoop_len n _ _ _ _ _ _ h
        simp only [List.length_append] at this; omega
    · have := rLoop_len n _ _ _ _ _ _ h
      simp only [List.length_append] at this; omega
theorem rItem_len {u : List Int → Bool} {l : List Tok} (hlb : ∀ t ∈ l, t.b.length ≤ 1099511627776) {f k a : Nat} {x : List Int} (h : rItem u l f k = some (a, x)) : x.length ≤ 1099511627785 := by
  by_cases hk : k < l.length
  · rw [rItem_tok u l f k hk] at h
    have hb := hlb _ (List.getElem_mem hk)
    have fin : ∀ (g : Nat → Option (Nat × List Int)) (mp : Bool) (n i at' : Nat) (M N : Int) (last : List Int), 0 ≤ N → rLoop g mp n i at' (putL M N) last = some (a, x) → x.length ≤ 1099511627785 := by
      intro g mp n i at' M N last hN h
      have h1 := rLoop_len _ _ _ _ _ _ _ h
      have h2 := putL_short M hN
      omega
    unfold rTok at h
    split at h
    · cases h
    rename_i h0
    simp only [rBad] at h0
    split at h
    · simp only [Option.some.injEq, Prod.mk.injEq] at h; obtain ⟨rfl, rfl⟩ := h; have := putL_short 0 (n := l[k].n) (by omega); omega
    split at h
    · simp only [Option.some.injEq, Prod.mk.injEq] at h; obtain ⟨rfl, rfl⟩ := h; have := putL_short 1 (n := l[k].n) (by omega); omega
    split at h
    · simp only [Option.some.injEq, Prod.mk.injEq] at h; obtain ⟨rfl, rfl⟩ := h; have := putL_short 2 (n := (l[k].b.length : Int)) (by omega); simp only [List.length_append]; omega
    split at h
    · split at h
      · simp only [Option.some.injEq, Prod.mk.injEq] at h; obtain ⟨rfl, rfl⟩ := h; have := putL_short 3 (n := (l[k].b.length : Int)) (by omega); simp only [List.length_append]; omega
      · cases h
    split at h
    · split at h
      · cases h
      split at h
      · cases h
      split at h
      · exact fin _ _ _ _ _ _ _ _ (by omega) h
      · exact fin _ _ _ _ _ _ _ _ (by omega) h
    · cases h
  · rw [rItem_none _ _ _ _ (by omega)] at h
    cases h
set_option maxHeartbeats 4000000 in
theorem ritem_many (l : List Tok) (hl : ToksOk l) (hlb : ∀ t ∈ l, t.b.length ≤ 1099511627776) (hll : l.length ≤ 1000000) (at' : Nat) (ha : at' < l.length) (f : Nat) (hf : f ≤ 6) (hi : ∀ f', f = f' + 1 → RItemOk l f')
    (hk : l[at'].k = 5 ∨ l[at'].k = 6) (hb : ¬ rBad l[at']) :
    ACall Tryd.prog 106 [.ro l.length (toksC l), .int .i64 at', .int .i64 (6 - (f : Int))] (.agg (wkC (rItem validR l f at'))) [] := by
  have hL := pureL_toks l
  rw [rItem_tok _ _ _ _ ha]
  obtain ⟨t, ht⟩ : ∃ t, t = l[at'] := ⟨_, rfl⟩
  have hto : TokOk t := by rw [ht]; exact hl _ (List.getElem_mem ha)
  have hld : ∀ m s : Nat, m = 3 * at' → s = 3 → takeN s ((toksC l).drop m) = some (tokC t) := by
    intro m s hm hs
    rw [takeN_tok ha hm hs, ht]
  rw [← ht] at hk hb ⊢
  obtain ⟨k, n, b⟩ := t
  clear ht
  obtain ⟨q1, q2, _⟩ := hto
  simp only at hk q2
  have hrt : rTok validR (rSub validR l f) (decide (f = 0)) ⟨k, n, b⟩ (at' + 1) =
      if f = 0 ∨ 64 < n then none else rLoop (rSub validR l f) (decide (k = 6)) (if k = 6 then 2 * n.toNat else n.toNat) 0 (at' + 1) (putL (k - 1) n) [] := by
    unfold rTok
    rw [if_neg hb]
    simp only
    rw [if_neg (show ¬ k = 1 by omega), if_neg (show ¬ k = 2 by omega), if_neg (show ¬ k = 3 by omega), if_neg (show ¬ k = 4 by omega), if_pos hk]
    by_cases h0 : f = 0
    · simp [h0]
    · rcases hk with rfl | rfl <;> simp [h0]
  rw [hrt]
  clear hrt
  simp only [rBad] at hb
  have hb0 : b = [] := List.length_eq_zero_iff.1 (by omega)
  subst hb0
  obtain ⟨N, rfl⟩ : ∃ N : Nat, n = N := ⟨n.toNat, by omega⟩
  replace hld : ∀ m s : Nat, m = 3 * at' → s = 3 → takeN s ((toksC l).drop m) = some [.int .i64 k, .int .i64 N, .ro 0 []] := hld
  rw [Int.toNat_natCast]
  refine ACall.of_does TTok Tryd.func106 rfl Tryd.call106 rfl (wpc_sound (M := MC) (PL := PLrm) (CU := noCut) TTok mixed _ _ _ ?_)
  conv => whnf
  repeat ((first | (refine ifB_neg (decide_eq_false (by first | omega | rfl | (dsimp only; omega))) ?_) | refine ⟨rfl, ?_⟩ | (refine ⟨⟨rfl, rfl, ?_⟩, ?_⟩; (focus (first | exact Nat.le_of_ble_eq_true rfl | (simp; done)))) | (refine ⟨⟨?_, ?_, ?_⟩, ?_⟩; (focus omega); (focus (first | omega | (simp; done) | (simp; omega))); (focus (first | (simp; done) | (simp; omega) | (rw [toksC_length]; simp; omega))))); conv => whnf)
  refine ⟨_, hld _ _ (by simp; omega) rfl, ?_⟩
  conv => whnf
  repeat ((first | refine ifB_t ?_ | refine ifB_f ?_ | (refine ifB_neg (decide_eq_false (by first | omega | rfl | (dsimp only; omega))) ?_) | (refine ifB_pos (decide_eq_true (by first | omega | rfl | (dsimp only; omega))) ?_) | refine ⟨rfl, ?_⟩ | refine ⟨_, rfl, ?_⟩ | (refine ⟨⟨rfl, rfl, ?_⟩, ?_⟩; (focus (first | exact Nat.le_of_ble_eq_true rfl | (simp; done))))); conv => whnf)
  by_cases h0 : f = 0 ∨ 64 < (N : Int)
  · rw [if_pos h0]
    rcases hk with rfl | rfl
    all_goals
      conv => whnf
      repeat' (first | (refine ifB_t ?_; (conv => whnf)) | (refine ifB_f ?_; (conv => whnf)) | (refine ifB_pos (decide_eq_true (by first | omega | rfl | (dsimp only; omega))) ?_; (conv => whnf)) | (refine ⟨rfl, ?_⟩; (conv => whnf)) | (refine ⟨⟨rfl, rfl⟩, ?_⟩; (conv => whnf)) | (refine ⟨⟨rfl, rfl, ?_⟩, ?_⟩; (focus (first | exact Nat.le_of_ble_eq_true rfl | (simp; done))); (conv => whnf)) | (rfl) | (omega) | (refine ⟨_, rfl, ?_⟩; conv => whnf) | (refine ifB_dec (fun _ => ?_) (fun _ => ?_) <;> conv => whnf) | (refine And.intro ?_ ?_ <;> conv => whnf))
  rw [if_neg h0]
  obtain ⟨f, rfl⟩ : ∃ f', f = f' + 1 := ⟨f - 1, by omega⟩
  have hi := hi f rfl
  obtain ⟨mp, hmp⟩ : ∃ mp, mp = decide (k = 6) := ⟨_, rfl⟩
  obtain ⟨items, hit⟩ : ∃ items : Nat, items = if k = 6 then 2 * N else N := ⟨_, rfl⟩
  rw [← hmp, ← hit]
  have hgo := rItem_go validR l f
  have hi' : ∀ a : Nat, a ≤ l.length → ACall Tryd.prog 106 [.ro l.length (toksC l), .int .i64 a, .int .i64 (6 - ((f + 1 : Nat) : Int) + 1)] (.agg (wkC (rItem validR l f a))) [] := by
    intro a h
    have := hi a (by omega)
    rwa [show (6 : Int) - (f : Int) = 6 - ((f + 1 : Nat) : Int) + 1 by omega] at this
  have hp4 := putL_short 4 (n := (N : Int)) (by omega)
  have hp5 := putL_short 5 (n := (N : Int)) (by omega)
  obtain ⟨R, hR⟩ : ∃ R, R = rLoop (rSub validR l (f + 1)) mp items 0 (at' + 1) (putL (k - 1) N) [] := ⟨_, rfl⟩
  rw [← hR]
  rcases hk with rfl | rfl
  · have hmp : mp = false := hmp
    subst hmp
    have hit : items = N := hit
    conv => whnf
    repeat ((first | refine ifB_t ?_ | refine ifB_f ?_ | (refine ifB_neg (decide_eq_false (by first | omega | rfl | (dsimp only; omega))) ?_) | (refine fit_i64 ⟨by first | omega | rfl | (dsimp only; omega), by first | omega | rfl | (dsimp only; omega)⟩ ?_) | refine ⟨rfl, ?_⟩ | refine ⟨_, rfl, ?_⟩); conv => whnf)
    refine ⟨_, _, refHead_ok 4 N (by omega) (by omega) (by omega), by first | rfl | simp [noRoIf, noRoL, noRoV, noRoL_bys], ?_⟩
    conv => whnf
    repeat ((first | refine ifB_f ?_ | refine ⟨rfl, ?_⟩ | refine ⟨_, rfl, ?_⟩ | (refine ⟨⟨rfl, rfl, ?_⟩, ?_⟩; (focus (first | exact Nat.le_of_ble_eq_true rfl | (simp; done))))); conv => whnf)
    refine Does.loop (fun p : Nat × Nat × List Int × List Int => mkSt [(0, .ro l.length (toksC l)), (2, .int .i64 (6 - ((f + 1 : Nat) : Int))), (6, .ptr 0 0), (7, .ptr 1 0), (8, .ptr 2 0), (9, .int .i64 items), (10, .ptr 3 0), (11, .ro p.2.2.2.length (bys p.2.2.2)), (12, .int .i64 (p.1 : Int))]
      [(0, [.int .i64 0, .nil, .bool false]), (1, [.int .i64 0, .nil, .bool true]), (2, [.int .i64 5, .int .i64 N, .ro 0 []]), (3, [.int .i64 (p.2.1 : Int), .sl 4 0 p.2.2.1.length 1 false, .bool false]), (4, bys p.2.2.1)] 5 191)
      (fun p => p.1 ≤ items ∧ p.2.1 ≤ l.length ∧ p.2.2.1.length ≤ 32768 ∧ Byt p.2.2.2 ∧ rLoop (rItem validR l f) false (items - p.1) p.1 p.2.1 p.2.2.1 p.2.2.2 = R) (fun p => items - p.1) ?_ (0, at' + 1, putL 4 N, []) ⟨Nat.zero_le _, by simp only; omega, by simp only; omega, by simp [Byt], hR.symm⟩ ?_
    · rintro ⟨i, a, bs, last⟩ ⟨p1, p2, p3, pb, p4⟩
      simp only at p1 p2 p3 pb p4
      refine wpc_sound (M := MC) (PL := PLrm) (CU := cutAt [100032]) TTok mixed _ _ _ ?_
      conv => whnf
      refine ifB_dec (fun j1 => ?_) (fun j1 => ?_)
      · have c1 : i < items := by simp only at j1; omega
        obtain ⟨m, hm⟩ : ∃ m, items - i = m + 1 := ⟨items - i - 1, by omega⟩
        rw [hm] at p4
        unfold rLoop at p4
        have hx := hi' a p2
        cases hr : rItem validR l f a with
        | none =>
          rw [hr] at p4 hx
          simp only at p4
          rw [← p4]
          conv => whnf
          repeat ((first | (refine fit_i64 ⟨by first | omega | rfl | (dsimp only; omega), by first | omega | rfl | (dsimp only; omega)⟩ ?_) | refine ⟨rfl, ?_⟩ | refine ⟨_, rfl, ?_⟩ | (refine And.intro (by first | omega | rfl | (dsimp only; omega)) ?_)); conv => whnf)
          refine ⟨_, _, hx, by first | rfl | simp [noRoIf, noRoL, noRoV, noRoL_bys], ?_⟩
          conv => whnf
          repeat ((first | refine ⟨rfl, ?_⟩ | (refine ⟨⟨rfl, rfl, ?_⟩, ?_⟩; (focus (first | exact Nat.le_of_ble_eq_true rfl | (simp; done))))); conv => whnf)
          refine wpc_sound (M := MC) (PL := PLrm) (CU := noCut) TTok mixed _ _ _ ?_
          conv => whnf
          repeat ((first | refine ifB_t ?_ | refine ⟨rfl, ?_⟩ | refine ⟨_, rfl, ?_⟩ | refine ⟨⟨rfl, rfl⟩, ?_⟩ | (refine ⟨⟨rfl, rfl, ?_⟩, ?_⟩; (focus (first | exact Nat.le_of_ble_eq_true rfl | (simp; done))))); conv => whnf)
          rfl
        | some r =>
          obtain ⟨a', x⟩ := r
          obtain ⟨g1, g2, g3⟩ := hgo _ _ _ hr
          have xl := rItem_len hlb hr
          rw [hr] at p4 hx
          simp only at p4
          simp only [wkC] at hx
          conv => whnf
          repeat ((first | (refine fit_i64 ⟨by first | omega | rfl | (dsimp only; omega), by first | omega | rfl | (dsimp only; omega)⟩ ?_) | refine ⟨rfl, ?_⟩ | refine ⟨_, rfl, ?_⟩ | (refine And.intro (by first | omega | rfl | (dsimp only; omega)) ?_)); conv => whnf)
          refine ⟨_, _, hx, by first | rfl | simp [noRoIf, noRoL, noRoV, noRoL_bys], ?_⟩
          conv => whnf
          repeat ((first | refine ⟨rfl, ?_⟩ | (refine ⟨⟨rfl, rfl, ?_⟩, ?_⟩; (focus (first | exact Nat.le_of_ble_eq_true rfl | (simp; done))))); conv => whnf)
          refine Does.freeze 5 rfl (Does.weakerTo' (env := [(0, .ro l.length (toksC l)), (2, .int .i64 (6 - ((f + 1 : Nat) : Int))), (6, .ptr 0 0), (7, .ptr 1 0), (8, .ptr 2 0), (9, .int .i64 items), (10, .ptr 3 0), (11, .ro last.length (bys last)), (12, .int .i64 (i : Int)), (13, .ptr 5 0)])
            (heap := [(0, [.int .i64 0, .nil, .bool false]), (1, [.int .i64 0, .nil, .bool true]), (2, [.int .i64 5, .int .i64 N, .ro 0 []]), (3, [.int .i64 (a : Int), .sl 4 0 bs.length 1 false, .bool false]), (4, bys bs), (5, [.int .i64 a', .ro x.length (bys x), .bool false])]) (nx := 6) (n := 191) [(0, 0), (1, 1), (2, 2), (3, 3), (4, 4), (5, 6)] rfl rfl ?_ ?_ ?_)
          · exact ⟨⟨rfl, rfl, hL⟩, ⟨rfl, rfl⟩, ⟨rfl, rfl⟩, ⟨rfl, rfl⟩, ⟨rfl, rfl⟩, ⟨rfl, rfl⟩, ⟨rfl, rfl⟩, ⟨rfl, rfl, pureL_bys _⟩, ⟨rfl, rfl⟩, ⟨rfl, rfl⟩, trivial⟩
          · exact ⟨⟨⟨rfl, rfl⟩, trivial, rfl, trivial⟩, ⟨⟨rfl, rfl⟩, trivial, rfl, trivial⟩, ⟨⟨rfl, rfl⟩, ⟨rfl, rfl⟩, ⟨rfl, rfl, rfl⟩, trivial⟩, ⟨⟨rfl, rfl⟩, ⟨rfl, rfl, rfl, rfl, id⟩, rfl, trivial⟩, lesP_bys (frzL_bys _), ⟨⟨rfl, rfl⟩, ⟨rfl, whole_bys _, pureL_bys _⟩, rfl, trivial⟩, trivial⟩
          refine wpc_sound (M := MC) (PL := PLrm) (CU := noCut) TTok mixed _ _ _ ?_
          conv => whnf
          repeat ((first | refine ifB_f ?_ | (refine fit_i64 ⟨by first | omega | rfl | (dsimp only; omega), by first | omega | rfl | (dsimp only; omega)⟩ ?_) | refine ⟨_, rfl, ?_⟩); conv => whnf)
          refine ifB_dec (fun j2 => ?_) (fun j2 => ?_)
          · rw [if_pos (by omega)] at p4
            rw [← p4]
            conv => whnf
            repeat ((first | refine ⟨rfl, ?_⟩ | refine ⟨_, rfl, ?_⟩ | refine ⟨⟨rfl, rfl⟩, ?_⟩ | (refine ⟨⟨rfl, rfl, ?_⟩, ?_⟩; (focus (first | exact Nat.le_of_ble_eq_true rfl | (simp; done))))); conv => whnf)
            rfl
          rw [if_neg (by omega)] at p4
          have xb := rItem_byt hl hr (by omega)
          rw [if_neg (by simp)] at p4
          have p5 := p4
          conv => whnf
          repeat ((first | refine ifB_f ?_ | refine ⟨_, rfl, ?_⟩); conv => whnf)
          refine ⟨by kernel_rfl, ?_⟩
          conv => whnf
          repeat' (first | (refine fit_i64 ⟨by first | omega | rfl | (dsimp only; omega), by first | omega | rfl | (dsimp only; omega)⟩ ?_; (conv => whnf)) | (refine ⟨ones_bys _, ?_⟩; (conv => whnf)) | (refine ⟨⟨rfl, rfl, ?_⟩, ?_⟩; (focus (first | exact Nat.le_of_ble_eq_true rfl | (simp; done))); (conv => whnf)) | (refine ⟨⟨rfl, rfl, ?_, ?_⟩, ?_⟩; (focus (first | (simp [lenB, offB]; done) | (simp [lenB, offB]; omega))); (focus (first | (simp [limB, lenB, offB]; done) | (simp [limB, lenB, offB]; omega))); (conv => whnf)) | (refine And.intro ?_ ?_; (focus (first | (simp [limB, lenB, offB]; done) | (simp [limB, lenB, offB]; omega))); (conv => whnf)) | (exact ⟨(i + 1, a', bs ++ x, last), ⟨by omega, g2, by simp; omega, pb, by rw [show items - (i + 1) = m by omega]; exact p5⟩, by simp only; omega, weaker_of [(0, 0), (1, 1), (2, 2), (3, 3), (4, 6)] rfl rfl ⟨⟨rfl, rfl, hL⟩, ⟨rfl, rfl⟩, ⟨rfl, rfl⟩, ⟨rfl, rfl⟩, ⟨rfl, rfl⟩, ⟨rfl, rfl⟩, ⟨rfl, rfl⟩, ⟨rfl, rfl, pureL_bys _⟩, ⟨rfl, rfl⟩, trivial⟩ ⟨⟨⟨rfl, rfl⟩, trivial, rfl, trivial⟩, ⟨⟨rfl, rfl⟩, trivial, rfl, trivial⟩, ⟨⟨rfl, rfl⟩, ⟨rfl, rfl⟩, ⟨rfl, rfl, rfl⟩, trivial⟩, ⟨⟨rfl, rfl⟩, ⟨rfl, by simp, by simp, rfl, id⟩, rfl, trivial⟩, lesP_bys (by rw [bys_append]), trivial⟩⟩) | (refine ⟨_, rfl, ?_⟩; conv => whnf) | (refine And.intro ?_ ?_ <;> conv => whnf))
      · have : items - i = 0 := by simp only at j1; omega
        rw [this] at p4
        simp only [rLoop] at p4
        rw [← p4]
        conv => whnf
        repeat ((first | refine ⟨rfl, ?_⟩ | refine ⟨_, rfl, ?_⟩ | refine ⟨⟨rfl, rfl⟩, ?_⟩ | (refine ⟨⟨rfl, rfl, rfl, ?_, pureL_bys _⟩, ?_⟩; (focus (simp; done))) | (refine ⟨⟨rfl, rfl, ?_⟩, ?_⟩; (focus (first | exact Nat.le_of_ble_eq_true rfl | (simp; done))))); conv => whnf)
        rfl
    · refine weaker_of [(0, 0), (1, 1), (2, 2), (3, 4), (4, 3)] rfl rfl ⟨⟨rfl, rfl, hL⟩, ⟨rfl, rfl⟩, ⟨rfl, rfl⟩, ⟨rfl, rfl⟩, ⟨rfl, rfl⟩, ⟨rfl, by omega⟩, ⟨rfl, rfl⟩, ⟨rfl, rfl⟩, ⟨rfl, rfl⟩, trivial⟩ ⟨⟨⟨rfl, rfl⟩, trivial, rfl, trivial⟩, ⟨⟨rfl, rfl⟩, trivial, rfl, trivial⟩, ⟨⟨rfl, rfl⟩, ⟨rfl, rfl⟩, ⟨rfl, rfl, rfl⟩, trivial⟩, ⟨⟨rfl, rfl⟩, ⟨rfl, rfl, rfl, rfl, id⟩, rfl, trivial⟩, lesP_bys rfl, trivial⟩
  · have hmp : mp = true := hmp
    subst hmp
    have hit : items = 2 * N := hit
    conv => whnf
    repeat ((first | refine ifB_t ?_ | refine ifB_f ?_ | (refine ifB_neg (decide_eq_false (by first | omega | rfl | (dsimp only; omega))) ?_) | (refine fit_i64 ⟨by first | omega | rfl | (dsimp only; omega), by first | omega | rfl | (dsimp only; omega)⟩ ?_) | refine ⟨rfl, ?_⟩ | refine ⟨_, rfl, ?_⟩); conv => whnf)
    refine ⟨_, _, refHead_ok 4 N (by omega) (by omega) (by omega), by first | rfl | simp [noRoIf, noRoL, noRoV, noRoL_bys], ?_⟩
    conv => whnf
    repeat ((first | refine ifB_t ?_ | (refine fit_i64 ⟨by first | omega | rfl | (dsimp only; omega), by first | omega | rfl | (dsimp only; omega)⟩ ?_) | refine ⟨rfl, ?_⟩ | refine ⟨_, rfl, ?_⟩ | (refine ⟨⟨rfl, rfl, ?_⟩, ?_⟩; (focus (first | exact Nat.le_of_ble_eq_true rfl | (simp; done))))); conv => whnf)
    refine ⟨_, _, refHead_ok 5 N (by omega) (by omega) (by omega), by first | rfl | simp [noRoIf, noRoL, noRoV, noRoL_bys], ?_⟩
    conv => whnf
    repeat ((refine ⟨⟨rfl, rfl, ?_⟩, ?_⟩; (focus (first | exact Nat.le_of_ble_eq_true rfl | (simp; done)))); conv => whnf)
    refine Does.loop (fun p : Nat × Nat × List Int × List Int => mkSt [(0, .ro l.length (toksC l)), (2, .int .i64 (6 - ((f + 1 : Nat) : Int))), (6, .ptr 0 0), (7, .ptr 1 0), (8, .ptr 2 0), (9, .int .i64 items), (10, .ptr 3 0), (11, .ro p.2.2.2.length (bys p.2.2.2)), (12, .int .i64 (p.1 : Int))]
      [(0, [.int .i64 0, .nil, .bool false]), (1, [.int .i64 0, .nil, .bool true]), (2, [.int .i64 6, .int .i64 N, .ro 0 []]), (3, [.int .i64 (p.2.1 : Int), .sl 4 0 p.2.2.1.length 1 false, .bool false]), (4, bys p.2.2.1)] 5 191)
      (fun p => p.1 ≤ items ∧ p.2.1 ≤ l.length ∧ p.2.2.1.length ≤ 32768 ∧ Byt p.2.2.2 ∧ rLoop (rItem validR l f) true (items - p.1) p.1 p.2.1 p.2.2.1 p.2.2.2 = R) (fun p => items - p.1) ?_ (0, at' + 1, putL 5 N, []) ⟨Nat.zero_le _, by simp only; omega, by simp only; omega, by simp [Byt], hR.symm⟩ ?_
    · rintro ⟨i, a, bs, last⟩ ⟨p1, p2, p3, pb, p4⟩
      simp only at p1 p2 p3 pb p4
      refine wpc_sound (M := MC) (PL := PLrm) (CU := cutAt [100032]) TTok mixed _ _ _ ?_
      conv => whnf
      refine ifB_dec (fun j1 => ?_) (fun j1 => ?_)
      · have c1 : i < items := by simp only at j1; omega
        obtain ⟨m, hm⟩ : ∃ m, items - i = m + 1 := ⟨items - i - 1, by omega⟩
        rw [hm] at p4
        unfold rLoop at p4
        have hx := hi' a p2
        cases hr : rItem validR l f a with
        | none =>
          rw [hr] at p4 hx
          simp only at p4
          rw [← p4]
          conv => whnf
          repeat ((first | (refine fit_i64 ⟨by first | omega | rfl | (dsimp only; omega), by first | omega | rfl | (dsimp only; omega)⟩ ?_) | refine ⟨rfl, ?_⟩ | refine ⟨_, rfl, ?_⟩ | (refine And.intro (by first | omega | rfl | (dsimp only; omega)) ?_)); conv => whnf)
          refine ⟨_, _, hx, by first | rfl | simp [noRoIf, noRoL, noRoV, noRoL_bys], ?_⟩
          conv => whnf
          repeat ((first | refine ⟨rfl, ?_⟩ | (refine ⟨⟨rfl, rfl, ?_⟩, ?_⟩; (focus (first | exact Nat.le_of_ble_eq_true rfl | (simp; done))))); conv => whnf)
          refine wpc_sound (M := MC) (PL := PLrm) (CU := noCut) TTok mixed _ _ _ ?_
          conv => whnf
          repeat ((first | refine ifB_t ?_ | refine ⟨rfl, ?_⟩ | refine ⟨_, rfl, ?_⟩ | refine ⟨⟨rfl, rfl⟩, ?_⟩ | (refine ⟨⟨rfl, rfl, ?_⟩, ?_⟩; (focus (first | exact Nat.le_of_ble_eq_true rfl | (simp; done))))); conv => whnf)
          rfl
        | some r =>
          obtain ⟨a', x⟩ := r
          obtain ⟨g1, g2, g3⟩ := hgo _ _ _ hr
          have xl := rItem_len hlb hr
          rw [hr] at p4 hx
          simp only at p4
          simp only [wkC] at hx
          conv => whnf
          repeat ((first | (refine fit_i64 ⟨by first | omega | rfl | (dsimp only; omega), by first | omega | rfl | (dsimp only; omega)⟩ ?_) | refine ⟨rfl, ?_⟩ | refine ⟨_, rfl, ?_⟩ | (refine And.intro (by first | omega | rfl | (dsimp only; omega)) ?_)); conv => whnf)
          refine ⟨_, _, hx, by first | rfl | simp [noRoIf, noRoL, noRoV, noRoL_bys], ?_⟩
          conv => whnf
          repeat ((first | refine ⟨rfl, ?_⟩ | (refine ⟨⟨rfl, rfl, ?_⟩, ?_⟩; (focus (first | exact Nat.le_of_ble_eq_true rfl | (simp; done))))); conv => whnf)
          refine Does.freeze 5 rfl (Does.weakerTo' (env := [(0, .ro l.length (toksC l)), (2, .int .i64 (6 - ((f + 1 : Nat) : Int))), (6, .ptr 0 0), (7, .ptr 1 0), (8, .ptr 2 0), (9, .int .i64 items), (10, .ptr 3 0), (11, .ro last.length (bys last)), (12, .int .i64 (i : Int)), (13, .ptr 5 0)])
            (heap := [(0, [.int .i64 0, .nil, .bool false]), (1, [.int .i64 0, .nil, .bool true]), (2, [.int .i64 6, .int .i64 N, .ro 0 []]), (3, [.int .i64 (a : Int), .sl 4 0 bs.length 1 false, .bool false]), (4, bys bs), (5, [.int .i64 a', .ro x.length (bys x), .bool false])]) (nx := 6) (n := 191) [(0, 0), (1, 1), (2, 2), (3, 3), (4, 4), (5, 6)] rfl rfl ?_ ?_ ?_)
          · exact ⟨⟨rfl, rfl, hL⟩, ⟨rfl, rfl⟩, ⟨rfl, rfl⟩, ⟨rfl, rfl⟩, ⟨rfl, rfl⟩, ⟨rfl, rfl⟩, ⟨rfl, rfl⟩, ⟨rfl, rfl, pureL_bys _⟩, ⟨rfl, rfl⟩, ⟨rfl, rfl⟩, trivial⟩
          · exact ⟨⟨⟨rfl, rfl⟩, trivial, rfl, trivial⟩, ⟨⟨rfl, rfl⟩, trivial, rfl, trivial⟩, ⟨⟨rfl, rfl⟩, ⟨rfl, rfl⟩, ⟨rfl, rfl, rfl⟩, trivial⟩, ⟨⟨rfl, rfl⟩, ⟨rfl, rfl, rfl, rfl, id⟩, rfl, trivial⟩, lesP_bys (frzL_bys _), ⟨⟨rfl, rfl⟩, ⟨rfl, whole_bys _, pureL_bys _⟩, rfl, trivial⟩, trivial⟩
          refine wpc_sound (M := MC) (PL := PLrm) (CU := noCut) TTok mixed _ _ _ ?_
          conv => whnf
          repeat ((first | refine ifB_f ?_ | (refine fit_i64 ⟨by first | omega | rfl | (dsimp only; omega), by first | omega | rfl | (dsimp only; omega)⟩ ?_) | refine ⟨_, rfl, ?_⟩); conv => whnf)
          refine ifB_dec (fun j2 => ?_) (fun j2 => ?_)
          · rw [if_pos (by omega)] at p4
            rw [← p4]
            conv => whnf
            repeat ((first | refine ⟨rfl, ?_⟩ | refine ⟨_, rfl, ?_⟩ | refine ⟨⟨rfl, rfl⟩, ?_⟩ | (refine ⟨⟨rfl, rfl, ?_⟩, ?_⟩; (focus (first | exact Nat.le_of_ble_eq_true rfl | (simp; done))))); conv => whnf)
            rfl
          rw [if_neg (by omega)] at p4
          have xb := rItem_byt hl hr (by omega)
          have tm : (i : Int).tmod 2 = (i : Int) % 2 := Int.tmod_eq_emod_of_nonneg (by omega)
          conv => whnf
          repeat ((first | refine ifB_t ?_ | refine ⟨_, rfl, ?_⟩ | (refine And.intro (by first | omega | rfl | (dsimp only; omega)) ?_)); conv => whnf)
          rw [tm]
          refine ifB_dec (fun j3 => ?_) (fun j3 => ?_)
          · rw [if_pos ⟨trivial, by omega⟩] at p4
            conv => whnf
            refine ifB_dec (fun j4 => ?_) (fun j4 => ?_)
            · conv => whnf
              repeat ((first | refine ifB_t ?_ | refine ⟨_, rfl, ?_⟩ | (refine And.intro ?_ ?_; (focus (first | (simp [limB, lenB, offB]; done) | (simp [limB, lenB, offB]; omega))))); conv => whnf)
              refine ⟨x, ⟨rfl, xb⟩, ?_⟩
              conv => whnf
              repeat ((first | refine ifB_t ?_ | (refine And.intro ?_ ?_; (focus (first | (simp [limB, lenB, offB]; done) | (simp [limB, lenB, offB]; omega))))); conv => whnf)
              refine ⟨last, ⟨rfl, pb⟩, ?_⟩
              conv => whnf
              repeat ((refine ifB_t ?_); conv => whnf)
              refine ifB_bool (fun hc => ?_) (fun hc => ?_)
              · rw [if_pos ⟨by omega, hc⟩] at p4
                rw [← p4]
                conv => whnf
                repeat ((first | refine ⟨rfl, ?_⟩ | refine ⟨_, rfl, ?_⟩ | refine ⟨⟨rfl, rfl⟩, ?_⟩ | (refine ⟨⟨rfl, rfl, ?_⟩, ?_⟩; (focus (first | exact Nat.le_of_ble_eq_true rfl | (simp; done))))); conv => whnf)
                rfl
              · rw [if_neg (fun h => by rw [hc] at h; simp at h)] at p4
                have p5 := p4
                conv => whnf
                repeat ((refine ⟨_, rfl, ?_⟩); conv => whnf)
                refine ⟨by kernel_rfl, ?_⟩
                conv => whnf
                repeat' (first | (refine fit_i64 ⟨by first | omega | rfl | (dsimp only; omega), by first | omega | rfl | (dsimp only; omega)⟩ ?_; (conv => whnf)) | (refine ⟨ones_bys _, ?_⟩; (conv => whnf)) | (refine ⟨⟨rfl, rfl, ?_⟩, ?_⟩; (focus (first | exact Nat.le_of_ble_eq_true rfl | (simp; done))); (conv => whnf)) | (refine ⟨⟨rfl, rfl, ?_, ?_⟩, ?_⟩; (focus (first | (simp [lenB, offB]; done) | (simp [lenB, offB]; omega))); (focus (first | (simp [limB, lenB, offB]; done) | (simp [limB, lenB, offB]; omega))); (conv => whnf)) | (refine And.intro ?_ ?_; (focus (first | (simp [limB, lenB, offB]; done) | (simp [limB, lenB, offB]; omega))); (conv => whnf)) | (exact ⟨(i + 1, a', bs ++ x, x), ⟨by omega, g2, by simp; omega, xb, by rw [show items - (i + 1) = m by omega]; exact p5⟩, by simp only; omega, weaker_of [(0, 0), (1, 1), (2, 2), (3, 3), (4, 6)] rfl rfl ⟨⟨rfl, rfl, hL⟩, ⟨rfl, rfl⟩, ⟨rfl, rfl⟩, ⟨rfl, rfl⟩, ⟨rfl, rfl⟩, ⟨rfl, rfl⟩, ⟨rfl, rfl⟩, ⟨rfl, rfl, pureL_bys _⟩, ⟨rfl, rfl⟩, trivial⟩ ⟨⟨⟨rfl, rfl⟩, trivial, rfl, trivial⟩, ⟨⟨rfl, rfl⟩, trivial, rfl, trivial⟩, ⟨⟨rfl, rfl⟩, ⟨rfl, rfl⟩, ⟨rfl, rfl, rfl⟩, trivial⟩, ⟨⟨rfl, rfl⟩, ⟨rfl, by simp, by simp, rfl, id⟩, rfl, trivial⟩, lesP_bys (by rw [bys_append]), trivial⟩⟩) | (refine ⟨_, rfl, ?_⟩; conv => whnf) | (refine And.intro ?_ ?_ <;> conv => whnf))
            · rw [if_neg (by omega)] at p4
              have p5 := p4
              conv => whnf
              repeat ((first | refine ifB_f ?_ | refine ⟨_, rfl, ?_⟩); conv => whnf)
              refine ⟨by kernel_rfl, ?_⟩
              conv => whnf
              repeat' (first | (refine fit_i64 ⟨by first | omega | rfl | (dsimp only; omega), by first | omega | rfl | (dsimp only; omega)⟩ ?_; (conv => whnf)) | (refine ⟨ones_bys _, ?_⟩; (conv => whnf)) | (refine ⟨⟨rfl, rfl, ?_⟩, ?_⟩; (focus (first | exact Nat.le_of_ble_eq_true rfl | (simp; done))); (conv => whnf)) | (refine ⟨⟨rfl, rfl, ?_, ?_⟩, ?_⟩; (focus (first | (simp [lenB, offB]; done) | (simp [lenB, offB]; omega))); (focus (first | (simp [limB, lenB, offB]; done) | (simp [limB, lenB, offB]; omega))); (conv => whnf)) | (refine And.intro ?_ ?_; (focus (first | (simp [limB, lenB, offB]; done) | (simp [limB, lenB, offB]; omega))); (conv => whnf)) | (exact ⟨(i + 1, a', bs ++ x, x), ⟨by omega, g2, by simp; omega, xb, by rw [show items - (i + 1) = m by omega]; exact p5⟩, by simp only; omega, weaker_of [(0, 0), (1, 1), (2, 2), (3, 3), (4, 6)] rfl rfl ⟨⟨rfl, rfl, hL⟩, ⟨rfl, rfl⟩, ⟨rfl, rfl⟩, ⟨rfl, rfl⟩, ⟨rfl, rfl⟩, ⟨rfl, rfl⟩, ⟨rfl, rfl⟩, ⟨rfl, rfl, pureL_bys _⟩, ⟨rfl, rfl⟩, trivial⟩ ⟨⟨⟨rfl, rfl⟩, trivial, rfl, trivial⟩, ⟨⟨rfl, rfl⟩, trivial, rfl, trivial⟩, ⟨⟨rfl, rfl⟩, ⟨rfl, rfl⟩, ⟨rfl, rfl, rfl⟩, trivial⟩, ⟨⟨rfl, rfl⟩, ⟨rfl, by simp, by simp, rfl, id⟩, rfl, trivial⟩, lesP_bys (by rw [bys_append]), trivial⟩⟩) | (refine ⟨_, rfl, ?_⟩; conv => whnf) | (refine And.intro ?_ ?_ <;> conv => whnf))
          · rw [if_neg (by omega)] at p4
            have p5 := p4
            conv => whnf
            refine ⟨by kernel_rfl, ?_⟩
            conv => whnf
            repeat' (first | (refine fit_i64 ⟨by first | omega | rfl | (dsimp only; omega), by first | omega | rfl | (dsimp only; omega)⟩ ?_; (conv => whnf)) | (refine ⟨ones_bys _, ?_⟩; (conv => whnf)) | (refine ⟨⟨rfl, rfl, ?_⟩, ?_⟩; (focus (first | exact Nat.le_of_ble_eq_true rfl | (simp; done))); (conv => whnf)) | (refine ⟨⟨rfl, rfl, ?_, ?_⟩, ?_⟩; (focus (first | (simp [lenB, offB]; done) | (simp [lenB, offB]; omega))); (focus (first | (simp [limB, lenB, offB]; done) | (simp [limB, lenB, offB]; omega))); (conv => whnf)) | (refine And.intro ?_ ?_; (focus (first | (simp [limB, lenB, offB]; done) | (simp [limB, lenB, offB]; omega))); (conv => whnf)) | (exact ⟨(i + 1, a', bs ++ x, last), ⟨by omega, g2, by simp; omega, pb, by rw [show items - (i + 1) = m by omega]; exact p5⟩, by simp only; omega, weaker_of [(0, 0), (1, 1), (2, 2), (3, 3), (4, 6)] rfl rfl ⟨⟨rfl, rfl, hL⟩, ⟨rfl, rfl⟩, ⟨rfl, rfl⟩, ⟨rfl, rfl⟩, ⟨rfl, rfl⟩, ⟨rfl, rfl⟩, ⟨rfl, rfl⟩, ⟨rfl, rfl, pureL_bys _⟩, ⟨rfl, rfl⟩, trivial⟩ ⟨⟨⟨rfl, rfl⟩, trivial, rfl, trivial⟩, ⟨⟨rfl, rfl⟩, trivial, rfl, trivial⟩, ⟨⟨rfl, rfl⟩, ⟨rfl, rfl⟩, ⟨rfl, rfl, rfl⟩, trivial⟩, ⟨⟨rfl, rfl⟩, ⟨rfl, by simp, by simp, rfl, id⟩, rfl, trivial⟩, lesP_bys (by rw [bys_append]), trivial⟩⟩) | (refine ⟨_, rfl, ?_⟩; conv => whnf) | (refine And.intro ?_ ?_ <;> conv => whnf))
      · have : items - i = 0 := by simp only at j1; omega
        rw [this] at p4
        simp only [rLoop] at p4
        rw [← p4]
        conv => whnf
        repeat ((first | refine ⟨rfl, ?_⟩ | refine ⟨_, rfl, ?_⟩ | refine ⟨⟨rfl, rfl⟩, ?_⟩ | (refine ⟨⟨rfl, rfl, rfl, ?_, pureL_bys _⟩, ?_⟩; (focus (simp; done))) | (refine ⟨⟨rfl, rfl, ?_⟩, ?_⟩; (focus (first | exact Nat.le_of_ble_eq_true rfl | (simp; done))))); conv => whnf)
        rfl
    · refine weaker_of [(0, 0), (1, 1), (2, 2), (3, 4), (4, 5)] rfl rfl ⟨⟨rfl, rfl, hL⟩, ⟨rfl, rfl⟩, ⟨rfl, rfl⟩, ⟨rfl, rfl⟩, ⟨rfl, rfl⟩, ⟨rfl, by omega⟩, ⟨rfl, rfl⟩, ⟨rfl, rfl⟩, ⟨rfl, rfl⟩, trivial⟩ ⟨⟨⟨rfl, rfl⟩, trivial, rfl, trivial⟩, ⟨⟨rfl, rfl⟩, trivial, rfl, trivial⟩, ⟨⟨rfl, rfl⟩, ⟨rfl, rfl⟩, ⟨rfl, rfl, rfl⟩, trivial⟩, ⟨⟨rfl, rfl⟩, ⟨rfl, rfl, rfl, rfl, id⟩, rfl, trivial⟩, lesP_bys rfl, trivial⟩
end Go.Proofs.YtelnlfhdaelfdaaDoor.Abs
end
section
set_option linter.unusedVariables false
set_option linter.unusedSimpArgs false
namespace Go.Proofs.YtelnlfhdaelfdaaDoor.Abs
open Go
attribute [local irreducible] ifB fitP Does Weaker
theorem ritem_ok (l : List Tok) (hl : ToksOk l) (hlb : ∀ t ∈ l, t.b.length ≤ 1099511627776) (hll : l.length ≤ 1000000) : ∀ f : Nat, f ≤ 6 → RItemOk l f
  | f, hf => by
    intro at' ha
    by_cases h : at' < l.length
    · refine ritem_at l hl hlb hll at' h f hf (fun hk hb => ritem_many l hl hlb hll at' h f hf (fun f' hf' => ?_) hk hb)
      subst hf'
      exact ritem_ok l hl hlb hll f' (by omega)
    · rw [rItem_none _ _ _ _ (by omega)]
      exact ritem_none l f hll at' (by omega) _
theorem refEncode_ok (l : List Tok) (hl : ToksOk l) (hlb : ∀ t ∈ l, t.b.length ≤ 1099511627776) : ACall Tryd.prog 79 [.ro l.length (toksC l)]
    (.tuple [.own (encR validR l).1.length 1 (bys (encR validR l).1), .bool (decide ((encR validR l).2 = 0))]) [] := by
  have hL := pureL_toks l
  have no : (∀ a, encR validR l ≠ (a, 0)) → encR validR l = ([], 1) := fun h => (encR_or validR l).resolve_right (fun ⟨a, e⟩ => h a e)
  refine ACall.of_does TTok Tryd.func79 rfl Tryd.call79 rfl (wpc_sound (M := MC) (PL := PL0) (CU := noCut) TTok mixed _ _ _ ?_)
  conv => whnf
  refine ifB_dec (fun k1 => ?_) (fun k1 => ?_)
  · rw [no (fun a h => by have := (encR_iff _ _ _).1 h; omega)]
    conv => whnf
    repeat ((first | refine ⟨rfl, ?_⟩ | refine ⟨⟨rfl, rfl⟩, ?_⟩); conv => whnf)
    rfl
  have hi := ritem_ok l hl hlb (by omega) 6 (by omega) 0 (by omega)
  replace hi : ACall Tryd.prog 106 [.ro l.length (toksC l), .int .i64 0, .int .i64 0] (.agg (wkC (rItem validR l 6 0))) [] := hi
  cases hr : rItem validR l 6 0 with
  | none =>
    rw [no (fun a h => by have := (encR_iff _ _ _).1 h; rw [hr] at this; simp at this)]
    rw [hr] at hi
    conv => whnf
    repeat ((first | refine ⟨rfl, ?_⟩ | (refine And.intro (by first | omega | rfl | (dsimp only; omega)) ?_)); conv => whnf)
    refine ⟨_, _, hi, by first | rfl | simp [noRoIf, noRoL, noRoV, noRoL_bys], ?_⟩
    conv => whnf
    repeat ((first | refine ifB_t ?_ | refine ⟨rfl, ?_⟩ | refine ⟨_, rfl, ?_⟩ | refine ⟨⟨rfl, rfl⟩, ?_⟩ | (refine ⟨⟨rfl, rfl, ?_⟩, ?_⟩; (focus (first | exact Nat.le_of_ble_eq_true rfl | (simp; done))))); conv => whnf)
    rfl
  | some r =>
    obtain ⟨a, bs⟩ := r
    rw [hr] at hi
    simp only [wkC] at hi
    have hlen := rItem_len hlb hr
    conv => whnf
    repeat ((first | refine ⟨rfl, ?_⟩ | (refine And.intro (by first | omega | rfl | (dsimp only; omega)) ?_)); conv => whnf)
    refine ⟨_, _, hi, by first | rfl | simp [noRoIf, noRoL, noRoV, noRoL_bys], ?_⟩
    conv => whnf
    repeat ((first | refine ifB_f ?_ | refine ⟨rfl, ?_⟩ | refine ⟨_, rfl, ?_⟩ | (refine ⟨⟨rfl, rfl, ?_⟩, ?_⟩; (focus (first | exact Nat.le_of_ble_eq_true rfl | (simp; done))))); conv => whnf)
    refine ifB_dec (fun k2 => ?_) (fun k2 => ?_)
    · rw [no (fun a h => by have := (encR_iff _ _ _).1 h; rw [hr] at this; simp at this; omega)]
      conv => whnf
      repeat ((first | refine ifB_t ?_ | refine ⟨rfl, ?_⟩ | refine ⟨⟨rfl, rfl⟩, ?_⟩); conv => whnf)
      rfl
    conv => whnf
    repeat ((first | refine ifB_f ?_ | refine ⟨_, rfl, ?_⟩); conv => whnf)
    refine ifB_dec (fun k3 => ?_) (fun k3 => ?_)
    · rw [no (fun a h => by have := (encR_iff _ _ _).1 h; rw [hr] at this; simp at this; obtain ⟨_, ⟨_, rfl⟩, _⟩ := this; omega)]
      conv => whnf
      repeat ((first | refine ⟨rfl, ?_⟩ | refine ⟨⟨rfl, rfl⟩, ?_⟩); conv => whnf)
      rfl
    rw [(encR_iff validR l bs).2 ⟨by omega, by rw [hr, show a = l.length by omega], by omega⟩]
    conv => whnf
    repeat ((first | refine ⟨rfl, ?_⟩ | refine ⟨_, rfl, ?_⟩ | (refine ⟨⟨rfl, rfl, rfl, ?_, pureL_bys _⟩, ?_⟩; (focus (simp; done)))); conv => whnf)
    rfl
end Go.Proofs.YtelnlfhdaelfdaaDoor.Abs
end
section
set_option linter.unusedVariables false
set_option linter.unusedSimpArgs false
namespace Go.Proofs.YtelnlfhdaelfdaaDoor.Abs
open Go
def tBad (b : List Int) (at' : Nat) (l : List Tok) : Prop := (getR b at').2.2.2 ≠ 0 ∨ 600 ≤ l.length
instance (b : List Int) (at' : Nat) (l : List Tok) : Decidable (tBad b at' l) := by unfold tBad; infer_instance
end Go.Proofs.YtelnlfhdaelfdaaDoor.Abs
end
section
set_option linter.unusedVariables false
set_option linter.unusedSimpArgs false
namespace Go.Proofs.YtelnlfhdaelfdaaDoor.Abs
open Go
attribute [local irreducible] ifB fitP Does Weaker
end Go.Proofs.YtelnlfhdaelfdaaDoor.Abs
end
section
set_option linter.unusedVariables false
set_option linter.unusedSimpArgs false
namespace Go.Proofs.YtelnlfhdaelfdaaDoor.Abs
open Go
attribute [local irreducible] ifB fitP Does Weaker
end Go.Proofs.YtelnlfhdaelfdaaDoor.Abs
end
section
set_option linter.unusedVariables false
set_option linter.unusedSimpArgs false
namespace Go.Proofs.YtelnlfhdaelfdaaDoor.Abs
open Go
attribute [local irreducible] ifB fitP Does Weaker
def orElse : List (Nat × List Mode) → (FuncId → List Mode) → FuncId → List Mode
  | [], o, g => o g
  | (f, m) :: r, o, g => cond (Nat.beq g f) m (orElse r o g)
def rowM : Mode := .rf [.rd, .rd]
def MR : FuncId → List Mode := orElse [(100, [rowM, .rd]), (70, [rowM]), (103, [rowM]), (120, [rowM]), (69, [rowM]), (101, [rowM]),
  (122, [rowM]), (73, [rowM]), (119, [rowM, .rd, .rd]), (68, [.rd]), (55, [.rd]), (54, [.rd]), (56, [.rd]), (126, [.rd])] MC
theorem whole_toks (l : List Tok) : (List.drop 0 (toksC l)).take (l.length * 3) = toksC l := by rw [List.drop_zero]; exact List.take_of_length_le (by rw [toksC_length]; omega)
theorem num_ok (n : Int) : ACall Tryd.prog 55 [.int .i64 n] (.agg (tokC ⟨1, n, []⟩)) [] := by
  refine ACall.of_does TTok Tryd.func55 rfl Tryd.call55 rfl (wpc_sound (M := MR) (PL := PL0) (CU := noCut) TTok mixed _ _ _ ?_)
  conv => whnf
  repeat ((first | refine ⟨rfl, ?_⟩ | refine ⟨_, rfl, ?_⟩ | refine ⟨⟨rfl, rfl⟩, ?_⟩ | (refine ⟨⟨rfl, rfl, ?_⟩, ?_⟩; (focus (first | exact Nat.le_of_ble_eq_true rfl | (simp; done))))); conv => whnf)
  rfl
theorem list_ok (n : Int) : ACall Tryd.prog 54 [.int .i64 n] (.agg (tokC ⟨5, n, []⟩)) [] := by
  refine ACall.of_does TTok Tryd.func54 rfl Tryd.call54 rfl (wpc_sound (M := MR) (PL := PL0) (CU := noCut) TTok mixed _ _ _ ?_)
  conv => whnf
  repeat ((first | refine ⟨rfl, ?_⟩ | refine ⟨_, rfl, ?_⟩ | refine ⟨⟨rfl, rfl⟩, ?_⟩ | (refine ⟨⟨rfl, rfl, ?_⟩, ?_⟩; (focus (first | exact Nat.le_of_ble_eq_true rfl | (simp; done))))); conv => whnf)
  rfl
theorem cstr_ok (b : List Int) : ACall Tryd.prog 56 [.ro b.length (bys b)] (.agg (tokC ⟨3, 0, b⟩)) [] := by
  refine ACall.of_does TTok Tryd.func56 rfl Tryd.call56 rfl (wpc_sound (M := MR) (PL := PL0) (CU := noCut) TTok mixed _ _ _ ?_)
  conv => whnf
  repeat ((first | refine ⟨rfl, ?_⟩ | refine ⟨_, rfl, ?_⟩ | refine ⟨⟨rfl, rfl⟩, ?_⟩ | (refine ⟨⟨rfl, rfl, ?_⟩, ?_⟩; (focus (first | assumption | exact pureL_bys _ | exact pureL_toks _))) | (refine ⟨⟨rfl, rfl, ?_⟩, ?_⟩; (focus (first | exact Nat.le_of_ble_eq_true rfl | (simp; done))))); conv => whnf)
  rfl
theorem next_no (l : List Tok) (bad : Bool) (k : Int) (h : bad = true ∨ l = [] ∨ ∃ t r, l = t :: r ∧ t.k ≠ k) :
    ACall Tryd.prog 100 [.ref [.ro l.length (toksC l), .bool bad], .int .i64 k] (.agg (tokC ⟨0, 0, []⟩)) [.ref [.ro l.length (toksC l), .bool true]] := by
  refine ACall.of_does TTok Tryd.func100 rfl Tryd.call100 rfl (wpc_sound (M := MR) (PL := PL0) (CU := noCut) TTok mixed _ _ _ ?_)
  cases bad with
  | true =>
    conv => whnf
    repeat ((first | refine ifB_t ?_ | refine ⟨rfl, ?_⟩ | refine ⟨_, rfl, ?_⟩ | refine ⟨⟨rfl, rfl⟩, ?_⟩ | (refine ⟨⟨rfl, rfl, ?_⟩, ?_⟩; (focus (first | assumption | exact pureL_bys _ | exact pureL_toks _))) | (refine ⟨⟨rfl, rfl, ?_⟩, ?_⟩; (focus (first | exact Nat.le_of_ble_eq_true rfl | (simp; done))))); conv => whnf)
    rfl
  | false =>
    cases l with
    | nil =>
      conv => whnf
      repeat ((first | refine ifB_t ?_ | refine ifB_f ?_ | refine ⟨rfl, ?_⟩ | refine ⟨_, rfl, ?_⟩ | refine ⟨⟨rfl, rfl⟩, ?_⟩ | (refine ⟨⟨rfl, rfl, ?_⟩, ?_⟩; (focus (first | assumption | exact pureL_bys _ | exact pureL_toks _))) | (refine ⟨⟨rfl, rfl, ?_⟩, ?_⟩; (focus (first | exact Nat.le_of_ble_eq_true rfl | (simp; done))))); conv => whnf)
      rfl
    | cons t r =>
      have hk : t.k ≠ k := by
        rcases h with h | h | ⟨t', r', h, hk⟩
        · cases h
        · cases h
        · cases h; exact hk
      conv => whnf
      repeat ((first | refine ifB_f ?_ | (refine ifB_pos (decide_eq_true (by first | omega | rfl | (dsimp only; omega))) ?_) | refine ⟨rfl, ?_⟩ | refine ⟨_, rfl, ?_⟩ | refine ⟨⟨rfl, rfl⟩, ?_⟩ | (refine ⟨⟨rfl, rfl, ?_⟩, ?_⟩; (focus (first | assumption | exact pureL_bys _ | exact pureL_toks _))) | (refine ⟨⟨rfl, rfl, ?_⟩, ?_⟩; (focus (first | exact Nat.le_of_ble_eq_true rfl | (simp; done)))) | (refine And.intro ?_ ?_; (focus (first | (simp [toksC_length]; done) | (simp [toksC_length]; omega))))); conv => whnf)
      rfl
theorem next_yes (t : Tok) (r : List Tok) :
    ACall Tryd.prog 100 [.ref [.ro (t :: r).length (toksC (t :: r)), .bool false], .int .i64 t.k] (.agg (tokC t)) [.ref [.ro r.length (toksC r), .bool false]] := by
  refine ACall.of_does TTok Tryd.func100 rfl Tryd.call100 rfl (wpc_sound (M := MR) (PL := PL0) (CU := noCut) TTok mixed _ _ _ ?_)
  conv => whnf
  repeat ((first | refine ifB_f ?_ | (refine ifB_neg (decide_eq_false (by first | omega | rfl | (dsimp only; omega))) ?_) | refine ⟨rfl, ?_⟩ | refine ⟨_, rfl, ?_⟩ | (refine ⟨⟨rfl, rfl, ?_⟩, ?_⟩; (focus (first | exact Nat.le_of_ble_eq_true rfl | (simp; done)))) | (refine And.intro ?_ ?_; (focus (first | (simp [toksC_length]; done) | (simp [toksC_length]; omega))))); conv => whnf)
  refine ⟨⟨by rw [toksC_length]; exact Nat.mul_comm _ _, by simp [okB]; omega⟩, ?_⟩
  conv => whnf
  repeat ((first | refine ⟨rfl, ?_⟩ | refine ⟨_, rfl, ?_⟩ | refine ⟨⟨rfl, rfl⟩, ?_⟩ | (refine ⟨⟨rfl, rfl, ?_⟩, ?_⟩; (focus (first | assumption | exact pureL_bys _ | exact pureL_toks _))) | (refine ⟨⟨rfl, rfl, ?_⟩, ?_⟩; (focus (first | exact Nat.le_of_ble_eq_true rfl | (simp; done))))); conv => whnf)
  rfl
/-- A row that is gone through: what is left of it, whether something else stood there. -/
structure Rw where
  l : List Tok
  bad : Bool
def rowC (r : Rw) : List AV := [.ro r.l.length (toksC r.l), .bool r.bad]
/-- The next token, if it is of a kind. -/
def rNext (k : Int) (r : Rw) : Tok × Rw := if r.bad = true then (⟨0, 0, []⟩, ⟨r.l, true⟩) else match r.l with
  | [] => (⟨0, 0, []⟩, ⟨[], true⟩)
  | t :: q => if t.k = k then (t, ⟨q, false⟩) else (⟨0, 0, []⟩, ⟨t :: q, true⟩)
theorem next_ok (r : Rw) (k : Int) : ACall Tryd.prog 100 [.ref (rowC r), .int .i64 k] (.agg (tokC (rNext k r).1)) [.ref (rowC (rNext k r).2)] := by
  obtain ⟨l, bad⟩ := r
  unfold rNext rowC
  cases bad with
  | true => exact next_no l true k (.inl rfl)
  | false =>
    cases l with
    | nil => exact next_no [] false k (.inr (.inl rfl))
    | cons t q =>
      simp only [Bool.false_eq_true, if_false]
      by_cases h : t.k = k
      · simp only [if_pos h]
        subst h
        exact next_yes t q
      · simp only [if_neg h]
        exact next_no (t :: q) false k (.inr (.inr ⟨t, q, rfl, h⟩))
theorem rnum_ok (r : Rw) : ACall Tryd.prog 70 [.ref (rowC r)] (.int .i64 (rNext 1 r).1.n) [.ref (rowC (rNext 1 r).2)] := by
  have h := next_ok r 1
  refine ACall.of_does TTok Tryd.func70 rfl Tryd.call70 rfl (wpc_sound (M := MR) (PL := PL0) (CU := noCut) TTok mixed _ _ _ ?_)
  conv => whnf
  repeat ((first | refine ⟨rfl, ?_⟩ | (refine And.intro ?_ ?_; (focus (first | (simp only [pureL, pureV, pureL_bys, Bool.and_true, Bool.and_self]; done) | (simp only [pureL, pureV, pureL_bys, pureL_toks, Bool.and_true, Bool.and_self]; done))))); conv => whnf)
  refine ⟨_, _, h, by first | rfl | simp [noRoIf, noRoL, noRoV, noRoL_bys], ?_⟩
  conv => whnf
  repeat ((first | refine ⟨rfl, ?_⟩ | refine ⟨_, rfl, ?_⟩ | refine ⟨⟨rfl, rfl⟩, ?_⟩ | (refine ⟨⟨rfl, rfl, ?_⟩, ?_⟩; (focus (first | assumption | exact pureL_bys _ | exact pureL_toks _)))); conv => whnf)
  rfl
theorem rlist_ok (r : Rw) : ACall Tryd.prog 69 [.ref (rowC r)] (.int .i64 (rNext 5 r).1.n) [.ref (rowC (rNext 5 r).2)] := by
  have h := next_ok r 5
  refine ACall.of_does TTok Tryd.func69 rfl Tryd.call69 rfl (wpc_sound (M := MR) (PL := PL0) (CU := noCut) TTok mixed _ _ _ ?_)
  conv => whnf
  repeat ((first | refine ⟨rfl, ?_⟩ | (refine And.intro ?_ ?_; (focus (first | (simp only [pureL, pureV, pureL_bys, Bool.and_true, Bool.and_self]; done) | (simp only [pureL, pureV, pureL_bys, pureL_toks, Bool.and_true, Bool.and_self]; done))))); conv => whnf)
  refine ⟨_, _, h, by first | rfl | simp [noRoIf, noRoL, noRoV, noRoL_bys], ?_⟩
  conv => whnf
  repeat ((first | refine ⟨rfl, ?_⟩ | refine ⟨_, rfl, ?_⟩ | refine ⟨⟨rfl, rfl⟩, ?_⟩ | (refine ⟨⟨rfl, rfl, ?_⟩, ?_⟩; (focus (first | assumption | exact pureL_bys _ | exact pureL_toks _)))); conv => whnf)
  rfl
theorem rstr_ok (r : Rw) : ACall Tryd.prog 103 [.ref (rowC r)] (.ro (rNext 3 r).1.b.length (bys (rNext 3 r).1.b)) [.ref (rowC (rNext 3 r).2)] := by
  have h := next_ok r 3
  refine ACall.of_does TTok Tryd.func103 rfl Tryd.call103 rfl (wpc_sound (M := MR) (PL := PL0) (CU := noCut) TTok mixed _ _ _ ?_)
  conv => whnf
  repeat ((first | refine ⟨rfl, ?_⟩ | (refine And.intro ?_ ?_; (focus (first | (simp only [pureL, pureV, pureL_bys, Bool.and_true, Bool.and_self]; done) | (simp only [pureL, pureV, pureL_bys, pureL_toks, Bool.and_true, Bool.and_self]; done))))); conv => whnf)
  refine ⟨_, _, h, by first | rfl | simp [noRoIf, noRoL, noRoV, noRoL_bys], ?_⟩
  conv => whnf
  repeat ((first | refine ⟨rfl, ?_⟩ | refine ⟨_, rfl, ?_⟩ | (refine ⟨⟨rfl, rfl, ?_⟩, ?_⟩; (focus (first | assumption | exact pureL_bys _ | exact pureL_toks _)))); conv => whnf)
  rfl
theorem rdone_ok (r : Rw) : ACall Tryd.prog 73 [.ref (rowC r)] (.bool (!r.bad && decide (r.l = []))) [.ref (rowC r)] := by
  refine ACall.of_does TTok Tryd.func73 rfl Tryd.call73 rfl (wpc_sound (M := MR) (PL := PL0) (CU := noCut) TTok mixed _ _ _ ?_)
  obtain ⟨l, bad⟩ := r
  cases bad <;> cases l
  all_goals
    conv => whnf
    repeat ((first | refine ifB_t ?_ | refine ifB_f ?_ | refine ⟨rfl, ?_⟩ | refine ⟨_, rfl, ?_⟩ | (refine ⟨⟨rfl, rfl, ?_⟩, ?_⟩; (focus (first | assumption | exact pureL_bys _ | exact pureL_toks _)))); conv => whnf)
    rfl
/-- The row that bytes are. -/
def rOpen (b : List Int) : Rw := ⟨(decR validR b).1, decide ((decR validR b).2 ≠ 0)⟩
theorem open_ok (b : List Int) (hb : Byt b) (hl : b.length ≤ 1099511627776) : ACall Tryd.prog 68 [.ro b.length (bys b)] (.ref (rowC (rOpen b))) [] := by
  have h := decode_ok b hb hl
  unfold rOpen rowC
  generalize decR validR b = q at h ⊢
  obtain ⟨l, e⟩ := q
  dsimp only at h ⊢
  refine ACall.of_does TTok Tryd.func68 rfl Tryd.call68 rfl (wpc_sound (M := MR) (PL := PL0) (CU := cutAt [100002]) TTok mixed _ _ _ ?_)
  conv => whnf
  repeat ((first | refine ⟨pureL_bys _, ?_⟩ | refine ⟨rfl, ?_⟩); conv => whnf)
  refine ⟨_, _, h, by first | rfl | simp [noRoIf, noRoL, noRoV, noRoL_bys], ?_⟩
  conv => whnf
  refine Does.freeze 0 rfl (Does.weakerTo' (env := [(3, .ro l.length (toksC l)), (4, .int .i64 e)]) (heap := []) (nx := 0) (n := 15) [] rfl rfl ⟨⟨rfl, whole_toks _, pureL_toks _⟩, ⟨rfl, rfl⟩, trivial⟩ trivial (wpc_sound (M := MR) (PL := PL0) (CU := noCut) TTok mixed _ _ _ ?_))
  conv => whnf
  repeat ((first | refine ⟨rfl, ?_⟩ | (refine ⟨⟨rfl, rfl, ?_⟩, ?_⟩; (focus (first | assumption | exact pureL_bys _ | exact pureL_toks _)))); conv => whnf)
  rfl
theorem demsP_bys {H : Heap} : ∀ (l : List Int) (K : List Nat → Prop), K [] → demsP H (bys l) (bys l) K
  | [], K, h => by simpa [demsP, bys] using h
  | x :: l, K, h => by
    simp only [bys, List.map_cons, demsP, demP]
    exact ⟨⟨trivial, trivial⟩, demsP_bys l _ h⟩
theorem takeN_all : ∀ {m : Nat} {cs : List AV}, cs.length = m → takeN m cs = some cs
  | 0, [], _ => rfl
  | m + 1, c :: cs, h => by
    have ih := takeN_all (m := m) (cs := cs) (by simpa using h)
    simp [takeN, ih]
/-- Bytes of a size, out of a row. -/
def rArr (m : Nat) (r : Rw) : List Int × Rw := if (rNext 3 r).1.b.length = m then ((rNext 3 r).1.b, (rNext 3 r).2) else (List.replicate m 0, ⟨(rNext 3 r).2.l, true⟩)
theorem rid_ok (r : Rw) : ACall Tryd.prog 101 [.ref (rowC r)] (.agg (bys (rArr 32 r).1)) [.ref (rowC (rArr 32 r).2)] := by
  have h := rstr_ok r
  unfold rArr
  generalize rNext 3 r = q at h ⊢
  obtain ⟨t, l, bad⟩ := q
  dsimp only at h ⊢
  refine ACall.of_does TTok Tryd.func101 rfl Tryd.call101 rfl (wpc_sound (M := MR) (PL := PL0) (CU := noCut) TTok mixed _ _ _ ?_)
  conv => whnf
  repeat ((first | refine ⟨rfl, ?_⟩ | (refine And.intro ?_ ?_; (focus (first | (simp only [pureL, pureV, pureL_bys, Bool.and_true, Bool.and_self]; done) | (simp only [pureL, pureV, pureL_bys, pureL_toks, Bool.and_true, Bool.and_self]; done))))); conv => whnf)
  refine ⟨_, _, h, by first | rfl | simp [noRoIf, noRoL, noRoV, noRoL_bys], ?_⟩
  conv => whnf
  refine ifB_dec (fun k1 => ?_) (fun k1 => ?_)
  · rw [if_neg (by omega)]
    conv => whnf
    repeat ((first | refine ⟨rfl, ?_⟩ | refine ⟨_, rfl, ?_⟩ | refine ⟨⟨rfl, rfl⟩, ?_⟩ | (refine ⟨⟨rfl, rfl, ?_⟩, ?_⟩; (focus (first | assumption | exact pureL_bys _ | exact pureL_toks _))) | (refine ⟨⟨rfl, rfl, ?_⟩, ?_⟩; (focus (first | exact Nat.le_of_ble_eq_true rfl | (simp; done))))); conv => whnf)
    rfl
  · rw [if_pos (by omega)]
    conv => whnf
    repeat ((refine And.intro ?_ ?_; (focus (first | (simp [limB, lenB, offB]; done) | (simp [limB, lenB, offB]; omega)))); conv => whnf)
    refine ⟨_, takeN_all (cs := bys t.b) (by simp; omega), ?_⟩
    conv => whnf
    refine ⟨⟨ones_bys _, by simp [cellsA]; omega⟩, ?_⟩
    conv => whnf
    refine ⟨bys t.b, ?_, ?_⟩
    · show takeN 32 (setN (List.replicate 32 (AV.int .u8 0)) 0 (bys t.b)) = some (bys t.b)
      rw [setN_eq _ _ _ (by simp; omega)]
      have : (List.replicate 32 (AV.int .u8 0)).take 0 ++ bys t.b ++ (List.replicate 32 (AV.int .u8 0)).drop (0 + (bys t.b).length) = bys t.b := by rw [List.drop_eq_nil_of_le (by simp; omega)]; simp
      rw [this]
      exact takeN_all (by simp; omega)
    conv => whnf
    repeat ((first | refine ⟨rfl, ?_⟩ | (refine ⟨⟨rfl, rfl, ?_⟩, ?_⟩; (focus (first | assumption | exact pureL_bys _ | exact pureL_toks _)))); conv => whnf)
    exact demsP_bys _ _ rfl
/-- The head of an array of so many, whose first one is a number. -/
def rWant (m f : Int) (r : Rw) : Rw :=
  if (rNext 5 r).1.n ≠ m then ⟨(rNext 5 r).2.l, true⟩ else if (rNext 1 (rNext 5 r).2).1.n ≠ f then ⟨(rNext 1 (rNext 5 r).2).2.l, true⟩ else (rNext 1 (rNext 5 r).2).2
theorem rwant_ok (r : Rw) (m f : Int) : ACall Tryd.prog 119 [.ref (rowC r), .int .i64 m, .int .i64 f] (.tuple []) [.ref (rowC (rWant m f r))] := by
  have h := rlist_ok r
  have h2 := rnum_ok (rNext 5 r).2
  unfold rWant
  generalize rNext 5 r = q at h h2 ⊢
  obtain ⟨t, r1⟩ := q
  dsimp only at h h2 ⊢
  generalize rNext 1 r1 = q at h2 ⊢
  obtain ⟨t2, r2⟩ := q
  dsimp only at h2 ⊢
  refine ACall.of_does TTok Tryd.func119 rfl Tryd.call119 rfl (wpc_sound (M := MR) (PL := PL0) (CU := noCut) TTok mixed _ _ _ ?_)
  conv => whnf
  repeat ((first | refine ⟨rfl, ?_⟩ | (refine And.intro ?_ ?_; (focus (first | (simp only [pureL, pureV, pureL_bys, Bool.and_true, Bool.and_self]; done) | (simp only [pureL, pureV, pureL_bys, pureL_toks, Bool.and_true, Bool.and_self]; done))))); conv => whnf)
  refine ⟨_, _, h, by first | rfl | simp [noRoIf, noRoL, noRoV, noRoL_bys], ?_⟩
  conv => whnf
  refine ifB_dec (fun k1 => ?_) (fun k1 => ?_)
  · rw [if_pos k1]
    conv => whnf
    repeat ((first | refine ifB_t ?_ | refine ⟨rfl, ?_⟩ | (refine ⟨⟨rfl, rfl, ?_⟩, ?_⟩; (focus (first | assumption | exact pureL_bys _ | exact pureL_toks _))) | (refine ⟨⟨rfl, rfl, ?_⟩, ?_⟩; (focus (first | exact Nat.le_of_ble_eq_true rfl | (simp; done))))); conv => whnf)
    rfl
  · rw [if_neg k1]
    conv => whnf
    repeat ((first | refine ifB_f ?_ | refine ⟨rfl, ?_⟩ | (refine And.intro ?_ ?_; (focus (first | (simp only [pureL, pureV, pureL_bys, Bool.and_true, Bool.and_self]; done) | (simp only [pureL, pureV, pureL_bys, pureL_toks, Bool.and_true, Bool.and_self]; done))))); conv => whnf)
    refine ⟨_, _, h2, by first | rfl | simp [noRoIf, noRoL, noRoV, noRoL_bys], ?_⟩
    conv => whnf
    repeat ((refine ifB_f ?_); conv => whnf)
    refine ifB_dec (fun k2 => ?_) (fun k2 => ?_)
    · rw [if_pos k2]
      conv => whnf
      repeat ((first | refine ⟨rfl, ?_⟩ | (refine ⟨⟨rfl, rfl, ?_⟩, ?_⟩; (focus (first | assumption | exact pureL_bys _ | exact pureL_toks _))) | (refine ⟨⟨rfl, rfl, ?_⟩, ?_⟩; (focus (first | exact Nat.le_of_ble_eq_true rfl | (simp; done))))); conv => whnf)
      rfl
    · rw [if_neg k2]
      conv => whnf
      repeat ((first | refine ⟨rfl, ?_⟩ | (refine ⟨⟨rfl, rfl, ?_⟩, ?_⟩; (focus (first | assumption | exact pureL_bys _ | exact pureL_toks _)))); conv => whnf)
      rfl
theorem rtext_ok (r : Rw) (hb : Byt (rNext 4 r).1.b) : ACall Tryd.prog 120 [.ref (rowC r)] (.str (rNext 4 r).1.b) [.ref (rowC (rNext 4 r).2)] := by
  have h := next_ok r 4
  generalize rNext 4 r = q at h hb ⊢
  refine ACall.of_does TTok Tryd.func120 rfl Tryd.call120 rfl (wpc_sound (M := MR) (PL := PL0) (CU := noCut) TTok mixed _ _ _ ?_)
  conv => whnf
  repeat ((first | refine ⟨rfl, ?_⟩ | (refine And.intro ?_ ?_; (focus (first | (simp only [pureL, pureV, pureL_bys, Bool.and_true, Bool.and_self]; done) | (simp only [pureL, pureV, pureL_bys, pureL_toks, Bool.and_true, Bool.and_self]; done))))); conv => whnf)
  refine ⟨_, _, h, by first | rfl | simp [noRoIf, noRoL, noRoV, noRoL_bys], ?_⟩
  conv => whnf
  repeat ((first | refine ⟨_, rfl, ?_⟩ | (refine And.intro ?_ ?_; (focus (first | (simp [limB, lenB, offB]; done) | (simp [limB, lenB, offB]; omega))))); conv => whnf)
  refine ⟨q.1.b, ⟨rfl, fun x hx => ⟨(hb x hx).1, by have := (hb x hx).2; omega⟩⟩, ?_⟩
  conv => whnf
  repeat ((first | refine ⟨rfl, ?_⟩ | (refine ⟨⟨rfl, rfl, ?_⟩, ?_⟩; (focus (first | assumption | exact pureL_bys _ | exact pureL_toks _)))); conv => whnf)
  rfl
theorem rsig_ok (r : Rw) : ACall Tryd.prog 122 [.ref (rowC r)] (.agg (bys (rArr 64 r).1)) [.ref (rowC (rArr 64 r).2)] := by
  have h := rstr_ok r
  unfold rArr
  generalize rNext 3 r = q at h ⊢
  obtain ⟨t, l, bad⟩ := q
  dsimp only at h ⊢
  refine ACall.of_does TTok Tryd.func122 rfl Tryd.call122 rfl (wpc_sound (M := MR) (PL := PL0) (CU := noCut) TTok mixed _ _ _ ?_)
  conv => whnf
  repeat ((first | refine ⟨rfl, ?_⟩ | (refine And.intro ?_ ?_; (focus (first | (simp only [pureL, pureV, pureL_bys, Bool.and_true, Bool.and_self]; done) | (simp only [pureL, pureV, pureL_bys, pureL_toks, Bool.and_true, Bool.and_self]; done))))); conv => whnf)
  refine ⟨_, _, h, by first | rfl | simp [noRoIf, noRoL, noRoV, noRoL_bys], ?_⟩
  conv => whnf
  refine ifB_dec (fun k1 => ?_) (fun k1 => ?_)
  · rw [if_neg (by omega)]
    conv => whnf
    repeat ((first | refine ⟨rfl, ?_⟩ | refine ⟨_, rfl, ?_⟩ | refine ⟨⟨rfl, rfl⟩, ?_⟩ | (refine ⟨⟨rfl, rfl, ?_⟩, ?_⟩; (focus (first | assumption | exact pureL_bys _ | exact pureL_toks _))) | (refine ⟨⟨rfl, rfl, ?_⟩, ?_⟩; (focus (first | exact Nat.le_of_ble_eq_true rfl | (simp; done))))); conv => whnf)
    rfl
  · rw [if_pos (by omega)]
    conv => whnf
    repeat ((refine And.intro ?_ ?_; (focus (first | (simp [limB, lenB, offB]; done) | (simp [limB, lenB, offB]; omega)))); conv => whnf)
    refine ⟨_, takeN_all (cs := bys t.b) (by simp; omega), ?_⟩
    conv => whnf
    refine ⟨⟨ones_bys _, by simp [cellsA]; omega⟩, ?_⟩
    conv => whnf
    refine ⟨bys t.b, ?_, ?_⟩
    · show takeN 64 (setN (List.replicate 64 (AV.int .u8 0)) 0 (bys t.b)) = some (bys t.b)
      rw [setN_eq _ _ _ (by simp; omega)]
      have : (List.replicate 64 (AV.int .u8 0)).take 0 ++ bys t.b ++ (List.replicate 64 (AV.int .u8 0)).drop (0 + (bys t.b).length) = bys t.b := by rw [List.drop_eq_nil_of_le (by simp; omega)]; simp
      rw [this]
      exact takeN_all (by simp; omega)
    conv => whnf
    repeat ((first | refine ⟨rfl, ?_⟩ | (refine ⟨⟨rfl, rfl, ?_⟩, ?_⟩; (focus (first | assumption | exact pureL_bys _ | exact pureL_toks _)))); conv => whnf)
    exact demsP_bys _ _ rfl
end Go.Proofs.YtelnlfhdaelfdaaDoor.Abs
end
section
set_option linter.unusedVariables false
set_option linter.unusedSimpArgs false
namespace Go.Proofs.YtelnlfhdaelfdaaDoor.Abs
open Go
structure Ent where
  au : List Int
  seq : Int
  prev : List Int
  stamp : Int
  kind : Int
  key : List Int
  val : List Int
  sig : List Int
  deriving DecidableEq
/-- An array of bytes, written out, ahead of other cells. -/
def c32 (l : List Int) (r : List AV) : List AV := .int .u8 (l.getD 0 0) :: .int .u8 (l.getD 1 0) :: .int .u8 (l.getD 2 0) :: .int .u8 (l.getD 3 0) :: .int .u8 (l.getD 4 0) :: .int .u8 (l.getD 5 0) :: .int .u8 (l.getD 6 0) :: .int .u8 (l.getD 7 0) :: .int .u8 (l.getD 8 0) :: .int .u8 (l.getD 9 0) :: .int .u8 (l.getD 10 0) :: .int .u8 (l.getD 11 0) :: .int .u8 (l.getD 12 0) :: .int .u8 (l.getD 13 0) :: .int .u8 (l.getD 14 0) :: .int .u8 (l.getD 15 0) :: .int .u8 (l.getD 16 0) :: .int .u8 (l.getD 17 0) :: .int .u8 (l.getD 18 0) :: .int .u8 (l.getD 19 0) :: .int .u8 (l.getD 20 0) :: .int .u8 (l.getD 21 0) :: .int .u8 (l.getD 22 0) :: .int .u8 (l.getD 23 0) :: .int .u8 (l.getD 24 0) :: .int .u8 (l.getD 25 0) :: .int .u8 (l.getD 26 0) :: .int .u8 (l.getD 27 0) :: .int .u8 (l.getD 28 0) :: .int .u8 (l.getD 29 0) :: .int .u8 (l.getD 30 0) :: .int .u8 (l.getD 31 0) :: r
def c64 (l : List Int) (r : List AV) : List AV := .int .u8 (l.getD 0 0) :: .int .u8 (l.getD 1 0) :: .int .u8 (l.getD 2 0) :: .int .u8 (l.getD 3 0) :: .int .u8 (l.getD 4 0) :: .int .u8 (l.getD 5 0) :: .int .u8 (l.getD 6 0) :: .int .u8 (l.getD 7 0) :: .int .u8 (l.getD 8 0) :: .int .u8 (l.getD 9 0) :: .int .u8 (l.getD 10 0) :: .int .u8 (l.getD 11 0) :: .int .u8 (l.getD 12 0) :: .int .u8 (l.getD 13 0) :: .int .u8 (l.getD 14 0) :: .int .u8 (l.getD 15 0) :: .int .u8 (l.getD 16 0) :: .int .u8 (l.getD 17 0) :: .int .u8 (l.getD 18 0) :: .int .u8 (l.getD 19 0) :: .int .u8 (l.getD 20 0) :: .int .u8 (l.getD 21 0) :: .int .u8 (l.getD 22 0) :: .int .u8 (l.getD 23 0) :: .int .u8 (l.getD 24 0) :: .int .u8 (l.getD 25 0) :: .int .u8 (l.getD 26 0) :: .int .u8 (l.getD 27 0) :: .int .u8 (l.getD 28 0) :: .int .u8 (l.getD 29 0) :: .int .u8 (l.getD 30 0) :: .int .u8 (l.getD 31 0) :: .int .u8 (l.getD 32 0) :: .int .u8 (l.getD 33 0) :: .int .u8 (l.getD 34 0) :: .int .u8 (l.getD 35 0) :: .int .u8 (l.getD 36 0) :: .int .u8 (l.getD 37 0) :: .int .u8 (l.getD 38 0) :: .int .u8 (l.getD 39 0) :: .int .u8 (l.getD 40 0) :: .int .u8 (l.getD 41 0) :: .int .u8 (l.getD 42 0) :: .int .u8 (l.getD 43 0) :: .int .u8 (l.getD 44 0) :: .int .u8 (l.getD 45 0) :: .int .u8 (l.getD 46 0) :: .int .u8 (l.getD 47 0) :: .int .u8 (l.getD 48 0) :: .int .u8 (l.getD 49 0) :: .int .u8 (l.getD 50 0) :: .int .u8 (l.getD 51 0) :: .int .u8 (l.getD 52 0) :: .int .u8 (l.getD 53 0) :: .int .u8 (l.getD 54 0) :: .int .u8 (l.getD 55 0) :: .int .u8 (l.getD 56 0) :: .int .u8 (l.getD 57 0) :: .int .u8 (l.getD 58 0) :: .int .u8 (l.getD 59 0) :: .int .u8 (l.getD 60 0) :: .int .u8 (l.getD 61 0) :: .int .u8 (l.getD 62 0) :: .int .u8 (l.getD 63 0) :: r
/-- A whole row of bytes, frozen. -/
def roW (l : List Int) : AV := .ro l.length (List.take (l.length * 1) (List.drop 0 (bys l)))
theorem roW_eq (l : List Int) : roW l = .ro l.length (bys l) := by unfold roW; rw [whole_bys]
def exN : Nat → Nat → List Int → List AV → List AV
  | 0, _, _, r => r
  | n + 1, i, l, r => .int .u8 (l.getD i 0) :: exN n (i + 1) l r
theorem exN_eq : ∀ (n i : Nat) (l : List Int) (r : List AV), i + n = l.length → exN n i l r = bys (l.drop i) ++ r
  | 0, i, l, r, h => by rw [exN, List.drop_eq_nil_of_le (by omega)]; rfl
  | n + 1, i, l, r, h => by
    have hi : i < l.length := by omega
    rw [exN, exN_eq n (i + 1) l r (by omega), List.drop_eq_getElem_cons hi, List.getD_eq_getElem?_getD, List.getElem?_eq_getElem hi]
    rfl
theorem c32_eq {l : List Int} (h : l.length = 32) (r : List AV) : c32 l r = bys l ++ r := (show c32 l r = exN 32 0 l r from rfl).trans (exN_eq 32 0 l r (by omega))
set_option maxRecDepth 4000 in
theorem c64_eq {l : List Int} (h : l.length = 64) (r : List AV) : c64 l r = bys l ++ r := (show c64 l r = exN 64 0 l r from rfl).trans (exN_eq 64 0 l r (by omega))
theorem c32_map {l : List Int} (h : l.length = 32) : c32 l [] = l.map (AV.int .u8) := by rw [c32_eq h, List.append_nil]; rfl
theorem c64_map {l : List Int} (h : l.length = 64) : c64 l [] = l.map (AV.int .u8) := by rw [c64_eq h, List.append_nil]; rfl
theorem okB_none (n : Nat) : okB none none n := by simp [okB]
theorem cut32 {l : List Int} (h : l.length = 32) (r : List AV) : cutB ((c32 l r).take (32 * 1)) none none 1 = bys l := by
  rw [c32_eq h, List.take_append_of_le_length (by simp [h]), List.take_of_length_le (by simp [h])]
  simp [cutB, offB, lenB, endB, h]
theorem cut64 {l : List Int} (h : l.length = 64) (r : List AV) : cutB ((c64 l r).take (64 * 1)) none none 1 = bys l := by
  rw [c64_eq h, List.take_append_of_le_length (by simp [h]), List.take_of_length_le (by simp [h])]
  simp [cutB, offB, lenB, endB, h]
theorem c32_one (l : List Int) (r : List AV) : (c32 l r).all AV.one = r.all AV.one := by simp [c32, AV.one]
theorem c64_one (l : List Int) (r : List AV) : (c64 l r).all AV.one = r.all AV.one := by simp [c64, AV.one]
theorem c32_pure (l : List Int) (r : List AV) : pureL (c32 l r) = pureL r := by simp [c32, pureL, pureV]
theorem c64_pure (l : List Int) (r : List AV) : pureL (c64 l r) = pureL r := by simp [c64, pureL, pureV]
theorem c32_frz (i : Nat) (zs : List AV) (l : List Int) (r : List AV) : frzL i zs (c32 l r) = c32 l (frzL i zs r) := by simp [c32, frzL, frzV]
theorem c64_frz (i : Nat) (zs : List AV) (l : List Int) (r : List AV) : frzL i zs (c64 l r) = c64 l (frzL i zs r) := by simp [c64, frzL, frzV]
theorem c32_app (l : List Int) (r q : List AV) : c32 l r ++ q = c32 l (r ++ q) := rfl
theorem c64_app (l : List Int) (r q : List AV) : c64 l r ++ q = c64 l (r ++ q) := rfl
theorem c32_les {o : Nat → Option Nat} {l : List Int} {r q : List AV} (h : lesP o r q) : lesP o (c32 l r) (c32 l q) := by
  simp only [c32, lesP, leP, and_self, true_and]; exact h
theorem c64_les {o : Nat → Option Nat} {l : List Int} {r q : List AV} (h : lesP o r q) : lesP o (c64 l r) (c64 l q) := by
  simp only [c64, lesP, leP, and_self, true_and]; exact h
theorem c32_len (l : List Int) (r : List AV) : (c32 l r).length = 32 + r.length := by simp [c32]; omega
theorem c64_len (l : List Int) (r : List AV) : (c64 l r).length = 64 + r.length := by simp [c64]; omega
def opC (e : Ent) : List AV := [.int .i64 e.kind, .str e.key, .ro e.val.length (bys e.val)]
def entC (e : Ent) : List AV := c32 e.au (.int .i64 e.seq :: c32 e.prev (.int .i64 e.stamp :: .int .i64 e.kind :: .str e.key :: .ro e.val.length (bys e.val) :: c64 e.sig []))
/-- What a value of the type is. -/
structure EntOk (e : Ent) : Prop where
  au : Byt e.au ∧ e.au.length = 32
  seq : -9223372036854775808 ≤ e.seq ∧ e.seq < 9223372036854775808
  prev : Byt e.prev ∧ e.prev.length = 32
  stamp : -9223372036854775808 ≤ e.stamp ∧ e.stamp < 9223372036854775808
  kind : -9223372036854775808 ≤ e.kind ∧ e.kind < 9223372036854775808
  key : Byt e.key ∧ e.key.length ≤ 9223372036854775807
  val : Byt e.val ∧ e.val.length ≤ 9223372036854775807
  sig : Byt e.sig ∧ e.sig.length = 64
def z32 : List Int := List.replicate 32 0
def z64 : List Int := List.replicate 64 0
def ent0 : Ent := ⟨z32, 0, z32, 0, 0, [], [], z64⟩
theorem entC_length (e : Ent) : (entC e).length = 133 := by simp [entC, c32_len, c64_len]
theorem entC_one (e : Ent) : (entC e).all AV.one = true := by simp [entC, c32_one, c64_one, AV.one]
theorem entC_pure (e : Ent) : pureL (entC e) = true := by simp [entC, c32_pure, c64_pure, pureL, pureV, pureL_bys]
theorem entC_frz (i : Nat) (zs : List AV) (e : Ent) : frzL i zs (entC e) = entC e := by simp [entC, c32_frz, c64_frz, frzL, frzV, frzL_bys]
theorem takeN_app : ∀ {m : Nat} {a b : List AV}, a.length = m → takeN m (a ++ b) = some a
  | 0, [], _, _ => by simp [takeN]
  | m + 1, c :: cs, b, h => by
    have ih := takeN_app (m := m) (a := cs) (b := b) (by simpa using h)
    simp [takeN, ih]
theorem lesP_ent {o : Nat → Option Nat} (e : Ent) {q : List AV} (h : q = entC e) : lesP o (entC e) q := by
  subst h
  unfold entC
  refine c32_les ⟨⟨rfl, rfl⟩, c32_les ⟨⟨rfl, rfl⟩, ⟨rfl, rfl⟩, rfl, ⟨rfl, rfl, pureL_bys _⟩, c64_les trivial⟩⟩
theorem lesP_app'' {o : Nat → Option Nat} : ∀ {a a' b b' : List AV}, lesP o a a' → lesP o b b' → lesP o (a ++ b) (a' ++ b')
  | [], [], _, _, _, h => h
  | [], _ :: _, _, _, h, _ => h.elim
  | _ :: _, [], _, _, h, _ => h.elim
  | x :: a, y :: a', b, b', h, k => ⟨h.1, lesP_app'' h.2 k⟩
theorem c32_dems {H : Heap} {l : List Int} {r q : List AV} {K : List Nat → Prop} (h : demsP H r q K) : demsP H (c32 l r) (c32 l q) K := by
  simp only [c32, demsP, demP, and_self, true_and, List.nil_append]; exact h
set_option maxRecDepth 4000 in
theorem c64_dems {H : Heap} {l : List Int} {r q : List AV} {K : List Nat → Prop} (h : demsP H r q K) : demsP H (c64 l r) (c64 l q) K := by
  simp only [c64, demsP, demP, and_self, true_and, List.nil_append]; exact h
theorem ent_dems {H : Heap} (e : Ent) {K : List Nat → Prop} (h : K []) : demsP H (entC e) (entC e) K := by
  unfold entC
  refine c32_dems ?_
  simp only [demsP, demP, and_self, true_and, List.nil_append]
  refine c32_dems ?_
  simp only [demsP, demP, and_self, true_and, List.nil_append]
  refine ⟨pureL_bys _, c64_dems ?_⟩
  simpa only [demsP] using h
theorem ent_int_dems {H : Heap} {e : Ent} {n : Int} {zs : List AV} {K : List Nat → Prop} (hz : zs = entC e) (h : K []) : demsP H [.tuple [.agg (entC e), .int .i64 n]] [.tuple [.agg zs, .int .i64 n]] K := by
  subst hz
  simp only [demsP, demP]
  refine ent_dems e ?_
  simpa only [and_self, true_and, List.nil_append] using h
/-- An entry's cells where nothing was put, and with no value. -/
def entV (e : Ent) (v : AV) : List AV := c32 e.au (.int .i64 e.seq :: c32 e.prev (.int .i64 e.stamp :: .int .i64 e.kind :: .str e.key :: v :: c64 e.sig []))
def zeroE : List AV := entV ent0 .nil
theorem ent0_dems {H : Heap} {K : List Nat → Prop} (h : K []) : demsP H (entC ent0) zeroE K := by
  unfold entC zeroE entV
  refine c32_dems ?_
  simp only [demsP, demP, and_self, true_and, List.nil_append]
  refine c32_dems ?_
  simp only [demsP, demP, and_self, true_and, List.nil_append]
  refine ⟨⟨rfl, rfl⟩, c64_dems ?_⟩
  simpa only [demsP] using h
theorem ent0_int_dems {H : Heap} {n : Int} {zs : List AV} {K : List Nat → Prop} (hz : zs = zeroE) (h : K []) : demsP H [.tuple [.agg (entC ent0), .int .i64 n]] [.tuple [.agg zs, .int .i64 n]] K := by
  subst hz
  simp only [demsP, demP]
  refine ent0_dems ?_
  simpa only [and_self, true_and, List.nil_append] using h
theorem rArr_len (m : Nat) (r : Rw) : (rArr m r).1.length = m := by
  unfold rArr
  split
  · assumption
  · simp
theorem rid_ok' (r : Rw) : ACall Tryd.prog 101 [.ref (rowC r)] (.agg (c32 (rArr 32 r).1 [])) [.ref (rowC (rArr 32 r).2)] := by
  rw [c32_eq (rArr_len 32 r), List.append_nil]; exact rid_ok r
theorem rsig_ok' (r : Rw) : ACall Tryd.prog 122 [.ref (rowC r)] (.agg (c64 (rArr 64 r).1 [])) [.ref (rowC (rArr 64 r).2)] := by
  rw [c64_eq (rArr_len 64 r), List.append_nil]; exact rsig_ok r
end Go.Proofs.YtelnlfhdaelfdaaDoor.Abs
end
section
--KR
set_option linter.unusedVariables false
set_option linter.unusedSimpArgs false
namespace Go.Proofs.YtelnlfhdaelfdaaDoor.Abs
open Go
attribute [local irreducible] ifB fitP Does Weaker
/-- May an operation be? -/
def opR (e : Ent) : Bool := decide (1 ≤ e.key.length) && decide (e.key.length ≤ 16) && validR e.key && ((decide (e.kind = 1) && decide (e.val.length ≤ 40)) || (decide (e.kind = 2) && decide (e.val.length = 0)))
/-- May an entry be? -/
def entR (e : Ent) : Bool := decide (1 ≤ e.seq) && decide (e.seq ≤ 200) && (decide (e.seq ≠ 1) || decide (e.prev = z32)) && decide (0 ≤ e.stamp) && opR e
def ME : FuncId → List Mode := orElse [(98, [.rd]), (67, [.rd]), (114, [.rd, .rd]), (93, [.rd, .rd]), (60, [.rd]), (999999, [.rd]), (104, [.rd]), (999999, [.rd]), (999999, [.rd]),
  (96, [.rd, .rd]), (999999, [.rd, .rd]), (64, [.rd]), (59, [.rd]), (102, [.rd]), (999999, [.rd])] MR
theorem dt {p : Prop} [Decidable p] (h : p) : decide p = true := decide_eq_true h
theorem df {p : Prop} [Decidable p] (h : ¬ p) : decide p = false := decide_eq_false h
theorem op_ok (e : Ent) (hk : Byt e.key) (hl : e.key.length ≤ 1099511627776) (hv : e.val.length ≤ 1099511627776) : ACall Tryd.prog 98 [.agg (opC e)] (.bool (opR e)) [] := by
  have hu := utf8_ok e.key hk hl
  unfold opR
  refine ACall.of_does TTok Tryd.func98 rfl Tryd.call98 rfl (wpc_sound (M := MR) (PL := PL0) (CU := noCut) TTok mixed _ _ _ ?_)
  by_cases c1 : 1 ≤ e.key.length
  · rw [dt c1]
    by_cases c2 : e.key.length ≤ 16
    · rw [dt c2]
      cases c3 : validR e.key <;> rw [c3] at hu
      · conv => whnf
        repeat ((first | refine ifB_f ?_ | (refine ifB_neg (decide_eq_false (by first | omega | rfl | (dsimp only; omega))) ?_) | refine ⟨pureL_bys _, ?_⟩ | (refine Or.inl ⟨⟨rfl, ?_⟩, ?_⟩; (focus (first | rfl | (simp; done) | (rw [toksC_length]; omega)))) | refine ⟨rfl, ?_⟩ | refine ⟨_, rfl, ?_⟩); conv => whnf)
        refine ⟨_, _, hu, by first | rfl | simp [noRoIf, noRoL, noRoV, noRoL_bys], ?_⟩
        conv => whnf
        repeat ((first | refine ifB_t ?_ | refine ifB_f ?_ | refine ⟨rfl, ?_⟩); conv => whnf)
        rfl
      · by_cases c4 : e.kind = 1
        · rw [dt c4, df (show ¬ e.kind = 2 by omega)]
          by_cases c5 : e.val.length ≤ 40
          · rw [dt c5]
            conv => whnf
            repeat ((first | refine ifB_f ?_ | (refine ifB_neg (decide_eq_false (by first | omega | rfl | (dsimp only; omega))) ?_) | refine ⟨pureL_bys _, ?_⟩ | (refine Or.inl ⟨⟨rfl, ?_⟩, ?_⟩; (focus (first | rfl | (simp; done) | (rw [toksC_length]; omega)))) | refine ⟨rfl, ?_⟩ | refine ⟨_, rfl, ?_⟩); conv => whnf)
            refine ⟨_, _, hu, by first | rfl | simp [noRoIf, noRoL, noRoV, noRoL_bys], ?_⟩
            conv => whnf
            repeat ((first | refine ifB_t ?_ | refine ifB_f ?_ | (refine ifB_pos (decide_eq_true (by first | omega | rfl | (dsimp only; omega))) ?_) | refine ⟨rfl, ?_⟩ | refine ⟨_, rfl, ?_⟩); conv => whnf)
            rfl
          · rw [df c5]
            conv => whnf
            repeat ((first | refine ifB_f ?_ | (refine ifB_neg (decide_eq_false (by first | omega | rfl | (dsimp only; omega))) ?_) | refine ⟨pureL_bys _, ?_⟩ | (refine Or.inl ⟨⟨rfl, ?_⟩, ?_⟩; (focus (first | rfl | (simp; done) | (rw [toksC_length]; omega)))) | refine ⟨rfl, ?_⟩ | refine ⟨_, rfl, ?_⟩); conv => whnf)
            refine ⟨_, _, hu, by first | rfl | simp [noRoIf, noRoL, noRoV, noRoL_bys], ?_⟩
            conv => whnf
            repeat ((first | refine ifB_t ?_ | refine ifB_f ?_ | (refine ifB_neg (decide_eq_false (by first | omega | rfl | (dsimp only; omega))) ?_) | (refine ifB_pos (decide_eq_true (by first | omega | rfl | (dsimp only; omega))) ?_) | refine ⟨rfl, ?_⟩ | refine ⟨_, rfl, ?_⟩); conv => whnf)
            rfl
        · rw [df c4]
          by_cases c6 : e.kind = 2
          · rw [dt c6]
            by_cases c7 : e.val.length = 0
            · rw [dt c7]
              conv => whnf
              repeat ((first | refine ifB_f ?_ | (refine ifB_neg (decide_eq_false (by first | omega | rfl | (dsimp only; omega))) ?_) | refine ⟨pureL_bys _, ?_⟩ | (refine Or.inl ⟨⟨rfl, ?_⟩, ?_⟩; (focus (first | rfl | (simp; done) | (rw [toksC_length]; omega)))) | refine ⟨rfl, ?_⟩ | refine ⟨_, rfl, ?_⟩); conv => whnf)
              refine ⟨_, _, hu, by first | rfl | simp [noRoIf, noRoL, noRoV, noRoL_bys], ?_⟩
              conv => whnf
              repeat ((first | refine ifB_t ?_ | refine ifB_f ?_ | (refine ifB_neg (decide_eq_false (by first | omega | rfl | (dsimp only; omega))) ?_) | (refine ifB_pos (decide_eq_true (by first | omega | rfl | (dsimp only; omega))) ?_) | refine ⟨_, rfl, ?_⟩); conv => whnf)
              exact ⟨dt (by omega), rfl⟩
            · rw [df c7]
              conv => whnf
              repeat ((first | refine ifB_f ?_ | (refine ifB_neg (decide_eq_false (by first | omega | rfl | (dsimp only; omega))) ?_) | refine ⟨pureL_bys _, ?_⟩ | (refine Or.inl ⟨⟨rfl, ?_⟩, ?_⟩; (focus (first | rfl | (simp; done) | (rw [toksC_length]; omega)))) | refine ⟨rfl, ?_⟩ | refine ⟨_, rfl, ?_⟩); conv => whnf)
              refine ⟨_, _, hu, by first | rfl | simp [noRoIf, noRoL, noRoV, noRoL_bys], ?_⟩
              conv => whnf
              repeat ((first | refine ifB_t ?_ | refine ifB_f ?_ | (refine ifB_neg (decide_eq_false (by first | omega | rfl | (dsimp only; omega))) ?_) | (refine ifB_pos (decide_eq_true (by first | omega | rfl | (dsimp only; omega))) ?_) | refine ⟨_, rfl, ?_⟩); conv => whnf)
              exact ⟨df (by omega), rfl⟩
          · rw [df c6]
            conv => whnf
            repeat ((first | refine ifB_f ?_ | (refine ifB_neg (decide_eq_false (by first | omega | rfl | (dsimp only; omega))) ?_) | refine ⟨pureL_bys _, ?_⟩ | (refine Or.inl ⟨⟨rfl, ?_⟩, ?_⟩; (focus (first | rfl | (simp; done) | (rw [toksC_length]; omega)))) | refine ⟨rfl, ?_⟩ | refine ⟨_, rfl, ?_⟩); conv => whnf)
            refine ⟨_, _, hu, by first | rfl | simp [noRoIf, noRoL, noRoV, noRoL_bys], ?_⟩
            conv => whnf
            repeat ((first | refine ifB_f ?_ | (refine ifB_neg (decide_eq_false (by first | omega | rfl | (dsimp only; omega))) ?_) | refine ⟨rfl, ?_⟩ | refine ⟨_, rfl, ?_⟩); conv => whnf)
            rfl
    · rw [df c2]
      conv => whnf
      repeat ((first | refine ifB_t ?_ | refine ifB_f ?_ | (refine ifB_neg (decide_eq_false (by first | omega | rfl | (dsimp only; omega))) ?_) | (refine ifB_pos (decide_eq_true (by first | omega | rfl | (dsimp only; omega))) ?_) | refine ⟨rfl, ?_⟩ | refine ⟨_, rfl, ?_⟩); conv => whnf)
      rfl
  · rw [df c1]
    conv => whnf
    repeat ((first | refine ifB_t ?_ | (refine ifB_pos (decide_eq_true (by first | omega | rfl | (dsimp only; omega))) ?_) | refine ⟨rfl, ?_⟩ | refine ⟨_, rfl, ?_⟩); conv => whnf)
    rfl
/-- What is known of an entry, with sizes that are. -/
structure EntS (e : Ent) : Prop extends EntOk e where
  key' : e.key.length ≤ 1000000000
  val' : e.val.length ≤ 1000000000
theorem check_entry_ok (e : Ent) (he : EntS e) : ACall Tryd.prog 67 [.agg (entC e)] (.int .i64 (if entR e then 0 else 1)) [] := by
  have ho := op_ok e he.key.1 (by have := he.key'; omega) (by have := he.val'; omega)
  unfold entR
  refine ACall.of_does TTok Tryd.func67 rfl Tryd.call67 rfl (wpc_sound (M := ME) (PL := PL0) (CU := noCut) TTok mixed _ _ _ ?_)
  by_cases c1 : 1 ≤ e.seq
  · rw [dt c1]
    by_cases c2 : e.seq ≤ 200
    · rw [dt c2]
      by_cases c3 : e.seq = 1
      · rw [df (show ¬ e.seq ≠ 1 by omega)]
        by_cases c4 : e.prev = z32
        · rw [dt c4]
          by_cases c5 : 0 ≤ e.stamp
          · rw [dt c5]
            conv => whnf
            repeat ((first | refine ifB_t ?_ | refine ifB_f ?_ | (refine ifB_neg (decide_eq_false (by first | omega | rfl | (dsimp only; omega))) ?_) | (refine ifB_pos (decide_eq_true (by first | omega | rfl | (dsimp only; omega))) ?_) | refine ⟨rfl, ?_⟩ | refine ⟨_, rfl, ?_⟩); conv => whnf)
            refine ⟨e.prev, z32, ⟨rfl, c32_map he.prev.2, rfl, he.prev.2, rfl⟩, ?_⟩
            conv => whnf
            repeat ((first | refine ifB_t ?_ | refine ifB_f ?_); conv => whnf)
            rw [dt c4]
            conv => whnf
            repeat ((first | refine ifB_f ?_ | (refine ifB_neg (decide_eq_false (by first | omega | rfl | (dsimp only; omega))) ?_) | refine ⟨entC_pure _, ?_⟩ | refine ⟨rfl, ?_⟩ | refine ⟨_, rfl, ?_⟩); conv => whnf)
            cases c6 : opR e <;> rw [c6] at ho
            · refine ⟨_, _, ho, by first | rfl | simp [noRoIf, noRoL, noRoV, noRoL_bys], ?_⟩
              conv => whnf
              repeat ((first | refine ifB_t ?_ | refine ifB_f ?_ | refine ⟨⟨rfl, rfl⟩, ?_⟩); conv => whnf)
              rfl
            · refine ⟨_, _, ho, by first | rfl | simp [noRoIf, noRoL, noRoV, noRoL_bys], ?_⟩
              conv => whnf
              repeat ((first | refine ifB_f ?_ | refine ⟨⟨rfl, rfl⟩, ?_⟩); conv => whnf)
              rfl
          · rw [df c5]
            conv => whnf
            repeat ((first | refine ifB_t ?_ | refine ifB_f ?_ | (refine ifB_neg (decide_eq_false (by first | omega | rfl | (dsimp only; omega))) ?_) | (refine ifB_pos (decide_eq_true (by first | omega | rfl | (dsimp only; omega))) ?_) | refine ⟨rfl, ?_⟩ | refine ⟨_, rfl, ?_⟩); conv => whnf)
            refine ⟨e.prev, z32, ⟨rfl, c32_map he.prev.2, rfl, he.prev.2, rfl⟩, ?_⟩
            conv => whnf
            repeat ((first | refine ifB_t ?_ | refine ifB_f ?_); conv => whnf)
            rw [dt c4]
            conv => whnf
            repeat ((first | refine ifB_t ?_ | refine ifB_f ?_ | (refine ifB_pos (decide_eq_true (by first | omega | rfl | (dsimp only; omega))) ?_) | refine ⟨_, rfl, ?_⟩ | refine ⟨⟨rfl, rfl⟩, ?_⟩); conv => whnf)
            rfl
        · rw [df c4]
          conv => whnf
          repeat ((first | refine ifB_t ?_ | refine ifB_f ?_ | (refine ifB_neg (decide_eq_false (by first | omega | rfl | (dsimp only; omega))) ?_) | (refine ifB_pos (decide_eq_true (by first | omega | rfl | (dsimp only; omega))) ?_) | refine ⟨rfl, ?_⟩ | refine ⟨_, rfl, ?_⟩); conv => whnf)
          refine ⟨e.prev, z32, ⟨rfl, c32_map he.prev.2, rfl, he.prev.2, rfl⟩, ?_⟩
          conv => whnf
          repeat ((first | refine ifB_t ?_ | refine ifB_f ?_); conv => whnf)
          rw [df c4]
          conv => whnf
          repeat ((first | refine ifB_t ?_ | refine ⟨⟨rfl, rfl⟩, ?_⟩); conv => whnf)
          rfl
      · rw [dt (show e.seq ≠ 1 from c3)]
        by_cases c5 : 0 ≤ e.stamp
        · rw [dt c5]
          conv => whnf
          repeat ((first | refine ifB_f ?_ | (refine ifB_neg (decide_eq_false (by first | omega | rfl | (dsimp only; omega))) ?_) | refine ⟨entC_pure _, ?_⟩ | refine ⟨rfl, ?_⟩ | refine ⟨_, rfl, ?_⟩); conv => whnf)
          cases c6 : opR e <;> rw [c6] at ho
          · refine ⟨_, _, ho, by first | rfl | simp [noRoIf, noRoL, noRoV, noRoL_bys], ?_⟩
            conv => whnf
            repeat ((first | refine ifB_t ?_ | refine ifB_f ?_ | refine ⟨⟨rfl, rfl⟩, ?_⟩); conv => whnf)
            rfl
          · refine ⟨_, _, ho, by first | rfl | simp [noRoIf, noRoL, noRoV, noRoL_bys], ?_⟩
            conv => whnf
            repeat ((first | refine ifB_f ?_ | refine ⟨⟨rfl, rfl⟩, ?_⟩); conv => whnf)
            rfl
        · rw [df c5]
          conv => whnf
          repeat ((first | refine ifB_t ?_ | refine ifB_f ?_ | (refine ifB_neg (decide_eq_false (by first | omega | rfl | (dsimp only; omega))) ?_) | (refine ifB_pos (decide_eq_true (by first | omega | rfl | (dsimp only; omega))) ?_) | refine ⟨rfl, ?_⟩ | refine ⟨_, rfl, ?_⟩ | refine ⟨⟨rfl, rfl⟩, ?_⟩); conv => whnf)
          rfl
    · rw [df c2]
      conv => whnf
      repeat ((first | refine ifB_t ?_ | refine ifB_f ?_ | (refine ifB_neg (decide_eq_false (by first | omega | rfl | (dsimp only; omega))) ?_) | (refine ifB_pos (decide_eq_true (by first | omega | rfl | (dsimp only; omega))) ?_) | refine ⟨rfl, ?_⟩ | refine ⟨_, rfl, ?_⟩ | refine ⟨⟨rfl, rfl⟩, ?_⟩); conv => whnf)
      rfl
  · rw [df c1]
    conv => whnf
    repeat ((first | refine ifB_t ?_ | (refine ifB_pos (decide_eq_true (by first | omega | rfl | (dsimp only; omega))) ?_) | refine ⟨rfl, ?_⟩ | refine ⟨_, rfl, ?_⟩ | refine ⟨⟨rfl, rfl⟩, ?_⟩); conv => whnf)
    rfl
end Go.Proofs.YtelnlfhdaelfdaaDoor.Abs
end
section
--KR
set_option linter.unusedVariables false
set_option linter.unusedSimpArgs false
namespace Go.Proofs.YtelnlfhdaelfdaaDoor.Abs
open Go
attribute [local irreducible] ifB fitP Does Weaker
/-- The tokens of the first parts of an entry, without its signature. -/
def entT (many : Int) (e : Ent) : List Tok := [⟨5, many, []⟩, ⟨1, 1, []⟩, ⟨3, 0, e.au⟩, ⟨1, e.seq, []⟩, ⟨3, 0, e.prev⟩, ⟨1, e.stamp, []⟩, ⟨5, 3, []⟩, ⟨1, e.kind, []⟩, ⟨4, 0, e.key⟩, ⟨3, 0, e.val⟩]
def entTs (e : Ent) : List Tok := entT 7 e ++ [⟨3, 0, e.sig⟩]
theorem ctext_ok (s : List Int) (hs : Byt s) (hl : s.length ≤ 17592186044416) : ACall Tryd.prog 126 [.str s] (.agg (tokC ⟨4, 0, s⟩)) [] := by
  refine ACall.of_does TTok Tryd.func126 rfl Tryd.call126 rfl (wpc_sound (M := MR) (PL := PL0) (CU := cutAt [99999]) TTok mixed _ _ _ ?_)
  conv => whnf
  repeat ((first | refine ⟨(⟨by kernel_rfl, by kernel_rfl, Nat.le_of_ble_eq_true (by kernel_rfl)⟩ : AV.ones _ = true ∧ _ ∧ _), ?_⟩ | refine ⟨rfl, ?_⟩); conv => whnf)
  refine Does.freeze 1 rfl (wpc_sound (M := ME) (PL := PL0) (CU := noCut) TTok mixed _ _ _ ?_)
  conv => whnf
  repeat ((first | refine ⟨_, rfl, ?_⟩ | refine ⟨⟨rfl, rfl⟩, ?_⟩); conv => whnf)
  exact ⟨⟨rfl, whole_bys s, pureL_bys _⟩, rfl⟩
def PLrow : Nat → Bool × Plan := plans [(1, (false, (takesTo [0, 3, 4, 6, 7, 9, 10, 12, 13, 16, 17, 18, 20, 21, 22, 24, 25, 26] (.all [(1, (.all [(2, (.all [(5, (.all [(8, (.all [(11, (.all [(14, (.all [(15, (.all [(19, (.all [(23, (.all [(27, (.all [(28, (takes [29]))]))]))]))]))]))]))]))]))]))]))]))))]
set_option maxRecDepth 20000 in
set_option maxHeartbeats 4000000 in
theorem row7_ok (e : Ent) (he : EntS e) : ACall Tryd.prog 114 [.agg (entC e), .int .i64 7] (.own 11 3 (toksC (entTs e))) [] := by
  refine ACall.of_does TTok Tryd.func114 rfl Tryd.call114 rfl (wpc_sound (M := ME) (PL := PLrow) (CU := cutAt [100001]) TTok mixed _ _ _ ?_)
  conv => whnf
  repeat ((refine ⟨rfl, ?_⟩); conv => whnf)
  refine Does.freeze 0 rfl (wpc_sound (M := ME) (PL := PLrow) (CU := noCut) TTok mixed _ _ _ ?_)
  conv => whnf
  refine ⟨by kernel_rfl, ?_⟩
  conv => whnf
  repeat ((first | (refine ⟨⟨by first | (simp only [List.drop_zero, List.length_drop, hds_len]; omega) | exact Nat.le_of_ble_eq_true (by kernel_rfl), okB_none _⟩, ?_⟩) | refine ⟨rfl, ?_⟩ | refine ⟨_, rfl, ?_⟩); conv => whnf)
  refine ⟨_, _, list_ok 7, by first | rfl | simp [noRoIf, noRoL, noRoV, noRoL_bys], ?_⟩
  conv => whnf
  repeat ((refine ⟨rfl, ?_⟩); conv => whnf)
  refine ⟨_, _, num_ok 1, by first | rfl | simp [noRoIf, noRoL, noRoV, noRoL_bys], ?_⟩
  conv => whnf
  repeat ((refine ⟨rfl, ?_⟩); conv => whnf)
  refine ⟨_, _, (cstr_ok e.au).arg1 he.au.2.symm (cut32 he.au.2 _), by first | rfl | simp [noRoIf, noRoL, noRoV, noRoL_bys], ?_⟩
  conv => whnf
  repeat ((refine ⟨rfl, ?_⟩); conv => whnf)
  refine ⟨_, _, num_ok e.seq, by first | rfl | simp [noRoIf, noRoL, noRoV, noRoL_bys], ?_⟩
  conv => whnf
  repeat ((refine ⟨rfl, ?_⟩); conv => whnf)
  refine ⟨_, _, (cstr_ok e.prev).arg1 he.prev.2.symm (cut32 he.prev.2 _), by first | rfl | simp [noRoIf, noRoL, noRoV, noRoL_bys], ?_⟩
  conv => whnf
  repeat ((refine ⟨rfl, ?_⟩); conv => whnf)
  refine ⟨_, _, num_ok e.stamp, by first | rfl | simp [noRoIf, noRoL, noRoV, noRoL_bys], ?_⟩
  conv => whnf
  repeat ((refine ⟨rfl, ?_⟩); conv => whnf)
  refine ⟨_, _, list_ok 3, by first | rfl | simp [noRoIf, noRoL, noRoV, noRoL_bys], ?_⟩
  conv => whnf
  repeat ((refine ⟨rfl, ?_⟩); conv => whnf)
  refine ⟨_, _, num_ok e.kind, by first | rfl | simp [noRoIf, noRoL, noRoV, noRoL_bys], ?_⟩
  conv => whnf
  repeat ((refine ⟨rfl, ?_⟩); conv => whnf)
  refine ⟨_, _, ctext_ok e.key he.key.1 (by have := he.key'; omega), by first | rfl | simp [noRoIf, noRoL, noRoV, noRoL_bys], ?_⟩
  conv => whnf
  repeat ((first | refine ⟨pureL_bys _, ?_⟩ | refine ⟨rfl, ?_⟩); conv => whnf)
  refine ⟨_, _, cstr_ok e.val, by first | rfl | simp [noRoIf, noRoL, noRoV, noRoL_bys], ?_⟩
  conv => whnf
  repeat ((first | refine ifB_t ?_ | (refine ⟨⟨by first | (simp only [List.drop_zero, List.length_drop, hds_len]; omega) | exact Nat.le_of_ble_eq_true (by kernel_rfl), okB_none _⟩, ?_⟩) | refine ⟨rfl, ?_⟩ | refine ⟨⟨rfl, rfl⟩, ?_⟩); conv => whnf)
  refine ⟨_, _, (cstr_ok e.sig).arg1 he.sig.2.symm (cut64 he.sig.2 _), by first | rfl | simp [noRoIf, noRoL, noRoV, noRoL_bys], ?_⟩
  conv => whnf
  repeat ((first | (refine Or.inl ⟨⟨rfl, ?_⟩, ?_⟩; (focus (first | rfl | (simp; done) | (rw [toksC_length]; omega)))) | refine ⟨rfl, ?_⟩ | refine ⟨⟨rfl, rfl⟩, ?_⟩ | (refine ⟨⟨rfl, ?_, ?_, ?_⟩, ?_⟩; (focus (first | (simp; done) | (simp; omega))); (focus (first | exact Or.inl rfl | exact Or.inr (by omega))); (focus (first | (simp [limB, lenB, offB]; done) | (simp [limB, lenB, offB]; omega))))); conv => whnf)
  exact ⟨⟨rfl, rfl, rfl, rfl, pureL_toks (entTs e)⟩, rfl⟩
/-- An entry's bytes, or why not. -/
def entB (e : Ent) : List Int × Int := if entR e then encR validR (entTs e) else ([], 1)
theorem entT_ok (many : Int) (hm : 0 ≤ many ∧ many ≤ 100) (e : Ent) (he : EntS e) : ToksOk (entT many e) ∧ ∀ t ∈ entT many e, t.b.length ≤ 1000000000 := by
  have h1 := he.seq; have h2 := he.stamp; have h3 := he.kind; have h4 := he.au; have h5 := he.prev; have h6 := he.key'; have h7 := he.val'
  constructor
  · intro t ht
    simp only [entT, List.mem_cons, List.mem_singleton, List.not_mem_nil, or_false] at ht
    rcases ht with rfl | rfl | rfl | rfl | rfl | rfl | rfl | rfl | rfl | rfl
    all_goals refine ⟨by dsimp only; omega, by dsimp only; omega, ?_⟩
    all_goals first | exact fun x hx => absurd hx (List.not_mem_nil) | exact h4.1 | exact h5.1 | exact he.key.1 | exact he.val.1
  · intro t ht
    simp only [entT, List.mem_cons, List.mem_singleton, List.not_mem_nil, or_false] at ht
    rcases ht with rfl | rfl | rfl | rfl | rfl | rfl | rfl | rfl | rfl | rfl
    all_goals dsimp only
    all_goals first | omega | (simp; done)
theorem entTs_ok (e : Ent) (he : EntS e) : ToksOk (entTs e) ∧ ∀ t ∈ entTs e, t.b.length ≤ 1000000000 := by
  have h := entT_ok 7 (by omega) e he
  constructor
  · intro t ht
    rcases List.mem_append.1 ht with ht | ht
    · exact h.1 t ht
    · simp only [List.mem_singleton] at ht
      subst ht
      exact ⟨by dsimp only; omega, by dsimp only; omega, he.sig.1⟩
  · intro t ht
    rcases List.mem_append.1 ht with ht | ht
    · exact h.2 t ht
    · simp only [List.mem_singleton] at ht
      subst ht
      have := he.sig.2
      dsimp only
      omega
end Go.Proofs.YtelnlfhdaelfdaaDoor.Abs
end
section
--KR
set_option linter.unusedVariables false
set_option linter.unusedSimpArgs false
namespace Go.Proofs.YtelnlfhdaelfdaaDoor.Abs
open Go
attribute [local irreducible] ifB fitP Does Weaker
theorem write7_ok (e : Ent) (he : EntS e) : ACall Tryd.prog 93 [.agg (entC e), .int .i64 7] (.tuple [.own (entB e).1.length 1 (bys (entB e).1), .int .i64 (entB e).2]) [] := by
  have hc := check_entry_ok e he
  unfold entB
  refine ACall.of_does TTok Tryd.func93 rfl Tryd.call93 rfl (wpc_sound (M := ME) (PL := PL0) (CU := noCut) TTok mixed _ _ _ ?_)
  cases c1 : entR e <;> rw [c1] at hc
  · conv => whnf
    repeat ((first | refine ⟨entC_pure _, ?_⟩ | refine ⟨rfl, ?_⟩ | refine ⟨_, rfl, ?_⟩); conv => whnf)
    refine ⟨_, _, hc, by first | rfl | simp [noRoIf, noRoL, noRoV, noRoL_bys], ?_⟩
    conv => whnf
    repeat ((first | refine ifB_t ?_ | refine ⟨⟨rfl, rfl⟩, ?_⟩); conv => whnf)
    rfl
  · have hr := row7_ok e he
    have ht := entTs_ok e he
    have hb := encode_ok (entTs e) ht.1 (fun t h => by have := ht.2 t h; omega)
    have hl : (entTs e).length = 11 := rfl
    clear ht
    generalize entTs e = l at hr hb hl
    conv => whnf
    repeat ((first | refine ⟨entC_pure _, ?_⟩ | refine ⟨rfl, ?_⟩ | refine ⟨_, rfl, ?_⟩); conv => whnf)
    refine ⟨_, _, hc, by first | rfl | simp [noRoIf, noRoL, noRoV, noRoL_bys], ?_⟩
    conv => whnf
    repeat ((first | refine ifB_f ?_ | refine ⟨entC_pure _, ?_⟩ | refine ⟨rfl, ?_⟩ | refine ⟨_, rfl, ?_⟩); conv => whnf)
    refine ⟨_, _, hr, by first | rfl | simp [noRoIf, noRoL, noRoV, noRoL_bys], ?_⟩
    conv => whnf
    repeat ((first | (refine Or.inl ⟨⟨rfl, ?_⟩, ?_⟩; (focus (first | rfl | (simp; done) | (rw [toksC_length]; omega)))) | refine ⟨rfl, ?_⟩ | (refine And.intro ?_ ?_; (focus (first | (simp only [pureL, pureV, pureL_bys, Bool.and_true, Bool.and_self]; done) | (simp only [pureL, pureV, pureL_bys, pureL_toks, Bool.and_true, Bool.and_self]; done))))); conv => whnf)
    refine ⟨_, _, hb.arg1 hl.symm rfl, by first | rfl | simp [noRoIf, noRoL, noRoV, noRoL_bys], ?_⟩
    conv => whnf
    repeat ((first | refine ⟨⟨rfl, rfl⟩, ?_⟩ | (refine ⟨⟨rfl, rfl, rfl, ?_, pureL_bys _⟩, ?_⟩; (focus (simp; done)))); conv => whnf)
    rfl
theorem ebytes_ok (e : Ent) (he : EntS e) : ACall Tryd.prog 60 [.agg (entC e)] (.tuple [.own (entB e).1.length 1 (bys (entB e).1), .int .i64 (entB e).2]) [] := by
  have h := write7_ok e he
  generalize entB e = q at h
  refine ACall.of_does TTok Tryd.func60 rfl Tryd.call60 rfl (wpc_sound (M := ME) (PL := PL0) (CU := noCut) TTok mixed _ _ _ ?_)
  conv => whnf
  repeat ((first | refine ⟨entC_pure _, ?_⟩ | refine ⟨rfl, ?_⟩ | refine ⟨_, rfl, ?_⟩); conv => whnf)
  refine ⟨_, _, h, by first | rfl | simp [noRoIf, noRoL, noRoV, noRoL_bys], ?_⟩
  conv => whnf
  repeat ((first | refine ⟨⟨rfl, rfl⟩, ?_⟩ | (refine ⟨⟨rfl, rfl, rfl, ?_, pureL_bys _⟩, ?_⟩; (focus (simp; done)))); conv => whnf)
  rfl
end Go.Proofs.YtelnlfhdaelfdaaDoor.Abs
end
section
set_option linter.unusedVariables false
set_option linter.unusedSimpArgs false
namespace Go.Proofs.YtelnlfhdaelfdaaDoor.Abs
open Go
theorem envL_tidy {f : Nat → AV} : ∀ (env : List (Nat × AV)), env.map (fun p => f p.1) = env.map (fun p => p.2) → ∀ t, envL env t = f t ∨ envL env t = .top
  | [], _, t => .inr rfl
  | (d, x) :: r, h, t => by
    simp only [List.map_cons, List.cons.injEq] at h
    unfold envL
    cases hb : Nat.beq t d with
    | true =>
      obtain rfl : t = d := Nat.eq_of_beq_eq_true hb
      exact .inl h.1.symm
    | false => exact envL_tidy r h.2 t
theorem heapL_none {m : Nat} : ∀ (heap : List (Nat × List AV)), heap.all (fun p => Nat.blt p.1 m) = true → ∀ i, m ≤ i → heapL heap i = none
  | [], _, _, _ => rfl
  | (d, x) :: r, h, i, hi => by
    simp only [List.all_cons, Bool.and_eq_true] at h
    unfold heapL
    cases hb : Nat.beq i d with
    | true =>
      obtain rfl : i = d := Nat.eq_of_beq_eq_true hb
      have := h.1
      rw [Nat.blt_eq] at this
      omega
    | false => exact heapL_none r h.2 i hi
theorem Weaker.tidy {k : Nat} {st : St} (env : List (Nat × AV)) (heap : List (Nat × List AV)) (nx n : Nat) (hn : st.n = n) (hx : st.nx = nx) (hb : heap.all (fun p => Nat.blt p.1 nx) = true)
    (he : env.map (fun p => st.env p.1) = env.map (fun p => p.2)) (hh : (List.range nx).map st.heap = (List.range nx).map (heapL heap)) : Weaker k st (mkSt env heap nx n) := by
  intro Z E a S
  have hH : heapL heap = st.heap := by
    funext i
    rcases Nat.lt_or_ge i nx with hi | hi
    · have h1 : ((List.range nx).map st.heap)[i]? = some (st.heap i) := by simp [hi]
      have h2 : ((List.range nx).map (heapL heap))[i]? = some (heapL heap i) := by simp [hi]
      rw [hh, h2] at h1
      exact Option.some.inj h1
    · rw [heapL_none heap hb i hi, (S.heap.fresh i (by omega)).2]
  refine ⟨E, ⟨?_, ?_, S.dfr, ?_⟩, rfl, ?_⟩
  · intro t
    change RepV E (envL env t) _
    rcases envL_tidy env he t with h | h
    · rw [h]; exact S.env t
    · rw [h]; simp [RepV]
  · exact S.sz.trans hn
  · change HeapRep Z E (heapL heap) nx
    rw [hH, ← hx]
    exact S.heap
  · change Flow k E st.heap E (heapL heap)
    rw [hH]
    exact Flow.refl _ _
theorem Does.tidy {P : Program} {k : Nat} {c : Code} {Q : AX → St → Prop} {st : St} (env : List (Nat × AV)) (heap : List (Nat × List AV)) (nx n : Nat) (hn : st.n = n) (hx : st.nx = nx) (hb : heap.all (fun p => Nat.blt p.1 nx) = true)
    (he : env.map (fun p => st.env p.1) = env.map (fun p => p.2)) (hh : (List.range nx).map st.heap = (List.range nx).map (heapL heap)) (h : Does P k c Q (mkSt env heap nx n)) : Does P k c Q st :=
  Does.weaker (Weaker.tidy env heap nx n hn hx hb he hh) h
theorem ACall.args {P : Program} {f : FuncId} {xs ys : List AV} {r : AV} {outs : List AV} (h : ACall P f ys r outs) (e : xs = ys) : ACall P f xs r outs := by
  subst e; exact h
end Go.Proofs.YtelnlfhdaelfdaaDoor.Abs
end
section
--KR
set_option linter.unusedVariables false
set_option linter.unusedSimpArgs false
namespace Go.Proofs.YtelnlfhdaelfdaaDoor.Abs
open Go
attribute [local irreducible] ifB fitP Does Weaker demsP
def RwOk (r : Rw) : Prop := ToksOk r.l ∧ ∀ t ∈ r.l, t.b.length ≤ 1000000000
theorem rNext_rok {r : Rw} (h : RwOk r) (k : Int) : RwOk (rNext k r).2 ∧ TokOk (rNext k r).1 ∧ (rNext k r).1.b.length ≤ 1000000000 := by
  have z : TokOk ⟨0, 0, []⟩ := ⟨by dsimp only; omega, by dsimp only; omega, fun x hx => absurd hx (List.not_mem_nil)⟩
  obtain ⟨l, bad⟩ := r
  unfold rNext
  split
  · exact ⟨h, z, by simp⟩
  · cases l with
    | nil => exact ⟨h, z, by simp⟩
    | cons t q =>
      dsimp only
      split
      · exact ⟨⟨fun x hx => h.1 x (List.mem_cons_of_mem _ hx), fun x hx => h.2 x (List.mem_cons_of_mem _ hx)⟩, h.1 t List.mem_cons_self, h.2 t List.mem_cons_self⟩
      · exact ⟨h, z, by simp⟩
theorem rArr_rok {r : Rw} (h : RwOk r) (m : Nat) : RwOk (rArr m r).2 ∧ Byt (rArr m r).1 ∧ (rArr m r).1.length = m := by
  refine ⟨?_, ?_, rArr_len m r⟩
  · unfold rArr
    split
    · exact (rNext_rok h 3).1
    · exact (rNext_rok h 3).1
  · unfold rArr
    split
    · exact (rNext_rok h 3).2.1.2.2
    · intro x hx
      rw [List.mem_replicate] at hx
      omega
theorem rWant_rok {r : Rw} (h : RwOk r) (m f : Int) : RwOk (rWant m f r) := by
  have h1 := (rNext_rok h 5).1
  have h2 := (rNext_rok h1 1).1
  unfold rWant
  split
  · exact h1
  · split
    · exact h2
    · exact h2
theorem rOpen_rok {b : List Int} (hb : Byt b) (hl : b.length ≤ 1000000000) : RwOk (rOpen b) := by
  unfold rOpen RwOk
  rcases decR_or validR b with h | ⟨l, h, _, hp⟩
  · rw [h]
    exact ⟨fun t ht => absurd ht (List.not_mem_nil), fun t ht => absurd ht (List.not_mem_nil)⟩
  · rw [h]
    have := pItem_toks b hb 7 ⟨0, [], false⟩ ⟨by simp [ToksOk], by simp⟩
    rw [hp] at this
    exact ⟨this.1, fun t ht => Nat.le_trans (this.2 t ht) hl⟩
theorem entV_whole (e : Ent) : entV e (.ro e.val.length (List.take (e.val.length * 1) (List.drop 0 (bys e.val)))) = entC e := by rw [whole_bys]; rfl
/-- The entry that a row is. -/
def rdE (r : Rw) : Ent × Int :=
  match rArr 32 r with
  | (au, r1) => match rNext 1 r1 with
    | (s, r2) => match rArr 32 r2 with
      | (prev, r3) => match rNext 1 r3 with
        | (st, r4) => match rNext 5 r4 with
          | (li, r5) => if li.n ≠ 3 then (ent0, 3) else match rNext 1 r5 with
            | (ki, r6) => match rNext 4 r6 with
              | (ke, r7) => match rNext 3 r7 with
                | (va, r8) => match rArr 64 r8 with
                  | (sig, r9) => if (!r9.bad && decide (r9.l = [])) = true then (if entR ⟨au, s.n, prev, st.n, ki.n, ke.b, va.b, sig⟩ = true then (⟨au, s.n, prev, st.n, ki.n, ke.b, va.b, sig⟩, 0) else (ent0, 3)) else (ent0, 3)
def rdEnt (b : List Int) : Ent × Int := rdE (rWant 7 1 (rOpen b))
set_option maxRecDepth 20000 in
set_option maxHeartbeats 1500000 in
theorem eread_ok (b : List Int) (hb : Byt b) (hl : b.length ≤ 1000000000) : ACall Tryd.prog 104 [.ro b.length (bys b)] (.tuple [.agg (entC (rdEnt b).1), .int .i64 (rdEnt b).2]) [] := by
  have k0 := rOpen_rok hb hl
  have h0 := open_ok b hb (by omega)
  unfold rdEnt
  generalize rOpen b = r0 at k0 h0 ⊢
  have h1 := rwant_ok r0 7 1
  have k1 := rWant_rok k0 7 1
  generalize rWant 7 1 r0 = r1 at h1 k1 ⊢
  unfold rdE
  have h2 := rid_ok' r1
  have k2 := rArr_rok k1 32
  generalize rArr 32 r1 = q at h2 k2 ⊢
  obtain ⟨au, r2⟩ := q
  dsimp only at h2 k2 ⊢
  have h3 := rnum_ok r2
  have k3 := rNext_rok k2.1 1
  generalize rNext 1 r2 = q at h3 k3 ⊢
  obtain ⟨s, r3⟩ := q
  dsimp only at h3 k3 ⊢
  have h4 := rid_ok' r3
  have k4 := rArr_rok k3.1 32
  generalize rArr 32 r3 = q at h4 k4 ⊢
  obtain ⟨prev, r4⟩ := q
  dsimp only at h4 k4 ⊢
  have h5 := rnum_ok r4
  have k5 := rNext_rok k4.1 1
  generalize rNext 1 r4 = q at h5 k5 ⊢
  obtain ⟨st, r5⟩ := q
  dsimp only at h5 k5 ⊢
  have h6 := rlist_ok r5
  have k6 := rNext_rok k5.1 5
  generalize rNext 5 r5 = q at h6 k6 ⊢
  obtain ⟨li, r6⟩ := q
  dsimp only at h6 k6 ⊢
  have h7 := rnum_ok r6
  have k7 := rNext_rok k6.1 1
  generalize rNext 1 r6 = q at h7 k7 ⊢
  obtain ⟨ki, r7⟩ := q
  dsimp only at h7 k7 ⊢
  have k8 := rNext_rok k7.1 4
  have h8 := rtext_ok r7 k8.2.1.2.2
  generalize rNext 4 r7 = q at h8 k8 ⊢
  obtain ⟨ke, r8⟩ := q
  dsimp only at h8 k8 ⊢
  have h9 := rstr_ok r8
  have k9 := rNext_rok k8.1 3
  generalize rNext 3 r8 = q at h9 k9 ⊢
  obtain ⟨va, r9⟩ := q
  dsimp only at h9 k9 ⊢
  have h10 := rsig_ok' r9
  have k10 := rArr_rok k9.1 64
  generalize rArr 64 r9 = q at h10 k10 ⊢
  obtain ⟨sig, r10⟩ := q
  dsimp only at h10 k10 ⊢
  have h11 := rdone_ok r10
  generalize (!r10.bad && decide (r10.l = [])) = dn at h11 ⊢
  have hcl := bclone_ok va.b (by have := k9.2.2; omega)
  have he : EntS ⟨au, s.n, prev, st.n, ki.n, ke.b, va.b, sig⟩ :=
    { au := k2.2, seq := k3.2.1.2.1, prev := k4.2, stamp := k5.2.1.2.1, kind := k7.2.1.2.1, key := ⟨k8.2.1.2.2, by have := k8.2.2; dsimp only; omega⟩, val := ⟨k9.2.1.2.2, by have := k9.2.2; dsimp only; omega⟩, sig := k10.2, key' := k8.2.2, val' := k9.2.2 }
  have h12 := check_entry_ok _ he
  refine ACall.of_does TTok Tryd.func104 rfl Tryd.call104 rfl (wpc_sound (M := ME) (PL := PL0) (CU := cutAt [100004, 100007, 100008, 100010]) TTok mixed _ _ _ ?_)
  conv => whnf
  repeat ((first | refine ⟨pureL_bys _, ?_⟩ | refine ⟨rfl, ?_⟩); conv => whnf)
  refine ⟨_, _, h0, by first | rfl | simp [noRoIf, noRoL, noRoV, noRoL_bys], ?_⟩
  conv => whnf
  repeat ((first | refine ⟨rfl, ?_⟩ | (refine And.intro ?_ ?_; (focus (first | (simp only [pureL, pureV, pureL_bys, Bool.and_true, Bool.and_self]; done) | (simp only [pureL, pureV, pureL_bys, pureL_toks, Bool.and_true, Bool.and_self]; done))))); conv => whnf)
  refine ⟨_, _, h1, by first | rfl | simp [noRoIf, noRoL, noRoV, noRoL_bys], ?_⟩
  conv => whnf
  repeat ((first | refine ⟨rfl, ?_⟩ | (refine And.intro ?_ ?_; (focus (first | (simp only [pureL, pureV, pureL_bys, Bool.and_true, Bool.and_self]; done) | (simp only [pureL, pureV, pureL_bys, pureL_toks, Bool.and_true, Bool.and_self]; done))))); conv => whnf)
  refine ⟨_, _, h2, by first | rfl | simp [noRoIf, noRoL, noRoV, noRoL_bys], ?_⟩
  conv => whnf
  repeat ((first | refine ⟨rfl, ?_⟩ | (refine And.intro ?_ ?_; (focus (first | (simp only [pureL, pureV, pureL_bys, Bool.and_true, Bool.and_self]; done) | (simp only [pureL, pureV, pureL_bys, pureL_toks, Bool.and_true, Bool.and_self]; done))))); conv => whnf)
  refine ⟨_, _, h3, by first | rfl | simp [noRoIf, noRoL, noRoV, noRoL_bys], ?_⟩
  conv => whnf
  repeat ((first | refine ⟨rfl, ?_⟩ | (refine And.intro ?_ ?_; (focus (first | (simp only [pureL, pureV, pureL_bys, Bool.and_true, Bool.and_self]; done) | (simp only [pureL, pureV, pureL_bys, pureL_toks, Bool.and_true, Bool.and_self]; done))))); conv => whnf)
  refine ⟨_, _, h4, by first | rfl | simp [noRoIf, noRoL, noRoV, noRoL_bys], ?_⟩
  conv => whnf
  repeat ((first | refine ⟨rfl, ?_⟩ | (refine And.intro ?_ ?_; (focus (first | (simp only [pureL, pureV, pureL_bys, Bool.and_true, Bool.and_self]; done) | (simp only [pureL, pureV, pureL_bys, pureL_toks, Bool.and_true, Bool.and_self]; done))))); conv => whnf)
  refine ⟨_, _, h5, by first | rfl | simp [noRoIf, noRoL, noRoV, noRoL_bys], ?_⟩
  conv => whnf
  repeat ((first | refine ⟨(⟨by kernel_rfl, by kernel_rfl, Nat.le_of_ble_eq_true (by kernel_rfl)⟩ : AV.ones _ = true ∧ _ ∧ _), ?_⟩ | refine ⟨rfl, ?_⟩ | refine ⟨⟨rfl, rfl⟩, ?_⟩); conv => whnf)
  refine Does.tidy [(2, .ptr 0 0), (4, .ptr 1 0), (5, .ptr 2 0)] [(0, zeroE), (1, rowC r5), (2, c32 au (.int .i64 s.n :: c32 prev (.int .i64 st.n :: .int .i64 0 :: .str [] :: .nil :: c64 z64 [])))] 3 45 rfl rfl rfl (by kernel_rfl) (by kernel_rfl) ?_
  clear h0 h1 h2 h3 h4 h5
  refine wpc_sound (M := ME) (PL := PL0) (CU := noCut) TTok mixed _ _ _ ?_
  conv => whnf
  repeat ((first | refine ⟨rfl, ?_⟩ | (refine And.intro ?_ ?_; (focus (first | (simp only [pureL, pureV, pureL_bys, Bool.and_true, Bool.and_self]; done) | (simp only [pureL, pureV, pureL_bys, pureL_toks, Bool.and_true, Bool.and_self]; done))))); conv => whnf)
  refine ⟨_, _, h6, by first | rfl | simp [noRoIf, noRoL, noRoV, noRoL_bys], ?_⟩
  conv => whnf
  by_cases c1 : li.n ≠ 3
  · rw [if_pos c1]
    refine ifB_pos (dt c1) ?_
    conv => whnf
    repeat ((first | refine ⟨(⟨by kernel_rfl, by kernel_rfl, Nat.le_of_ble_eq_true (by kernel_rfl)⟩ : AV.ones _ = true ∧ _ ∧ _), ?_⟩ | refine ⟨_, rfl, ?_⟩); conv => whnf)
    refine ent0_int_dems (by kernel_rfl) ?_
    rfl
  rw [if_neg c1]
  refine ifB_neg (df c1) ?_
  conv => whnf
  repeat ((first | refine ⟨rfl, ?_⟩ | (refine And.intro ?_ ?_; (focus (first | (simp only [pureL, pureV, pureL_bys, Bool.and_true, Bool.and_self]; done) | (simp only [pureL, pureV, pureL_bys, pureL_toks, Bool.and_true, Bool.and_self]; done))))); conv => whnf)
  refine ⟨_, _, h7, by first | rfl | simp [noRoIf, noRoL, noRoV, noRoL_bys], ?_⟩
  conv => whnf
  repeat ((first | refine ⟨rfl, ?_⟩ | (refine And.intro ?_ ?_; (focus (first | (simp only [pureL, pureV, pureL_bys, Bool.and_true, Bool.and_self]; done) | (simp only [pureL, pureV, pureL_bys, pureL_toks, Bool.and_true, Bool.and_self]; done))))); conv => whnf)
  refine ⟨_, _, h8, by first | rfl | simp [noRoIf, noRoL, noRoV, noRoL_bys], ?_⟩
  conv => whnf
  repeat ((first | refine ⟨rfl, ?_⟩ | (refine And.intro ?_ ?_; (focus (first | (simp only [pureL, pureV, pureL_bys, Bool.and_true, Bool.and_self]; done) | (simp only [pureL, pureV, pureL_bys, pureL_toks, Bool.and_true, Bool.and_self]; done))))); conv => whnf)
  refine ⟨_, _, h9, by first | rfl | simp [noRoIf, noRoL, noRoV, noRoL_bys], ?_⟩
  conv => whnf
  repeat ((first | refine ⟨pureL_bys _, ?_⟩ | refine ⟨rfl, ?_⟩); conv => whnf)
  refine ⟨_, _, hcl, by first | rfl | simp [noRoIf, noRoL, noRoV, noRoL_bys], ?_⟩
  conv => whnf
  repeat ((refine ⟨(⟨by kernel_rfl, by kernel_rfl, Nat.le_of_ble_eq_true (by kernel_rfl)⟩ : AV.ones _ = true ∧ _ ∧ _), ?_⟩); conv => whnf)
  refine Does.tidy [(2, .ptr 0 0), (4, .ptr 1 0), (5, .ptr 2 0)] [(0, zeroE), (1, rowC r9), (2, entV ⟨au, s.n, prev, st.n, ki.n, ke.b, va.b, z64⟩ (.sl 3 0 va.b.length 1 false)), (3, bys va.b)] 4 45 rfl rfl rfl (by kernel_rfl) (by kernel_rfl) ?_
  clear h6 h7 h8 h9 hcl
  refine wpc_sound (M := ME) (PL := PL0) (CU := noCut) TTok mixed _ _ _ ?_
  conv => whnf
  repeat ((first | refine ⟨rfl, ?_⟩ | (refine And.intro ?_ ?_; (focus (first | (simp only [pureL, pureV, pureL_bys, Bool.and_true, Bool.and_self]; done) | (simp only [pureL, pureV, pureL_bys, pureL_toks, Bool.and_true, Bool.and_self]; done))))); conv => whnf)
  refine ⟨_, _, h10, by first | rfl | simp [noRoIf, noRoL, noRoV, noRoL_bys], ?_⟩
  conv => whnf
  repeat ((refine ⟨(⟨by kernel_rfl, by kernel_rfl, Nat.le_of_ble_eq_true (by kernel_rfl)⟩ : AV.ones _ = true ∧ _ ∧ _), ?_⟩); conv => whnf)
  refine Does.freeze 3 rfl (Does.tidy [(2, .ptr 0 0), (4, .ptr 1 0), (5, .ptr 2 0)] [(0, zeroE), (1, rowC r10), (2, entC ⟨au, s.n, prev, st.n, ki.n, ke.b, va.b, sig⟩)] 4 45 rfl rfl rfl (by kernel_rfl) (by rw [← entV_whole]; kernel_rfl) ?_)
  clear h10
  generalize (⟨au, s.n, prev, st.n, ki.n, ke.b, va.b, sig⟩ : Ent) = e at h12 ⊢
  refine wpc_sound (M := ME) (PL := PL0) (CU := noCut) TTok mixed _ _ _ ?_
  conv => whnf
  repeat ((first | refine ⟨rfl, ?_⟩ | (refine And.intro ?_ ?_; (focus (first | (simp only [pureL, pureV, pureL_bys, Bool.and_true, Bool.and_self]; done) | (simp only [pureL, pureV, pureL_bys, pureL_toks, Bool.and_true, Bool.and_self]; done))))); conv => whnf)
  refine ⟨_, _, h11, by first | rfl | simp [noRoIf, noRoL, noRoV, noRoL_bys], ?_⟩
  conv => whnf
  cases dn
  · conv => whnf
    repeat ((first | refine ifB_t ?_ | refine ⟨(⟨by kernel_rfl, by kernel_rfl, Nat.le_of_ble_eq_true (by kernel_rfl)⟩ : AV.ones _ = true ∧ _ ∧ _), ?_⟩ | refine ⟨_, rfl, ?_⟩); conv => whnf)
    refine ent0_int_dems (by kernel_rfl) ?_
    rfl
  simp only [if_true]
  cases c2 : entR e <;> rw [c2] at h12
  · conv => whnf
    repeat ((first | refine ifB_f ?_ | refine ⟨entC_pure _, ?_⟩ | refine ⟨rfl, ?_⟩ | refine ⟨_, rfl, ?_⟩); conv => whnf)
    refine ⟨_, _, h12, by first | rfl | simp [noRoIf, noRoL, noRoV, noRoL_bys], ?_⟩
    conv => whnf
    repeat ((first | refine ifB_t ?_ | refine ifB_f ?_ | refine ⟨(⟨by kernel_rfl, by kernel_rfl, Nat.le_of_ble_eq_true (by kernel_rfl)⟩ : AV.ones _ = true ∧ _ ∧ _), ?_⟩ | refine ⟨_, rfl, ?_⟩); conv => whnf)
    refine ent0_int_dems (by kernel_rfl) ?_
    rfl
  · conv => whnf
    repeat ((first | refine ifB_f ?_ | refine ⟨entC_pure _, ?_⟩ | refine ⟨rfl, ?_⟩ | refine ⟨_, rfl, ?_⟩); conv => whnf)
    refine ⟨_, _, h12, by first | rfl | simp [noRoIf, noRoL, noRoV, noRoL_bys], ?_⟩
    conv => whnf
    repeat ((refine ifB_f ?_); conv => whnf)
    refine Does.tidy [(2, .ptr 0 0), (5, .ptr 2 0)] [(0, zeroE), (1, rowC r10), (2, entC e)] 4 45 rfl rfl rfl (by kernel_rfl) (by kernel_rfl) ?_
    refine wpc_sound (M := ME) (PL := PL0) (CU := noCut) TTok mixed _ _ _ ?_
    conv => whnf
    refine ⟨entC e, by kernel_rfl, ?_⟩
    conv => whnf
    refine ⟨(⟨by kernel_rfl, by kernel_rfl, Nat.le_of_ble_eq_true (by kernel_rfl)⟩ : AV.ones _ = true ∧ _ ∧ _), ?_⟩
    conv => whnf
    refine ⟨entC e, by kernel_rfl, ?_⟩
    conv => whnf
    refine ent_int_dems (by kernel_rfl) ?_
    rfl
/-- What is read is an entry's. -/
theorem rdE_entS {r : Rw} (h : RwOk r) : EntS (rdE r).1 ∧ ((rdE r).2 = 0 → entR (rdE r).1 = true) := by
  have z : EntS ent0 := by
    have hz : Byt z32 := fun x hx => by simp only [z32, List.mem_replicate] at hx; omega
    have hz' : Byt z64 := fun x hx => by simp only [z64, List.mem_replicate] at hx; omega
    have hn : Byt [] := fun x hx => absurd hx (List.not_mem_nil)
    exact { au := ⟨hz, rfl⟩, seq := by decide, prev := ⟨hz, rfl⟩, stamp := by decide, kind := by decide, key := ⟨hn, by decide⟩, val := ⟨hn, by decide⟩, sig := ⟨hz', rfl⟩, key' := by decide, val' := by decide }
  unfold rdE
  have k2 := rArr_rok h 32
  generalize rArr 32 r = q at k2 ⊢
  obtain ⟨au, r2⟩ := q
  dsimp only at k2 ⊢
  have k3 := rNext_rok k2.1 1
  generalize rNext 1 r2 = q at k3 ⊢
  obtain ⟨s, r3⟩ := q
  dsimp only at k3 ⊢
  have k4 := rArr_rok k3.1 32
  generalize rArr 32 r3 = q at k4 ⊢
  obtain ⟨prev, r4⟩ := q
  dsimp only at k4 ⊢
  have k5 := rNext_rok k4.1 1
  generalize rNext 1 r4 = q at k5 ⊢
  obtain ⟨st, r5⟩ := q
  dsimp only at k5 ⊢
  have k6 := rNext_rok k5.1 5
  generalize rNext 5 r5 = q at k6 ⊢
  obtain ⟨li, r6⟩ := q
  dsimp only at k6 ⊢
  have k7 := rNext_rok k6.1 1
  generalize rNext 1 r6 = q at k7 ⊢
  obtain ⟨ki, r7⟩ := q
  dsimp only at k7 ⊢
  have k8 := rNext_rok k7.1 4
  generalize rNext 4 r7 = q at k8 ⊢
  obtain ⟨ke, r8⟩ := q
  dsimp only at k8 ⊢
  have k9 := rNext_rok k8.1 3
  generalize rNext 3 r8 = q at k9 ⊢
  obtain ⟨va, r9⟩ := q
  dsimp only at k9 ⊢
  have k10 := rArr_rok k9.1 64
  generalize rArr 64 r9 = q at k10 ⊢
  obtain ⟨sig, r10⟩ := q
  dsimp only at k10 ⊢
  split
  · exact ⟨z, fun e => by cases e⟩
  · split
    · split
      · rename_i c
        exact ⟨{ au := k2.2, seq := k3.2.1.2.1, prev := k4.2, stamp := k5.2.1.2.1, kind := k7.2.1.2.1, key := ⟨k8.2.1.2.2, by have := k8.2.2; dsimp only; omega⟩, val := ⟨k9.2.1.2.2, by have := k9.2.2; dsimp only; omega⟩, sig := k10.2, key' := k8.2.2, val' := k9.2.2 }, fun _ => c⟩
      · exact ⟨z, fun e => by cases e⟩
    · exact ⟨z, fun e => by cases e⟩
theorem rdEnt_entS {b : List Int} (hb : Byt b) (hl : b.length ≤ 1000000000) : EntS (rdEnt b).1 ∧ ((rdEnt b).2 = 0 → entR (rdEnt b).1 = true) := rdE_entS (rWant_rok (rOpen_rok hb hl) 7 1)
end Go.Proofs.YtelnlfhdaelfdaaDoor.Abs
end
section
--KR
set_option linter.unusedVariables false
set_option linter.unusedSimpArgs false
namespace Go.Proofs.YtelnlfhdaelfdaaDoor.Abs
open Go
attribute [local irreducible] ifB fitP Does Weaker
structure Prf where
  a : Ent
  b : Ent
  deriving DecidableEq
def prfC (p : Prf) : List AV := entC p.a ++ entC p.b
structure PrfS (p : Prf) : Prop where
  a : EntS p.a
  b : EntS p.b
def prf0 : Prf := ⟨ent0, ent0⟩
theorem entB_byt {e : Ent} (he : EntS e) : Byt (entB e).1 ∧ (entB e).1.length ≤ 32768 := by
  unfold entB
  split
  · refine ⟨encR_byt _ (entTs_ok e he).1, ?_⟩
    rcases encR_or validR (entTs e) with h | ⟨a, h⟩
    · rw [h]; simp
    · have := encR_len h
      rw [h]; exact this
  · exact ⟨fun x hx => absurd hx (List.not_mem_nil), by simp⟩
theorem ent_dems' {H : Heap} (e : Ent) {r q : List AV} {K : List Nat → Prop} (h : demsP H r q K) : demsP H (entC e ++ r) (entC e ++ q) K := by
  unfold entC
  simp only [c32_app, List.cons_append]
  refine c32_dems ?_
  simp only [demsP, demP, and_self, true_and, List.nil_append]
  refine c32_dems ?_
  simp only [demsP, demP, and_self, true_and, List.nil_append]
  refine ⟨pureL_bys _, ?_⟩
  simp only [c64_app]
  exact c64_dems h
theorem ent0_dems' {H : Heap} {r q : List AV} {K : List Nat → Prop} (h : demsP H r q K) : demsP H (entC ent0 ++ r) (zeroE ++ q) K := by
  unfold entC zeroE entV
  simp only [c32_app, List.cons_append]
  refine c32_dems ?_
  simp only [demsP, demP, and_self, true_and, List.nil_append]
  refine c32_dems ?_
  simp only [demsP, demP, and_self, true_and, List.nil_append]
  refine ⟨⟨rfl, rfl⟩, ?_⟩
  simp only [c64_app]
  exact c64_dems h
theorem prf_int_dems {H : Heap} {p : Prf} {n : Int} {zs : List AV} {K : List Nat → Prop} (hz : zs = prfC p) (h : K []) : demsP H [.tuple [.agg (prfC p), .int .i64 n]] [.tuple [.agg zs, .int .i64 n]] K := by
  subst hz
  simp only [demsP, demP]
  refine ent_dems' p.a ?_
  refine ent_dems p.b ?_
  simpa only [and_self, true_and, List.nil_append] using h
theorem prf0_int_dems {H : Heap} {n : Int} {zs : List AV} {K : List Nat → Prop} (hz : zs = zeroE ++ zeroE) (h : K []) : demsP H [.tuple [.agg (prfC prf0), .int .i64 n]] [.tuple [.agg zs, .int .i64 n]] K := by
  subst hz
  simp only [demsP, demP]
  refine ent0_dems' ?_
  refine ent0_dems ?_
  simpa only [and_self, true_and, List.nil_append] using h
/-- How the bytes of two entries, of one author and place, are ordered. -/
def ordR (a b : Ent) : Int := if (entB a).2 ≠ 0 then 0 else if (entB b).2 ≠ 0 then 0 else if a.au ≠ b.au then 0 else if a.seq ≠ b.seq then 0 else cmpI (entB a).1 (entB b).1
def prfR (p : Prf) : Bool := decide (ordR p.a p.b < 0)
set_option maxHeartbeats 1000000 in
theorem order_ok (a b : Ent) (ha : EntS a) (hb : EntS b) : ACall Tryd.prog 96 [.agg (entC a), .agg (entC b)] (.int .i64 (ordR a b)) [] := by
  have h1 := ebytes_ok a ha
  have h2 := ebytes_ok b hb
  have b1 := entB_byt ha
  have b2 := entB_byt hb
  unfold ordR
  generalize entB a = p at h1 b1 ⊢
  generalize entB b = q at h2 b2 ⊢
  obtain ⟨x, e⟩ := p
  obtain ⟨y, f⟩ := q
  dsimp only at h1 b1 h2 b2 ⊢
  have hc := compare_ok x y b1.1 b2.1
  refine ACall.of_does TTok Tryd.func96 rfl Tryd.call96 rfl (wpc_sound (M := ME) (PL := PL0) (CU := cutAt [100003]) TTok mixed _ _ _ ?_)
  conv => whnf
  repeat ((first | refine ⟨entC_pure _, ?_⟩ | refine ⟨rfl, ?_⟩ | refine ⟨_, rfl, ?_⟩); conv => whnf)
  refine ⟨_, _, h1, by first | rfl | simp [noRoIf, noRoL, noRoV, noRoL_bys], ?_⟩
  conv => whnf
  repeat ((first | refine ⟨entC_pure _, ?_⟩ | refine ⟨rfl, ?_⟩ | refine ⟨_, rfl, ?_⟩); conv => whnf)
  refine ⟨_, _, h2, by first | rfl | simp [noRoIf, noRoL, noRoV, noRoL_bys], ?_⟩
  conv => whnf
  refine Does.tidy [(2, .ptr 0 0), (3, .ptr 1 0), (5, .sl 2 0 x.length 1 false), (6, .int .i64 e), (7, .sl 3 0 y.length 1 false), (8, .int .i64 f)] [(0, entC a), (1, entC b), (2, bys x), (3, bys y)] 4 42 rfl rfl rfl (by kernel_rfl) (by kernel_rfl) ?_
  refine wpc_sound (M := ME) (PL := PL0) (CU := noCut) TTok mixed _ _ _ ?_
  by_cases c1 : e ≠ 0
  · rw [if_pos c1]
    conv => whnf
    repeat ((first | refine ifB_t ?_ | (refine ifB_pos (decide_eq_true (by first | omega | rfl | (dsimp only; omega))) ?_) | refine ⟨⟨rfl, rfl⟩, ?_⟩); conv => whnf)
    rfl
  rw [if_neg c1]
  by_cases c2 : f ≠ 0
  · rw [if_pos c2]
    conv => whnf
    repeat ((first | refine ifB_t ?_ | refine ifB_f ?_ | (refine ifB_neg (decide_eq_false (by first | omega | rfl | (dsimp only; omega))) ?_) | (refine ifB_pos (decide_eq_true (by first | omega | rfl | (dsimp only; omega))) ?_) | refine ⟨⟨rfl, rfl⟩, ?_⟩); conv => whnf)
    rfl
  rw [if_neg c2]
  by_cases c3 : a.au ≠ b.au
  · rw [if_pos c3]
    conv => whnf
    repeat ((first | refine ifB_f ?_ | (refine ifB_neg (decide_eq_false (by first | omega | rfl | (dsimp only; omega))) ?_) | refine ⟨_, rfl, ?_⟩); conv => whnf)
    refine ⟨a.au, b.au, ⟨rfl, c32_map ha.au.2, c32_map hb.au.2, ha.au.2, hb.au.2⟩, ?_⟩
    conv => whnf
    repeat ((refine ifB_f ?_); conv => whnf)
    rw [df (show ¬ a.au = b.au from c3)]
    conv => whnf
    repeat ((first | refine ifB_t ?_ | refine ⟨⟨rfl, rfl⟩, ?_⟩); conv => whnf)
    rfl
  rw [if_neg c3]
  by_cases c4 : a.seq ≠ b.seq
  · rw [if_pos c4]
    conv => whnf
    repeat ((first | refine ifB_f ?_ | (refine ifB_neg (decide_eq_false (by first | omega | rfl | (dsimp only; omega))) ?_) | refine ⟨_, rfl, ?_⟩); conv => whnf)
    refine ⟨a.au, b.au, ⟨rfl, c32_map ha.au.2, c32_map hb.au.2, ha.au.2, hb.au.2⟩, ?_⟩
    conv => whnf
    repeat ((refine ifB_f ?_); conv => whnf)
    rw [dt (show a.au = b.au from Classical.not_not.1 c3)]
    conv => whnf
    repeat ((first | refine ifB_f ?_ | (refine ifB_pos (decide_eq_true (by first | omega | rfl | (dsimp only; omega))) ?_) | refine ⟨_, rfl, ?_⟩ | refine ⟨⟨rfl, rfl⟩, ?_⟩); conv => whnf)
    rfl
  rw [if_neg c4]
  conv => whnf
  repeat ((first | refine ifB_f ?_ | (refine ifB_neg (decide_eq_false (by first | omega | rfl | (dsimp only; omega))) ?_) | refine ⟨_, rfl, ?_⟩); conv => whnf)
  refine ⟨a.au, b.au, ⟨rfl, c32_map ha.au.2, c32_map hb.au.2, ha.au.2, hb.au.2⟩, ?_⟩
  conv => whnf
  repeat ((refine ifB_f ?_); conv => whnf)
  rw [dt (show a.au = b.au from Classical.not_not.1 c3)]
  conv => whnf
  repeat ((first | refine ifB_f ?_ | (refine ifB_neg (decide_eq_false (by first | omega | rfl | (dsimp only; omega))) ?_) | refine ⟨pureL_bys _, ?_⟩ | (refine Or.inl ⟨⟨rfl, ?_⟩, ?_⟩; (focus (first | rfl | (simp; done) | (rw [toksC_length]; omega)))) | refine ⟨rfl, ?_⟩ | refine ⟨_, rfl, ?_⟩); conv => whnf)
  refine ⟨_, _, hc, by first | rfl | simp [noRoIf, noRoL, noRoV, noRoL_bys], ?_⟩
  conv => whnf
  repeat ((refine ⟨⟨rfl, rfl⟩, ?_⟩); conv => whnf)
  rfl
def prfB (p : Prf) : List Int × Int := if prfR p then encR validR [⟨5, 3, []⟩, ⟨1, 2, []⟩, ⟨3, 0, (entB p.a).1⟩, ⟨3, 0, (entB p.b).1⟩] else ([], 1)
set_option maxRecDepth 20000 in
set_option maxHeartbeats 1000000 in
theorem check_proof_ok (p : Prf) (hp : PrfS p) : ACall Tryd.prog 64 [.agg (prfC p)] (.int .i64 (if prfR p then 0 else 1)) [] := by
  have h := order_ok p.a p.b hp.a hp.b
  unfold prfR
  refine ACall.of_does TTok Tryd.func64 rfl Tryd.call64 rfl (wpc_sound (M := ME) (PL := PL0) (CU := noCut) TTok mixed _ _ _ ?_)
  conv => whnf
  repeat ((first | refine ⟨entC_pure _, ?_⟩ | refine ⟨rfl, ?_⟩ | refine ⟨_, rfl, ?_⟩); conv => whnf)
  refine ⟨_, _, h, by first | rfl | simp [noRoIf, noRoL, noRoV, noRoL_bys], ?_⟩
  conv => whnf
  refine ifB_dec (fun c => ?_) (fun c => ?_)
  · rw [df (show ¬ ordR p.a p.b < 0 by omega)]
    conv => whnf
    repeat ((refine ⟨⟨rfl, rfl⟩, ?_⟩); conv => whnf)
    rfl
  · rw [dt (show ordR p.a p.b < 0 by omega)]
    conv => whnf
    repeat ((refine ⟨⟨rfl, rfl⟩, ?_⟩); conv => whnf)
    rfl
set_option maxRecDepth 20000 in
set_option maxHeartbeats 1000000 in
theorem pbytes_ok (p : Prf) (hp : PrfS p) : ACall Tryd.prog 59 [.agg (prfC p)] (.tuple [.own (prfB p).1.length 1 (bys (prfB p).1), .int .i64 (prfB p).2]) [] := by
  have hc := check_proof_ok p hp
  have h1 := ebytes_ok p.a hp.a
  have h2 := ebytes_ok p.b hp.b
  have b1 := entB_byt hp.a
  have b2 := entB_byt hp.b
  unfold prfB
  generalize entB p.a = x at h1 b1 ⊢
  generalize entB p.b = y at h2 b2 ⊢
  obtain ⟨x, e⟩ := x
  obtain ⟨y, f⟩ := y
  dsimp only at h1 b1 h2 b2 ⊢
  refine ACall.of_does TTok Tryd.func59 rfl Tryd.call59 rfl (wpc_sound (M := ME) (PL := PL0) (CU := cutAt [100006]) TTok mixed _ _ _ ?_)
  cases c1 : prfR p <;> rw [c1] at hc
  · conv => whnf
    repeat ((first | refine ⟨rfl, ?_⟩ | refine ⟨_, rfl, ?_⟩ | (refine And.intro ?_ ?_; (focus (first | (simp only [pureL, pureV, pureL_bys, Bool.and_true, Bool.and_self]; done) | (simp only [pureL, pureV, pureL_bys, pureL_toks, Bool.and_true, Bool.and_self]; done))))); conv => whnf)
    refine ⟨_, _, hc, by first | rfl | simp [noRoIf, noRoL, noRoV, noRoL_bys], ?_⟩
    conv => whnf
    repeat ((first | refine ifB_t ?_ | refine ⟨⟨rfl, rfl⟩, ?_⟩); conv => whnf)
    rfl
  have hb := encode_ok [⟨5, 3, []⟩, ⟨1, 2, []⟩, ⟨3, 0, x⟩, ⟨3, 0, y⟩] (by
    intro t ht
    simp only [List.mem_cons, List.not_mem_nil, or_false] at ht
    rcases ht with rfl | rfl | rfl | rfl
    all_goals refine ⟨by dsimp only; omega, by dsimp only; omega, ?_⟩
    all_goals first | exact fun x hx => absurd hx (List.not_mem_nil) | exact b1.1 | exact b2.1) (by
    intro t ht
    simp only [List.mem_cons, List.not_mem_nil, or_false] at ht
    have := b1.2
    have := b2.2
    rcases ht with rfl | rfl | rfl | rfl
    all_goals dsimp only
    all_goals first | omega | (simp; done))
  conv => whnf
  repeat ((first | refine ⟨rfl, ?_⟩ | refine ⟨_, rfl, ?_⟩ | (refine And.intro ?_ ?_; (focus (first | (simp only [pureL, pureV, pureL_bys, Bool.and_true, Bool.and_self]; done) | (simp only [pureL, pureV, pureL_bys, pureL_toks, Bool.and_true, Bool.and_self]; done))))); conv => whnf)
  refine ⟨_, _, hc, by first | rfl | simp [noRoIf, noRoL, noRoV, noRoL_bys], ?_⟩
  conv => whnf
  repeat ((first | refine ifB_f ?_ | refine ⟨entC_pure _, ?_⟩ | refine ⟨rfl, ?_⟩ | refine ⟨_, rfl, ?_⟩); conv => whnf)
  refine ⟨_, _, h1, by first | rfl | simp [noRoIf, noRoL, noRoV, noRoL_bys], ?_⟩
  conv => whnf
  repeat ((first | refine ⟨entC_pure _, ?_⟩ | refine ⟨rfl, ?_⟩ | refine ⟨_, rfl, ?_⟩); conv => whnf)
  refine ⟨_, _, h2, by first | rfl | simp [noRoIf, noRoL, noRoV, noRoL_bys], ?_⟩
  conv => whnf
  refine Does.freeze 1 rfl (Does.freeze 2 (zs := bys y) (by show some (frzL 1 _ (bys y)) = _; rw [frzL_bys]) (Does.tidy [(5, roW x), (7, roW y)] [(0, prfC p)] 3 36 rfl rfl rfl (by kernel_rfl) (by kernel_rfl) ?_))
  rw [roW_eq, roW_eq]
  clear hc h1 h2
  refine wpc_sound (M := ME) (PL := PL0) (CU := noCut) TTok mixed _ _ _ ?_
  conv => whnf
  repeat ((refine ⟨rfl, ?_⟩); conv => whnf)
  refine ⟨_, _, list_ok 3, by first | rfl | simp [noRoIf, noRoL, noRoV, noRoL_bys], ?_⟩
  conv => whnf
  repeat ((refine ⟨rfl, ?_⟩); conv => whnf)
  refine ⟨_, _, num_ok 2, by first | rfl | simp [noRoIf, noRoL, noRoV, noRoL_bys], ?_⟩
  conv => whnf
  repeat ((first | refine ⟨pureL_bys _, ?_⟩ | refine ⟨rfl, ?_⟩); conv => whnf)
  refine ⟨_, _, cstr_ok x, by first | rfl | simp [noRoIf, noRoL, noRoV, noRoL_bys], ?_⟩
  conv => whnf
  repeat ((first | refine ⟨pureL_bys _, ?_⟩ | refine ⟨rfl, ?_⟩); conv => whnf)
  refine ⟨_, _, cstr_ok y, by first | rfl | simp [noRoIf, noRoL, noRoV, noRoL_bys], ?_⟩
  conv => whnf
  repeat ((first | (refine Or.inl ⟨⟨rfl, ?_⟩, ?_⟩; (focus (first | rfl | (simp; done) | (rw [toksC_length]; omega)))) | refine ⟨rfl, ?_⟩ | refine ⟨⟨rfl, rfl⟩, ?_⟩ | (refine And.intro ?_ ?_; (focus (first | (simp only [pureL, pureV, pureL_bys, Bool.and_true, Bool.and_self]; done) | (simp only [pureL, pureV, pureL_bys, pureL_toks, Bool.and_true, Bool.and_self]; done))))); conv => whnf)
  refine ⟨_, _, hb, by first | rfl | simp [noRoIf, noRoL, noRoV, noRoL_bys], ?_⟩
  conv => whnf
  repeat ((first | refine ⟨⟨rfl, rfl⟩, ?_⟩ | (refine ⟨⟨rfl, rfl, rfl, ?_, pureL_bys _⟩, ?_⟩; (focus (simp; done)))); conv => whnf)
  rfl
end Go.Proofs.YtelnlfhdaelfdaaDoor.Abs
end
section
--KR
set_option linter.unusedVariables false
set_option linter.unusedSimpArgs false
namespace Go.Proofs.YtelnlfhdaelfdaaDoor.Abs
open Go
attribute [local irreducible] ifB fitP Does Weaker demsP
/-- The proof that a row is. -/
def rdP (r : Rw) : Prf × Int :=
  match rNext 3 r with
  | (x, r1) => match rNext 3 r1 with
    | (y, r2) => if (!r2.bad && decide (r2.l = [])) = true then (if (rdEnt x.b).2 ≠ 0 then (prf0, 3) else if (rdEnt y.b).2 ≠ 0 then (prf0, 3) else if prfR ⟨(rdEnt x.b).1, (rdEnt y.b).1⟩ = true then (⟨(rdEnt x.b).1, (rdEnt y.b).1⟩, 0) else (prf0, 3)) else (prf0, 3)
def rdPrf (b : List Int) : Prf × Int := rdP (rWant 3 2 (rOpen b))
set_option maxRecDepth 20000 in
set_option maxHeartbeats 2000000 in
theorem pread_ok (b : List Int) (hb : Byt b) (hl : b.length ≤ 1000000000) : ACall Tryd.prog 102 [.ro b.length (bys b)] (.tuple [.agg (prfC (rdPrf b).1), .int .i64 (rdPrf b).2]) [] := by
  have k0 := rOpen_rok hb hl
  have h0 := open_ok b hb (by omega)
  unfold rdPrf
  generalize rOpen b = r0 at k0 h0 ⊢
  have h1 := rwant_ok r0 3 2
  have k1 := rWant_rok k0 3 2
  generalize rWant 3 2 r0 = r1 at h1 k1 ⊢
  unfold rdP
  have h2 := rstr_ok r1
  have k2 := rNext_rok k1 3
  generalize rNext 3 r1 = q at h2 k2 ⊢
  obtain ⟨x, r2⟩ := q
  dsimp only at h2 k2 ⊢
  have h3 := rstr_ok r2
  have k3 := rNext_rok k2.1 3
  generalize rNext 3 r2 = q at h3 k3 ⊢
  obtain ⟨y, r3⟩ := q
  dsimp only at h3 k3 ⊢
  have h4 := rdone_ok r3
  generalize (!r3.bad && decide (r3.l = [])) = dn at h4 ⊢
  obtain ⟨_, _, x⟩ := x
  obtain ⟨_, _, y⟩ := y
  dsimp only at k2 k3 h2 h3 ⊢
  have h5 := eread_ok x k2.2.1.2.2 k2.2.2
  have e5 := (rdEnt_entS k2.2.1.2.2 k2.2.2).1
  generalize rdEnt x = q at h5 e5 ⊢
  obtain ⟨a, e⟩ := q
  have h6 := eread_ok y k3.2.1.2.2 k3.2.2
  have e6 := (rdEnt_entS k3.2.1.2.2 k3.2.2).1
  generalize rdEnt y = q at h6 e6 ⊢
  obtain ⟨c, f⟩ := q
  dsimp only at h5 e5 h6 e6 ⊢
  have h7 := check_proof_ok ⟨a, c⟩ ⟨e5, e6⟩
  refine ACall.of_does TTok Tryd.func102 rfl Tryd.call102 rfl (wpc_sound (M := ME) (PL := PL0) (CU := cutAt [100006, 100007, 100008, 100009, 100011]) TTok mixed _ _ _ ?_)
  conv => whnf
  repeat ((first | refine ⟨pureL_bys _, ?_⟩ | refine ⟨rfl, ?_⟩); conv => whnf)
  refine ⟨_, _, h0, by first | rfl | simp [noRoIf, noRoL, noRoV, noRoL_bys], ?_⟩
  conv => whnf
  repeat ((first | refine ⟨rfl, ?_⟩ | (refine And.intro ?_ ?_; (focus (first | (simp only [pureL, pureV, pureL_bys, Bool.and_true, Bool.and_self]; done) | (simp only [pureL, pureV, pureL_bys, pureL_toks, Bool.and_true, Bool.and_self]; done))))); conv => whnf)
  refine ⟨_, _, h1, by first | rfl | simp [noRoIf, noRoL, noRoV, noRoL_bys], ?_⟩
  conv => whnf
  repeat ((first | refine ⟨rfl, ?_⟩ | (refine And.intro ?_ ?_; (focus (first | (simp only [pureL, pureV, pureL_bys, Bool.and_true, Bool.and_self]; done) | (simp only [pureL, pureV, pureL_bys, pureL_toks, Bool.and_true, Bool.and_self]; done))))); conv => whnf)
  refine ⟨_, _, h2, by first | rfl | simp [noRoIf, noRoL, noRoV, noRoL_bys], ?_⟩
  conv => whnf
  repeat ((first | refine ⟨rfl, ?_⟩ | (refine And.intro ?_ ?_; (focus (first | (simp only [pureL, pureV, pureL_bys, Bool.and_true, Bool.and_self]; done) | (simp only [pureL, pureV, pureL_bys, pureL_toks, Bool.and_true, Bool.and_self]; done))))); conv => whnf)
  refine ⟨_, _, h3, by first | rfl | simp [noRoIf, noRoL, noRoV, noRoL_bys], ?_⟩
  conv => whnf
  repeat ((first | refine ⟨rfl, ?_⟩ | (refine And.intro ?_ ?_; (focus (first | (simp only [pureL, pureV, pureL_bys, Bool.and_true, Bool.and_self]; done) | (simp only [pureL, pureV, pureL_bys, pureL_toks, Bool.and_true, Bool.and_self]; done))))); conv => whnf)
  refine ⟨_, _, h4, by first | rfl | simp [noRoIf, noRoL, noRoV, noRoL_bys], ?_⟩
  conv => whnf
  cases dn
  · conv => whnf
    repeat ((first | refine ifB_t ?_ | refine ⟨(⟨by kernel_rfl, by kernel_rfl, Nat.le_of_ble_eq_true (by kernel_rfl)⟩ : AV.ones _ = true ∧ _ ∧ _), ?_⟩ | refine ⟨_, rfl, ?_⟩); conv => whnf)
    refine prf0_int_dems (by kernel_rfl) ?_
    rfl
  simp only [if_true]
  conv => whnf
  repeat ((refine ifB_f ?_); conv => whnf)
  refine Does.tidy [(2, .ptr 0 0), (5, .ro x.length (bys x)), (6, .ro y.length (bys y))] [(0, zeroE ++ zeroE), (1, rowC r3)] 2 50 rfl rfl rfl (by kernel_rfl) (by kernel_rfl) ?_
  clear h0 h1 h2 h3 h4
  refine wpc_sound (M := ME) (PL := PL0) (CU := noCut) TTok mixed _ _ _ ?_
  conv => whnf
  repeat ((first | refine ⟨pureL_bys _, ?_⟩ | refine ⟨rfl, ?_⟩); conv => whnf)
  refine ⟨_, _, h5, by first | rfl | simp [noRoIf, noRoL, noRoV, noRoL_bys], ?_⟩
  conv => whnf
  repeat ((first | refine ⟨(⟨by kernel_rfl, by kernel_rfl, Nat.le_of_ble_eq_true (by kernel_rfl)⟩ : AV.ones _ = true ∧ _ ∧ _), ?_⟩ | refine ⟨rfl, ?_⟩); conv => whnf)
  refine Does.tidy [(2, .ptr 0 0), (6, .ro y.length (bys y)), (7, .ptr 2 0), (8, .int .i64 e)] [(0, zeroE ++ zeroE), (1, rowC r3), (2, entC a)] 3 50 rfl rfl rfl (by kernel_rfl) (by kernel_rfl) ?_
  clear h5
  refine wpc_sound (M := ME) (PL := PL0) (CU := noCut) TTok mixed _ _ _ ?_
  conv => whnf
  repeat ((first | refine ⟨pureL_bys _, ?_⟩ | refine ⟨rfl, ?_⟩); conv => whnf)
  refine ⟨_, _, h6, by first | rfl | simp [noRoIf, noRoL, noRoV, noRoL_bys], ?_⟩
  conv => whnf
  repeat ((first | refine ⟨(⟨by kernel_rfl, by kernel_rfl, Nat.le_of_ble_eq_true (by kernel_rfl)⟩ : AV.ones _ = true ∧ _ ∧ _), ?_⟩ | refine ⟨rfl, ?_⟩); conv => whnf)
  refine Does.tidy [(2, .ptr 0 0), (7, .ptr 2 0), (8, .int .i64 e), (9, .ptr 3 0), (10, .int .i64 f)] [(0, zeroE ++ zeroE), (1, rowC r3), (2, entC a), (3, entC c)] 4 50 rfl rfl rfl (by kernel_rfl) (by kernel_rfl) ?_
  clear h6
  refine wpc_sound (M := ME) (PL := PL0) (CU := noCut) TTok mixed _ _ _ ?_
  conv => whnf
  repeat ((first | refine ⟨(⟨by kernel_rfl, by kernel_rfl, Nat.le_of_ble_eq_true (by kernel_rfl)⟩ : AV.ones _ = true ∧ _ ∧ _), ?_⟩ | refine ⟨rfl, ?_⟩ | refine ⟨_, rfl, ?_⟩ | refine ⟨⟨rfl, rfl⟩, ?_⟩); conv => whnf)
  refine Does.tidy [(2, .ptr 0 0), (8, .int .i64 e), (10, .int .i64 f), (11, .ptr 4 0)] [(0, zeroE ++ zeroE), (1, rowC r3), (2, entC a), (3, entC c), (4, prfC ⟨a, c⟩)] 5 50 rfl rfl rfl (by kernel_rfl) (by kernel_rfl) ?_
  refine wpc_sound (M := ME) (PL := PL0) (CU := noCut) TTok mixed _ _ _ ?_
  by_cases c1 : e ≠ 0
  · rw [if_pos c1]
    conv => whnf
    repeat ((first | refine ifB_t ?_ | (refine ifB_pos (decide_eq_true (by first | omega | rfl | (dsimp only; omega))) ?_) | refine ⟨(⟨by kernel_rfl, by kernel_rfl, Nat.le_of_ble_eq_true (by kernel_rfl)⟩ : AV.ones _ = true ∧ _ ∧ _), ?_⟩ | refine ⟨_, rfl, ?_⟩); conv => whnf)
    refine prf0_int_dems (by kernel_rfl) ?_
    rfl
  rw [if_neg c1]
  by_cases c2 : f ≠ 0
  · rw [if_pos c2]
    conv => whnf
    repeat ((first | refine ifB_t ?_ | refine ifB_f ?_ | (refine ifB_neg (decide_eq_false (by first | omega | rfl | (dsimp only; omega))) ?_) | (refine ifB_pos (decide_eq_true (by first | omega | rfl | (dsimp only; omega))) ?_) | refine ⟨(⟨by kernel_rfl, by kernel_rfl, Nat.le_of_ble_eq_true (by kernel_rfl)⟩ : AV.ones _ = true ∧ _ ∧ _), ?_⟩ | refine ⟨_, rfl, ?_⟩); conv => whnf)
    refine prf0_int_dems (by kernel_rfl) ?_
    rfl
  rw [if_neg c2]
  generalize (⟨a, c⟩ : Prf) = p at h7 ⊢
  conv => whnf
  repeat ((first | refine ifB_f ?_ | (refine ifB_neg (decide_eq_false (by first | omega | rfl | (dsimp only; omega))) ?_) | refine ⟨rfl, ?_⟩ | refine ⟨_, rfl, ?_⟩ | (refine And.intro ?_ ?_; (focus (first | (simp only [pureL, pureV, pureL_bys, Bool.and_true, Bool.and_self]; done) | (simp only [pureL, pureV, pureL_bys, pureL_toks, Bool.and_true, Bool.and_self]; done))))); conv => whnf)
  cases c3 : prfR p <;> rw [c3] at h7
  · refine ⟨_, _, h7, by first | rfl | simp [noRoIf, noRoL, noRoV, noRoL_bys], ?_⟩
    conv => whnf
    repeat ((first | refine ifB_t ?_ | refine ifB_f ?_ | refine ⟨(⟨by kernel_rfl, by kernel_rfl, Nat.le_of_ble_eq_true (by kernel_rfl)⟩ : AV.ones _ = true ∧ _ ∧ _), ?_⟩ | refine ⟨_, rfl, ?_⟩); conv => whnf)
    refine prf0_int_dems (by kernel_rfl) ?_
    rfl
  · refine ⟨_, _, h7, by first | rfl | simp [noRoIf, noRoL, noRoV, noRoL_bys], ?_⟩
    conv => whnf
    repeat ((refine ifB_f ?_); conv => whnf)
    refine Does.tidy [(2, .ptr 0 0), (11, .ptr 4 0)] [(0, zeroE ++ zeroE), (1, rowC r3), (2, entC a), (3, entC c), (4, prfC p)] 5 50 rfl rfl rfl (by kernel_rfl) (by kernel_rfl) ?_
    refine wpc_sound (M := ME) (PL := PL0) (CU := noCut) TTok mixed _ _ _ ?_
    conv => whnf
    refine ⟨prfC p, by kernel_rfl, ?_⟩
    conv => whnf
    refine ⟨(⟨by kernel_rfl, by kernel_rfl, Nat.le_of_ble_eq_true (by kernel_rfl)⟩ : AV.ones _ = true ∧ _ ∧ _), ?_⟩
    conv => whnf
    refine ⟨prfC p, by kernel_rfl, ?_⟩
    conv => whnf
    refine prf_int_dems (by kernel_rfl) ?_
    rfl
end Go.Proofs.YtelnlfhdaelfdaaDoor.Abs
end
section
--KR
set_option linter.unusedVariables false
set_option linter.unusedSimpArgs false
namespace Go.Proofs.YtelnlfhdaelfdaaDoor.Abs
open Go
section rows
variable {α : Type}
def rowsC (f : α → List AV) : List α → List AV
  | [] => []
  | x :: r => f x ++ rowsC f r
theorem rowsC_length {f : α → List AV} {n : Nat} (hf : ∀ x, (f x).length = n) : ∀ l : List α, (rowsC f l).length = n * l.length
  | [] => rfl
  | e :: r => by simp only [rowsC, List.length_append, hf, rowsC_length hf r, List.length_cons, Nat.mul_add]; omega
theorem rowsC_pure {f : α → List AV} (hf : ∀ x, pureL (f x) = true) : ∀ l : List α, pureL (rowsC f l) = true
  | [] => rfl
  | e :: r => by simp only [rowsC, pureL_app, hf, rowsC_pure hf r, Bool.and_self]
theorem rowsC_ones {f : α → List AV} (hf : ∀ x, (f x).all AV.one = true) : ∀ l : List α, (rowsC f l).all AV.one = true
  | [] => rfl
  | e :: r => by simp only [rowsC, List.all_append, hf, rowsC_ones hf r, Bool.and_self]
theorem rowsC_frz {f : α → List AV} {i : Nat} {zs : List AV} (hf : ∀ x, frzL i zs (f x) = f x) : ∀ l : List α, frzL i zs (rowsC f l) = rowsC f l
  | [] => rfl
  | e :: r => by simp only [rowsC, frzL_app, hf, rowsC_frz hf r]
theorem rowsC_append {f : α → List AV} : ∀ a b : List α, rowsC f (a ++ b) = rowsC f a ++ rowsC f b
  | [], b => rfl
  | e :: a, b => by simp only [List.cons_append, rowsC, rowsC_append a b, List.append_assoc]
theorem rowsC_drop {f : α → List AV} {n : Nat} (hf : ∀ x, (f x).length = n) : ∀ (l : List α) (j : Nat), (rowsC f l).drop (n * j) = rowsC f (l.drop j)
  | [], j => by simp [rowsC]
  | e :: r, 0 => by simp [rowsC]
  | e :: r, j + 1 => by
    simp only [rowsC, List.drop_succ_cons, ← rowsC_drop hf r j]
    rw [show n * (j + 1) = (f e).length + n * j by rw [hf, Nat.mul_add]; omega, List.drop_append]
    simp
theorem rowsC_at {f : α → List AV} {n : Nat} (hf : ∀ x, (f x).length = n) {l : List α} {j m : Nat} (h : j < l.length) (hm : m = n * j) : (rowsC f l).drop m = f l[j] ++ rowsC f (l.drop (j + 1)) := by
  subst hm
  rw [rowsC_drop hf, List.drop_eq_getElem_cons h]
  rfl
theorem takeN_row {f : α → List AV} {n : Nat} (hf : ∀ x, (f x).length = n) {l : List α} {j m s : Nat} (h : j < l.length) (hm : m = n * j) (hs : s = n) : takeN s ((rowsC f l).drop m) = some (f l[j]) := by
  rw [rowsC_at hf h hm]; exact takeN_app (by rw [hs, hf])
theorem rowsC_les {f : α → List AV} {o : Nat → Option Nat} (hf : ∀ x, lesP o (f x) (f x)) {xs : List AV} : ∀ {l : List α}, xs = rowsC f l → lesP o (rowsC f l) xs
  | [], h => by subst h; trivial
  | e :: r, h => by subst h; exact lesP_app'' (hf e) (rowsC_les hf rfl)
theorem rowsC_whole {f : α → List AV} {n : Nat} (hf : ∀ x, (f x).length = n) (l : List α) : (List.drop 0 (rowsC f l)).take (l.length * n) = rowsC f l := by
  rw [List.drop_zero]; exact List.take_of_length_le (by rw [rowsC_length hf, Nat.mul_comm]; exact Nat.le_refl _)
end rows
theorem prfC_length (p : Prf) : (prfC p).length = 266 := by simp [prfC, entC_length]
theorem prfC_pure (p : Prf) : pureL (prfC p) = true := by simp [prfC, pureL_app, entC_pure]
theorem prfC_one (p : Prf) : (prfC p).all AV.one = true := by simp only [prfC, List.all_append, entC_one, Bool.and_self]
theorem prfC_frz (i : Nat) (zs : List AV) (p : Prf) : frzL i zs (prfC p) = prfC p := by simp [prfC, frzL_app, entC_frz]
theorem prfC_les {o : Nat → Option Nat} (p : Prf) : lesP o (prfC p) (prfC p) := lesP_app'' (lesP_ent p.a rfl) (lesP_ent p.b rfl)
theorem entC_les {o : Nat → Option Nat} (e : Ent) : lesP o (entC e) (entC e) := lesP_ent e rfl
structure Hd where
  au : List Int
  len : Int
  id : List Int
  shut : Bool
  deriving DecidableEq
def hdC (h : Hd) : List AV := c32 h.au (.int .i64 h.len :: c32 h.id [.bool h.shut])
structure HdS (h : Hd) : Prop where
  au : Byt h.au ∧ h.au.length = 32
  len : -9223372036854775808 ≤ h.len ∧ h.len < 9223372036854775808
  id : Byt h.id ∧ h.id.length = 32
theorem hdC_length (h : Hd) : (hdC h).length = 66 := by simp [hdC, c32_len]
theorem hdC_pure (h : Hd) : pureL (hdC h) = true := by simp [hdC, c32_pure, pureL, pureV]
theorem hdC_one (h : Hd) : (hdC h).all AV.one = true := by simp [hdC, c32_one, AV.one]
theorem hdC_frz (i : Nat) (zs : List AV) (h : Hd) : frzL i zs (hdC h) = hdC h := by simp [hdC, c32_frz, frzL, frzV]
theorem hdC_les {o : Nat → Option Nat} (h : Hd) : lesP o (hdC h) (hdC h) := by
  unfold hdC
  exact c32_les ⟨⟨rfl, rfl⟩, c32_les ⟨rfl, trivial⟩⟩
structure Msg where
  kind : Int
  frm : Int
  to : Int
  hs : List Hd
  ps : List Prf
  es : List Ent
  deriving DecidableEq
def msgC (m : Msg) : List AV := [.int .i64 m.kind, .int .i64 m.frm, .int .i64 m.to, .ro m.hs.length (rowsC hdC m.hs), .ro m.ps.length (rowsC prfC m.ps), .ro m.es.length (rowsC entC m.es)]
structure MsgS (m : Msg) : Prop where
  kind : -9223372036854775808 ≤ m.kind ∧ m.kind < 9223372036854775808
  frm : -9223372036854775808 ≤ m.frm ∧ m.frm < 9223372036854775808
  to : -9223372036854775808 ≤ m.to ∧ m.to < 9223372036854775808
  hs : ∀ h ∈ m.hs, HdS h
  ps : ∀ p ∈ m.ps, PrfS p
  es : ∀ e ∈ m.es, EntS e
  hl : m.hs.length ≤ 1000000000
  pl : m.ps.length ≤ 1000000000
  el : m.es.length ≤ 1000000000
theorem hds_len (l : List Hd) : (rowsC hdC l).length = 66 * l.length := rowsC_length hdC_length l
theorem prfs_len (l : List Prf) : (rowsC prfC l).length = 266 * l.length := rowsC_length prfC_length l
theorem ents_len (l : List Ent) : (rowsC entC l).length = 133 * l.length := rowsC_length entC_length l
theorem hds_pure (l : List Hd) : pureL (rowsC hdC l) = true := rowsC_pure hdC_pure l
theorem prfs_pure (l : List Prf) : pureL (rowsC prfC l) = true := rowsC_pure prfC_pure l
theorem ents_pure (l : List Ent) : pureL (rowsC entC l) = true := rowsC_pure entC_pure l
theorem msgC_pure (m : Msg) : pureL (msgC m) = true := by simp [msgC, pureL, pureV, hds_pure, prfs_pure, ents_pure]
end Go.Proofs.YtelnlfhdaelfdaaDoor.Abs
end
section
--KR
set_option linter.unusedVariables false
set_option linter.unusedSimpArgs false
namespace Go.Proofs.YtelnlfhdaelfdaaDoor.Abs
open Go
attribute [local irreducible] ifB fitP Does Weaker
def MW : FuncId → List Mode := orElse [(61, [.rd]), (57, [.rd]), (31, [.rd]), (30, [.rd]), (33, [.rd]), (71, [rowM]), (72, [rowM]),
  (62, [.rd, .rd]), (65, [.rd, .rd]), (95, [.rd, .rd]),
  (97, [.rd, .rd]), (63, [.rd]), (66, [.rd])] ME
set_option maxRecDepth 20000 in
theorem wtest1_ok (p : Prf) (hp : PrfS p) : ACall Tryd.prog 63 [.agg (prfC p)] (.bool (!prfR p)) [] := by
  have h := check_proof_ok p hp
  refine ACall.of_does TTok Tryd.func63 rfl Tryd.call63 rfl (wpc_sound (M := MW) (PL := PL0) (CU := noCut) TTok mixed _ _ _ ?_)
  cases c : prfR p <;> rw [c] at h
  all_goals
    conv => whnf
    refine ⟨prfC_one p, ?_⟩
    conv => whnf
    refine ⟨prfC p, by kernel_rfl, ?_⟩
    conv => whnf
    refine ⟨prfC_pure p, rfl, ?_⟩
    conv => whnf
    refine ⟨_, _, h, by first | rfl | simp [noRoIf, noRoL, noRoV, noRoL_bys], ?_⟩
    conv => whnf
    repeat ((refine ⟨rfl, ?_⟩); conv => whnf)
    rfl
theorem wtest2_ok (p : Ent) (hp : EntS p) : ACall Tryd.prog 66 [.agg (entC p)] (.bool (!entR p)) [] := by
  have h := check_entry_ok p hp
  refine ACall.of_does TTok Tryd.func66 rfl Tryd.call66 rfl (wpc_sound (M := MW) (PL := PL0) (CU := noCut) TTok mixed _ _ _ ?_)
  cases c : entR p <;> rw [c] at h
  all_goals
    conv => whnf
    refine ⟨entC_one p, ?_⟩
    conv => whnf
    refine ⟨entC p, by kernel_rfl, ?_⟩
    conv => whnf
    refine ⟨entC_pure p, rfl, ?_⟩
    conv => whnf
    refine ⟨_, _, h, by first | rfl | simp [noRoIf, noRoL, noRoV, noRoL_bys], ?_⟩
    conv => whnf
    repeat ((refine ⟨rfl, ?_⟩); conv => whnf)
    rfl
/-- The place of the first one that a test takes, or -1. -/
def firstI {α : Type} (t : α → Bool) : Nat → List α → Int
  | _, [] => -1
  | c, x :: r => if t x then (c : Int) else firstI t (c + 1) r
theorem firstI_lt {α : Type} (t : α → Bool) : ∀ (c : Nat) (l : List α), decide (0 ≤ firstI t c l) = l.any t
  | c, [] => rfl
  | c, x :: r => by
    unfold firstI
    cases h : t x
    · simp [h, firstI_lt t (c + 1) r]
    · simp [h]
theorem firstI_at {α : Type} {t : α → Bool} {l : List α} {c : Nat} (h : c < l.length) : firstI t c (l.drop c) = if t l[c] then (c : Int) else firstI t (c + 1) (l.drop (c + 1)) := by
  rw [List.drop_eq_getElem_cons h]; rfl
theorem index1_ok (l : List Prf) (hl : ∀ p ∈ l, PrfS p) (hn : l.length ≤ 1000000000) : ACall Tryd.prog 95 [.ro l.length (rowsC prfC l), .fn (.func 63) []] (.int .i64 (firstI (fun p => !prfR p) 0 l)) [] := by
  refine ACall.of_does TTok Tryd.func95 rfl Tryd.call95 rfl (wpc_sound (M := MW) (PL := PL0) (CU := noCut) TTok mixed _ _ _ ?_)
  conv => whnf
  refine Does.loop (fun c : Nat => mkSt [(0, .ro l.length (rowsC prfC l)), (1, .fn (.func 63) []), (7, .int .i64 l.length), (8, .int .i64 c)] [] 0 19)
    (fun c => c ≤ l.length ∧ firstI (fun p => !prfR p) c (l.drop c) = firstI (fun p => !prfR p) 0 l) (fun c => l.length - c) ?_ 0 ⟨Nat.zero_le _, by rw [List.drop_zero]⟩ ?_
  · rintro c ⟨hc, hx⟩
    rcases Nat.lt_or_ge c l.length with c1 | c1
    · have ht := wtest1_ok l[c] (hl _ (List.getElem_mem c1))
      rw [firstI_at c1] at hx
      refine wpc_sound (M := MW) (PL := PL0) (CU := noCut) TTok mixed _ _ _ ?_
      conv => whnf
      repeat ((first | (refine ifB_pos (decide_eq_true (by first | omega | rfl | (dsimp only; omega))) ?_) | (refine ⟨⟨?_, ?_, ?_⟩, ?_⟩; (focus omega); (focus (first | omega | (simp; done) | (simp; omega))); (focus (first | (rw [prfs_len]; simp; omega) | (rw [ents_len]; simp; omega) | (rw [hds_len]; simp; omega) | (rw [lets_len]; simp; omega))))); conv => whnf)
      refine ⟨_, takeN_row prfC_length c1 (by simp; omega) rfl, ?_⟩
      conv => whnf
      refine ⟨prfC_pure _, ?_⟩
      conv => whnf
      repeat ((refine ⟨rfl, ?_⟩); conv => whnf)
      refine ⟨_, _, ht, by first | rfl | simp [noRoIf, noRoL, noRoV, noRoL_bys], ?_⟩
      conv => whnf
      cases h : prfR l[c]
      · rw [h] at hx
        conv => whnf
        repeat ((refine ifB_t ?_); conv => whnf)
        exact ⟨⟨rfl, by rw [← hx]; rfl⟩, rfl⟩
      · rw [h] at hx
        conv => whnf
        repeat ((first | refine ifB_f ?_ | (refine fit_i64 ⟨by first | omega | rfl | (dsimp only; omega), by first | omega | rfl | (dsimp only; omega)⟩ ?_)); conv => whnf)
        exact ⟨c + 1, ⟨by omega, by rw [← hx]; rfl⟩, by omega, weaker_of [] rfl rfl ⟨⟨rfl, rfl, prfs_pure _⟩, ⟨rfl, rfl, rfl⟩, ⟨rfl, rfl⟩, ⟨rfl, by simp⟩, trivial⟩ trivial⟩
    · obtain rfl : c = l.length := by omega
      rw [List.drop_length] at hx
      refine wpc_sound (M := MW) (PL := PL0) (CU := noCut) TTok mixed _ _ _ ?_
      conv => whnf
      repeat ((refine ifB_neg (decide_eq_false (by first | omega | rfl | (dsimp only; omega))) ?_); conv => whnf)
      exact ⟨⟨rfl, by rw [← hx]; rfl⟩, rfl⟩
  · exact weaker_of [] rfl rfl ⟨⟨rfl, rfl, prfs_pure _⟩, ⟨rfl, rfl, rfl⟩, ⟨rfl, rfl⟩, ⟨rfl, rfl⟩, trivial⟩ trivial
theorem contains1_ok (l : List Prf) (hl : ∀ p ∈ l, PrfS p) (hn : l.length ≤ 1000000000) : ACall Tryd.prog 62 [.ro l.length (rowsC prfC l), .fn (.func 63) []] (.bool (l.any fun p => !prfR p)) [] := by
  have h := index1_ok l hl hn
  rw [← firstI_lt _ 0 l]
  refine ACall.of_does TTok Tryd.func62 rfl Tryd.call62 rfl (wpc_sound (M := MW) (PL := PL0) (CU := noCut) TTok mixed _ _ _ ?_)
  conv => whnf
  repeat ((first | refine ⟨rfl, ?_⟩ | refine ⟨(show pureL (rowsC _ _) = true from by first | exact prfs_pure _ | exact ents_pure _ | exact hds_pure _ | exact lets_pure _), ?_⟩); conv => whnf)
  refine ⟨_, _, h, by first | rfl | simp [noRoIf, noRoL, noRoV, noRoL_bys], ?_⟩
  conv => whnf
  repeat ((refine ⟨rfl, ?_⟩); conv => whnf)
  rfl
theorem index2_ok (l : List Ent) (hl : ∀ p ∈ l, EntS p) (hn : l.length ≤ 1000000000) : ACall Tryd.prog 97 [.ro l.length (rowsC entC l), .fn (.func 66) []] (.int .i64 (firstI (fun p => !entR p) 0 l)) [] := by
  refine ACall.of_does TTok Tryd.func97 rfl Tryd.call97 rfl (wpc_sound (M := MW) (PL := PL0) (CU := noCut) TTok mixed _ _ _ ?_)
  conv => whnf
  refine Does.loop (fun c : Nat => mkSt [(0, .ro l.length (rowsC entC l)), (1, .fn (.func 66) []), (7, .int .i64 l.length), (8, .int .i64 c)] [] 0 19)
    (fun c => c ≤ l.length ∧ firstI (fun p => !entR p) c (l.drop c) = firstI (fun p => !entR p) 0 l) (fun c => l.length - c) ?_ 0 ⟨Nat.zero_le _, by rw [List.drop_zero]⟩ ?_
  · rintro c ⟨hc, hx⟩
    rcases Nat.lt_or_ge c l.length with c1 | c1
    · have ht := wtest2_ok l[c] (hl _ (List.getElem_mem c1))
      rw [firstI_at c1] at hx
      refine wpc_sound (M := MW) (PL := PL0) (CU := noCut) TTok mixed _ _ _ ?_
      conv => whnf
      repeat ((first | (refine ifB_pos (decide_eq_true (by first | omega | rfl | (dsimp only; omega))) ?_) | (refine ⟨⟨?_, ?_, ?_⟩, ?_⟩; (focus omega); (focus (first | omega | (simp; done) | (simp; omega))); (focus (first | (rw [prfs_len]; simp; omega) | (rw [ents_len]; simp; omega) | (rw [hds_len]; simp; omega) | (rw [lets_len]; simp; omega))))); conv => whnf)
      refine ⟨_, takeN_row entC_length c1 (by simp; omega) rfl, ?_⟩
      conv => whnf
      refine ⟨entC_pure _, ?_⟩
      conv => whnf
      repeat ((refine ⟨rfl, ?_⟩); conv => whnf)
      refine ⟨_, _, ht, by first | rfl | simp [noRoIf, noRoL, noRoV, noRoL_bys], ?_⟩
      conv => whnf
      cases h : entR l[c]
      · rw [h] at hx
        conv => whnf
        repeat ((refine ifB_t ?_); conv => whnf)
        exact ⟨⟨rfl, by rw [← hx]; rfl⟩, rfl⟩
      · rw [h] at hx
        conv => whnf
        repeat ((first | refine ifB_f ?_ | (refine fit_i64 ⟨by first | omega | rfl | (dsimp only; omega), by first | omega | rfl | (dsimp only; omega)⟩ ?_)); conv => whnf)
        exact ⟨c + 1, ⟨by omega, by rw [← hx]; rfl⟩, by omega, weaker_of [] rfl rfl ⟨⟨rfl, rfl, ents_pure _⟩, ⟨rfl, rfl, rfl⟩, ⟨rfl, rfl⟩, ⟨rfl, by simp⟩, trivial⟩ trivial⟩
    · obtain rfl : c = l.length := by omega
      rw [List.drop_length] at hx
      refine wpc_sound (M := MW) (PL := PL0) (CU := noCut) TTok mixed _ _ _ ?_
      conv => whnf
      repeat ((refine ifB_neg (decide_eq_false (by first | omega | rfl | (dsimp only; omega))) ?_); conv => whnf)
      exact ⟨⟨rfl, by rw [← hx]; rfl⟩, rfl⟩
  · exact weaker_of [] rfl rfl ⟨⟨rfl, rfl, ents_pure _⟩, ⟨rfl, rfl, rfl⟩, ⟨rfl, rfl⟩, ⟨rfl, rfl⟩, trivial⟩ trivial
theorem contains2_ok (l : List Ent) (hl : ∀ p ∈ l, EntS p) (hn : l.length ≤ 1000000000) : ACall Tryd.prog 65 [.ro l.length (rowsC entC l), .fn (.func 66) []] (.bool (l.any fun p => !entR p)) [] := by
  have h := index2_ok l hl hn
  rw [← firstI_lt _ 0 l]
  refine ACall.of_does TTok Tryd.func65 rfl Tryd.call65 rfl (wpc_sound (M := MW) (PL := PL0) (CU := noCut) TTok mixed _ _ _ ?_)
  conv => whnf
  repeat ((first | refine ⟨rfl, ?_⟩ | refine ⟨(show pureL (rowsC _ _) = true from by first | exact prfs_pure _ | exact ents_pure _ | exact hds_pure _ | exact lets_pure _), ?_⟩); conv => whnf)
  refine ⟨_, _, h, by first | rfl | simp [noRoIf, noRoL, noRoV, noRoL_bys], ?_⟩
  conv => whnf
  repeat ((refine ⟨rfl, ?_⟩); conv => whnf)
  rfl
/-- Heads in their order, each right. -/
def hdR (h : Hd) : Bool := decide (0 ≤ h.len) && decide (h.len ≤ 200) && (!h.shut || decide (h.len ≤ 0)) && (decide (h.len ≠ 0) || decide (h.id = z32))
def hd0 : Hd := ⟨z32, 0, z32, false⟩
def hdAt (l : List Hd) (i : Nat) : Bool := (decide (i = 0) || bytesLt (l.getD (i - 1) hd0).au (l.getD i hd0).au) && hdR (l.getD i hd0)
def headsR (l : List Hd) : Bool := decide (l.length ≤ 8) && (List.range l.length).all (hdAt l)
theorem headsR_no {l : List Hd} {c : Nat} (hc : c < l.length) (h : hdAt l c = false) : headsR l = false := by
  unfold headsR
  rw [Bool.and_eq_false_iff]
  right
  rw [Bool.eq_false_iff]
  intro hh
  rw [List.all_eq_true] at hh
  have := hh c (by simpa using hc)
  rw [h] at this
  cases this
theorem range_snoc {l : List Hd} {c : Nat} (h : (List.range c).all (hdAt l) = true) (k : hdAt l c = true) : (List.range (c + 1)).all (hdAt l) = true := by
  rw [List.range_succ, List.all_append, h]; simp [k]
theorem bit_ok (b : Bool) : ACall Tryd.prog 57 [.bool b] (.int .i64 (if b then 1 else 0)) [] := by
  refine ACall.of_does TTok Tryd.func57 rfl Tryd.call57 rfl (wpc_sound (M := MW) (PL := PL0) (CU := noCut) TTok mixed _ _ _ ?_)
  cases b
  all_goals
    conv => whnf
    repeat ((first | refine ifB_t ?_ | refine ifB_f ?_ | refine ⟨⟨rfl, rfl⟩, ?_⟩); conv => whnf)
    rfl
theorem hd_au {l : List Hd} {j m s : Nat} (h : j < l.length) (hm : m = 66 * j) (hs : s = 32) : takeN s (List.drop 0 (List.drop m (rowsC hdC l))) = some (c32 l[j].au []) := by
  rw [List.drop_zero, rowsC_at hdC_length h hm, hs]
  rfl
theorem c32_take {l : List Int} (h : l.length = 32) (r : List AV) : (c32 l r).take 32 = bys l := by
  rw [c32_eq h, List.take_append_of_le_length (by simp [h]), List.take_of_length_le (by simp [h])]
theorem cut_hd {l : List Hd} {j m : Nat} (h : j < l.length) (hm : m = 66 * j) (hw : l[j].au.length = 32) : cutB (List.take (32 * 1) (List.drop 0 (List.drop m (rowsC hdC l)))) none none 1 = bys l[j].au := by
  rw [List.drop_zero, rowsC_at hdC_length h hm]
  exact cut32 hw _
theorem cmp_lt0 {a b : List Int} : decide (0 ≤ cmpI a b) = !bytesLt a b := cmp_ge
def PLheads : Nat → Bool × Plan := plans [(6, (false, (takesTo [0, 1, 2, 3, 4, 5, 6, 7, 8, 9, 10] (.all [(11, (takes [12, 13, 14]))]))))]
theorem heads_ok (l : List Hd) (hl : ∀ h ∈ l, HdS h) (hn : l.length ≤ 1000000000) : ACall Tryd.prog 61 [.ro l.length (rowsC hdC l)] (.bool (headsR l)) [] := by
  refine ACall.of_does TTok Tryd.func61 rfl Tryd.call61 rfl (wpc_sound (M := MW) (PL := PLheads) (CU := noCut) TTok mixed _ _ _ ?_)
  conv => whnf
  refine ifB_dec (fun c0 => ?_) (fun c0 => ?_)
  · have : headsR l = false := by unfold headsR; rw [df (show ¬ l.length ≤ 8 by omega)]; rfl
    rw [this]
    conv => whnf
    repeat ((refine ⟨rfl, ?_⟩); conv => whnf)
    rfl
  conv => whnf
  refine Does.loop (fun c : Nat => mkSt [(0, .ro l.length (rowsC hdC l)), (8, .ro l.length (rowsC hdC l)), (9, .int .i64 l.length), (10, .int .i64 c)] [] 0 59)
    (fun c => c ≤ l.length ∧ (List.range c).all (hdAt l) = true) (fun c => l.length - c) ?_ 0 ⟨Nat.zero_le _, rfl⟩ ?_
  · rintro c ⟨hc, hx⟩
    rcases Nat.lt_or_ge c l.length with c1 | c1
    · have hh := hl _ (List.getElem_mem c1)
      have e : hdAt l c = ((decide (c = 0) || bytesLt (l.getD (c - 1) hd0).au l[c].au) && hdR l[c]) := by
        unfold hdAt; rw [List.getD_eq_getElem?_getD (i := c), List.getElem?_eq_getElem c1]; rfl
      refine wpc_sound (M := MW) (PL := PLheads) (CU := cutAt [100006, 100008]) TTok mixed _ _ _ ?_
      conv => whnf
      repeat ((first | (refine ifB_pos (decide_eq_true (by first | omega | rfl | (dsimp only; omega))) ?_) | (refine ⟨⟨?_, ?_, ?_⟩, ?_⟩; (focus omega); (focus (first | omega | (simp; done) | (simp; omega))); (focus (first | (rw [prfs_len]; simp; omega) | (rw [ents_len]; simp; omega) | (rw [hds_len]; simp; omega) | (rw [lets_len]; simp; omega))))); conv => whnf)
      refine ⟨_, takeN_row hdC_length c1 (by simp; omega) rfl, ?_⟩
      conv => whnf
      repeat ((first | refine ⟨(⟨by kernel_rfl, by kernel_rfl, Nat.le_of_ble_eq_true (by kernel_rfl)⟩ : AV.ones _ = true ∧ _ ∧ _), ?_⟩ | refine ⟨rfl, ?_⟩); conv => whnf)
      refine Does.tidy [(0, .ro l.length (rowsC hdC l)), (3, .int .i64 c), (4, .ptr 0 0), (8, .ro l.length (rowsC hdC l)), (9, .int .i64 l.length), (10, .int .i64 c)] [(0, hdC l[c])] 1 59 rfl rfl rfl (by kernel_rfl) (by kernel_rfl) ?_
      generalize hq : l[c] = q at hh e ⊢
      refine wpc_sound (M := MW) (PL := PLheads) (CU := noCut) TTok mixed _ _ _ ?_
      conv => whnf
      refine ⟨by kernel_rfl, ?_⟩
      conv => whnf
      rcases Nat.eq_zero_or_pos c with c2 | c2
      · rw [dt c2, Bool.true_or, Bool.true_and] at e
        refine ifB_neg (df (by omega)) ?_
        conv => whnf
        repeat ((refine ifB_f ?_); conv => whnf)
        refine Does.tidy [(0, .ro l.length (rowsC hdC l)), (4, .ptr 0 0), (8, .ro l.length (rowsC hdC l)), (9, .int .i64 l.length), (10, .int .i64 c)] [(0, hdC q)] 1 59 rfl rfl rfl (by kernel_rfl) (by kernel_rfl) ?_
        refine wpc_sound (M := MW) (PL := PLheads) (CU := noCut) TTok mixed _ _ _ ?_
        unfold hdR at e
        by_cases c3 : 0 ≤ q.len
        · rw [dt c3] at e
          by_cases c4 : q.len ≤ 200
          · rw [dt c4] at e
            cases c5 : q.shut
            · rw [c5] at e
              by_cases c6 : q.len ≠ 0
              · rw [dt c6] at e
                conv => whnf
                repeat ((first | refine ifB_f ?_ | (refine ifB_neg (decide_eq_false (by first | omega | rfl | (dsimp only; omega))) ?_) | refine ⟨_, rfl, ?_⟩); conv => whnf)
                refine ifB_neg c5 ?_
                conv => whnf
                repeat ((first | refine ifB_f ?_ | (refine ifB_neg (decide_eq_false (by first | omega | rfl | (dsimp only; omega))) ?_) | (refine fit_i64 ⟨by first | omega | rfl | (dsimp only; omega), by first | omega | rfl | (dsimp only; omega)⟩ ?_) | refine ⟨_, rfl, ?_⟩); conv => whnf)
                exact ⟨c + 1, ⟨by omega, range_snoc hx e⟩, by omega, weaker_of [] rfl rfl ⟨⟨rfl, rfl, hds_pure _⟩, ⟨rfl, rfl, hds_pure _⟩, ⟨rfl, rfl⟩, ⟨rfl, by simp⟩, trivial⟩ trivial⟩
              · rw [df c6] at e
                by_cases c7 : q.id = z32
                · rw [dt c7] at e
                  conv => whnf
                  repeat ((first | refine ifB_f ?_ | (refine ifB_neg (decide_eq_false (by first | omega | rfl | (dsimp only; omega))) ?_) | refine ⟨_, rfl, ?_⟩); conv => whnf)
                  refine ifB_neg c5 ?_
                  conv => whnf
                  repeat ((first | refine ifB_t ?_ | refine ifB_f ?_ | (refine ifB_pos (decide_eq_true (by first | omega | rfl | (dsimp only; omega))) ?_) | refine ⟨_, rfl, ?_⟩); conv => whnf)
                  refine ⟨q.id, z32, ⟨rfl, c32_map hh.id.2, rfl, hh.id.2, rfl⟩, ?_⟩
                  conv => whnf
                  repeat ((refine ifB_t ?_); conv => whnf)
                  rw [dt c7]
                  conv => whnf
                  repeat ((first | refine ifB_f ?_ | (refine fit_i64 ⟨by first | omega | rfl | (dsimp only; omega), by first | omega | rfl | (dsimp only; omega)⟩ ?_)); conv => whnf)
                  exact ⟨c + 1, ⟨by omega, range_snoc hx e⟩, by omega, weaker_of [] rfl rfl ⟨⟨rfl, rfl, hds_pure _⟩, ⟨rfl, rfl, hds_pure _⟩, ⟨rfl, rfl⟩, ⟨rfl, by simp⟩, trivial⟩ trivial⟩
                · rw [df c7] at e
                  rw [headsR_no c1 e]
                  conv => whnf
                  repeat ((first | refine ifB_f ?_ | (refine ifB_neg (decide_eq_false (by first | omega | rfl | (dsimp only; omega))) ?_) | refine ⟨_, rfl, ?_⟩); conv => whnf)
                  refine ifB_neg c5 ?_
                  conv => whnf
                  repeat ((first | refine ifB_t ?_ | refine ifB_f ?_ | (refine ifB_pos (decide_eq_true (by first | omega | rfl | (dsimp only; omega))) ?_) | refine ⟨_, rfl, ?_⟩); conv => whnf)
                  refine ⟨q.id, z32, ⟨rfl, c32_map hh.id.2, rfl, hh.id.2, rfl⟩, ?_⟩
                  conv => whnf
                  repeat ((refine ifB_t ?_); conv => whnf)
                  rw [df c7]
                  conv => whnf
                  repeat ((first | refine ifB_t ?_ | refine ⟨rfl, ?_⟩); conv => whnf)
                  rfl
            · rw [c5] at e
              by_cases c6 : q.len ≤ 0
              · rw [dt c6, df (show ¬ q.len ≠ 0 by omega)] at e
                by_cases c7 : q.id = z32
                · rw [dt c7] at e
                  conv => whnf
                  repeat ((first | refine ifB_f ?_ | (refine ifB_neg (decide_eq_false (by first | omega | rfl | (dsimp only; omega))) ?_) | refine ⟨_, rfl, ?_⟩); conv => whnf)
                  refine ifB_pos c5 ?_
                  conv => whnf
                  repeat ((first | refine ifB_t ?_ | refine ifB_f ?_ | (refine ifB_neg (decide_eq_false (by first | omega | rfl | (dsimp only; omega))) ?_) | (refine ifB_pos (decide_eq_true (by first | omega | rfl | (dsimp only; omega))) ?_) | refine ⟨_, rfl, ?_⟩); conv => whnf)
                  refine ⟨q.id, z32, ⟨rfl, c32_map hh.id.2, rfl, hh.id.2, rfl⟩, ?_⟩
                  conv => whnf
                  repeat ((refine ifB_t ?_); conv => whnf)
                  rw [dt c7]
                  conv => whnf
                  repeat ((first | refine ifB_f ?_ | (refine fit_i64 ⟨by first | omega | rfl | (dsimp only; omega), by first | omega | rfl | (dsimp only; omega)⟩ ?_)); conv => whnf)
                  exact ⟨c + 1, ⟨by omega, range_snoc hx e⟩, by omega, weaker_of [] rfl rfl ⟨⟨rfl, rfl, hds_pure _⟩, ⟨rfl, rfl, hds_pure _⟩, ⟨rfl, rfl⟩, ⟨rfl, by simp⟩, trivial⟩ trivial⟩
                · rw [df c7] at e
                  rw [headsR_no c1 e]
                  conv => whnf
                  repeat ((first | refine ifB_f ?_ | (refine ifB_neg (decide_eq_false (by first | omega | rfl | (dsimp only; omega))) ?_) | refine ⟨_, rfl, ?_⟩); conv => whnf)
                  refine ifB_pos c5 ?_
                  conv => whnf
                  repeat ((first | refine ifB_t ?_ | refine ifB_f ?_ | (refine ifB_neg (decide_eq_false (by first | omega | rfl | (dsimp only; omega))) ?_) | (refine ifB_pos (decide_eq_true (by first | omega | rfl | (dsimp only; omega))) ?_) | refine ⟨_, rfl, ?_⟩); conv => whnf)
                  refine ⟨q.id, z32, ⟨rfl, c32_map hh.id.2, rfl, hh.id.2, rfl⟩, ?_⟩
                  conv => whnf
                  repeat ((refine ifB_t ?_); conv => whnf)
                  rw [df c7]
                  conv => whnf
                  repeat ((first | refine ifB_t ?_ | refine ⟨rfl, ?_⟩); conv => whnf)
                  rfl
              · rw [df c6] at e
                rw [headsR_no c1 e]
                conv => whnf
                repeat ((first | refine ifB_f ?_ | (refine ifB_neg (decide_eq_false (by first | omega | rfl | (dsimp only; omega))) ?_) | refine ⟨_, rfl, ?_⟩); conv => whnf)
                refine ifB_pos c5 ?_
                conv => whnf
                repeat ((first | refine ifB_t ?_ | refine ifB_f ?_ | (refine ifB_pos (decide_eq_true (by first | omega | rfl | (dsimp only; omega))) ?_) | refine ⟨rfl, ?_⟩ | refine ⟨_, rfl, ?_⟩); conv => whnf)
                rfl
          · rw [df c4] at e
            rw [headsR_no c1 e]
            conv => whnf
            repeat ((first | refine ifB_t ?_ | refine ifB_f ?_ | (refine ifB_neg (decide_eq_false (by first | omega | rfl | (dsimp only; omega))) ?_) | (refine ifB_pos (decide_eq_true (by first | omega | rfl | (dsimp only; omega))) ?_) | refine ⟨rfl, ?_⟩ | refine ⟨_, rfl, ?_⟩); conv => whnf)
            rfl
        · rw [df c3] at e
          rw [headsR_no c1 e]
          conv => whnf
          repeat ((first | refine ifB_t ?_ | (refine ifB_pos (decide_eq_true (by first | omega | rfl | (dsimp only; omega))) ?_) | refine ⟨rfl, ?_⟩ | refine ⟨_, rfl, ?_⟩); conv => whnf)
          rfl
      · have hp := hl _ (List.getElem_mem (show c - 1 < l.length by omega))
        refine ifB_pos (dt (by omega)) ?_
        conv => whnf
        repeat ((first | refine ifB_t ?_ | (refine fit_i64 ⟨by first | omega | rfl | (dsimp only; omega), by first | omega | rfl | (dsimp only; omega)⟩ ?_) | (refine ⟨⟨by first | (simp only [List.drop_zero, List.length_drop, hds_len]; omega) | exact Nat.le_of_ble_eq_true (by kernel_rfl), okB_none _⟩, ?_⟩) | (refine ⟨⟨?_, ?_, ?_⟩, ?_⟩; (focus omega); (focus (first | omega | (simp; done) | (simp; omega))); (focus (first | (rw [prfs_len]; simp; omega) | (rw [ents_len]; simp; omega) | (rw [hds_len]; simp; omega) | (rw [lets_len]; simp; omega))))); conv => whnf)
        have ec := cut_hd (l := l) (j := c - 1) (m := ((c : Int) - 1).toNat * 66) (by omega) (by omega) hp.au.2
        refine ⟨(congrArg pureL ec).trans (pureL_bys _), ?_⟩
        conv => whnf
        repeat ((refine ⟨rfl, ?_⟩); conv => whnf)
        refine Or.inr ?_
        conv => whnf
        repeat ((refine ⟨rfl, ?_⟩); conv => whnf)
        refine ⟨_, _, (compare_ok l[c - 1].au q.au hp.au.1 hh.au.1).arg2 hp.au.2.symm ec hh.au.2.symm (c32_take hh.au.2 _), by first | rfl | simp [noRoIf, noRoL, noRoV, noRoL_bys], ?_⟩
        conv => whnf
        repeat ((refine ifB_t ?_); conv => whnf)
        rw [df (show ¬ c = 0 by omega), Bool.false_or] at e
        rw [List.getD_eq_getElem?_getD, List.getElem?_eq_getElem (show c - 1 < l.length by omega), Option.getD_some] at e
        rw [cmp_lt0]
        cases c8 : bytesLt l[c - 1].au q.au
        · rw [c8, Bool.false_and] at e
          rw [headsR_no c1 e]
          conv => whnf
          repeat ((first | refine ifB_t ?_ | refine ⟨rfl, ?_⟩); conv => whnf)
          rfl
        rw [c8, Bool.true_and] at e
        conv => whnf
        repeat ((refine ifB_f ?_); conv => whnf)
        refine Does.tidy [(0, .ro l.length (rowsC hdC l)), (4, .ptr 0 0), (8, .ro l.length (rowsC hdC l)), (9, .int .i64 l.length), (10, .int .i64 c)] [(0, hdC q)] 1 59 rfl rfl rfl (by kernel_rfl) (by kernel_rfl) ?_
        refine wpc_sound (M := MW) (PL := PLheads) (CU := noCut) TTok mixed _ _ _ ?_
        unfold hdR at e
        by_cases c3 : 0 ≤ q.len
        · rw [dt c3] at e
          by_cases c4 : q.len ≤ 200
          · rw [dt c4] at e
            cases c5 : q.shut
            · rw [c5] at e
              by_cases c6 : q.len ≠ 0
              · rw [dt c6] at e
                conv => whnf
                repeat ((first | refine ifB_f ?_ | (refine ifB_neg (decide_eq_false (by first | omega | rfl | (dsimp only; omega))) ?_) | refine ⟨_, rfl, ?_⟩); conv => whnf)
                refine ifB_neg c5 ?_
                conv => whnf
                repeat ((first | refine ifB_f ?_ | (refine ifB_neg (decide_eq_false (by first | omega | rfl | (dsimp only; omega))) ?_) | (refine fit_i64 ⟨by first | omega | rfl | (dsimp only; omega), by first | omega | rfl | (dsimp only; omega)⟩ ?_) | refine ⟨_, rfl, ?_⟩); conv => whnf)
                exact ⟨c + 1, ⟨by omega, range_snoc hx e⟩, by omega, weaker_of [] rfl rfl ⟨⟨rfl, rfl, hds_pure _⟩, ⟨rfl, rfl, hds_pure _⟩, ⟨rfl, rfl⟩, ⟨rfl, by simp⟩, trivial⟩ trivial⟩
              · rw [df c6] at e
                by_cases c7 : q.id = z32
                · rw [dt c7] at e
                  conv => whnf
                  repeat ((first | refine ifB_f ?_ | (refine ifB_neg (decide_eq_false (by first | omega | rfl | (dsimp only; omega))) ?_) | refine ⟨_, rfl, ?_⟩); conv => whnf)
                  refine ifB_neg c5 ?_
                  conv => whnf
                  repeat ((first | refine ifB_t ?_ | refine ifB_f ?_ | (refine ifB_pos (decide_eq_true (by first | omega | rfl | (dsimp only; omega))) ?_) | refine ⟨_, rfl, ?_⟩); conv => whnf)
                  refine ⟨q.id, z32, ⟨rfl, c32_map hh.id.2, rfl, hh.id.2, rfl⟩, ?_⟩
                  conv => whnf
                  repeat ((refine ifB_t ?_); conv => whnf)
                  rw [dt c7]
                  conv => whnf
                  repeat ((first | refine ifB_f ?_ | (refine fit_i64 ⟨by first | omega | rfl | (dsimp only; omega), by first | omega | rfl | (dsimp only; omega)⟩ ?_)); conv => whnf)
                  exact ⟨c + 1, ⟨by omega, range_snoc hx e⟩, by omega, weaker_of [] rfl rfl ⟨⟨rfl, rfl, hds_pure _⟩, ⟨rfl, rfl, hds_pure _⟩, ⟨rfl, rfl⟩, ⟨rfl, by simp⟩, trivial⟩ trivial⟩
                · rw [df c7] at e
                  rw [headsR_no c1 e]
                  conv => whnf
                  repeat ((first | refine ifB_f ?_ | (refine ifB_neg (decide_eq_false (by first | omega | rfl | (dsimp only; omega))) ?_) | refine ⟨_, rfl, ?_⟩); conv => whnf)
                  refine ifB_neg c5 ?_
                  conv => whnf
                  repeat ((first | refine ifB_t ?_ | refine ifB_f ?_ | (refine ifB_pos (decide_eq_true (by first | omega | rfl | (dsimp only; omega))) ?_) | refine ⟨_, rfl, ?_⟩); conv => whnf)
                  refine ⟨q.id, z32, ⟨rfl, c32_map hh.id.2, rfl, hh.id.2, rfl⟩, ?_⟩
                  conv => whnf
                  repeat ((refine ifB_t ?_); conv => whnf)
                  rw [df c7]
                  conv => whnf
                  repeat ((first | refine ifB_t ?_ | refine ⟨rfl, ?_⟩); conv => whnf)
                  rfl
            · rw [c5] at e
              by_cases c6 : q.len ≤ 0
              · rw [dt c6, df (show ¬ q.len ≠ 0 by omega)] at e
                by_cases c7 : q.id = z32
                · rw [dt c7] at e
                  conv => whnf
                  repeat ((first | refine ifB_f ?_ | (refine ifB_neg (decide_eq_false (by first | omega | rfl | (dsimp only; omega))) ?_) | refine ⟨_, rfl, ?_⟩); conv => whnf)
                  refine ifB_pos c5 ?_
                  conv => whnf
                  repeat ((first | refine ifB_t ?_ | refine ifB_f ?_ | (refine ifB_neg (decide_eq_false (by first | omega | rfl | (dsimp only; omega))) ?_) | (refine ifB_pos (decide_eq_true (by first | omega | rfl | (dsimp only; omega))) ?_) | refine ⟨_, rfl, ?_⟩); conv => whnf)
                  refine ⟨q.id, z32, ⟨rfl, c32_map hh.id.2, rfl, hh.id.2, rfl⟩, ?_⟩
                  conv => whnf
                  repeat ((refine ifB_t ?_); conv => whnf)
                  rw [dt c7]
                  conv => whnf
                  repeat ((first | refine ifB_f ?_ | (refine fit_i64 ⟨by first | omega | rfl | (dsimp only; omega), by first | omega | rfl | (dsimp only; omega)⟩ ?_)); conv => whnf)
                  exact ⟨c + 1, ⟨by omega, range_snoc hx e⟩, by omega, weaker_of [] rfl rfl ⟨⟨rfl, rfl, hds_pure _⟩, ⟨rfl, rfl, hds_pure _⟩, ⟨rfl, rfl⟩, ⟨rfl, by simp⟩, trivial⟩ trivial⟩
                · rw [df c7] at e
                  rw [headsR_no c1 e]
                  conv => whnf
                  repeat ((first | refine ifB_f ?_ | (refine ifB_neg (decide_eq_false (by first | omega | rfl | (dsimp only; omega))) ?_) | refine ⟨_, rfl, ?_⟩); conv => whnf)
                  refine ifB_pos c5 ?_
                  conv => whnf
                  repeat ((first | refine ifB_t ?_ | refine ifB_f ?_ | (refine ifB_neg (decide_eq_false (by first | omega | rfl | (dsimp only; omega))) ?_) | (refine ifB_pos (decide_eq_true (by first | omega | rfl | (dsimp only; omega))) ?_) | refine ⟨_, rfl, ?_⟩); conv => whnf)
                  refine ⟨q.id, z32, ⟨rfl, c32_map hh.id.2, rfl, hh.id.2, rfl⟩, ?_⟩
                  conv => whnf
                  repeat ((refine ifB_t ?_); conv => whnf)
                  rw [df c7]
                  conv => whnf
                  repeat ((first | refine ifB_t ?_ | refine ⟨rfl, ?_⟩); conv => whnf)
                  rfl
              · rw [df c6] at e
                rw [headsR_no c1 e]
                conv => whnf
                repeat ((first | refine ifB_f ?_ | (refine ifB_neg (decide_eq_false (by first | omega | rfl | (dsimp only; omega))) ?_) | refine ⟨_, rfl, ?_⟩); conv => whnf)
                refine ifB_pos c5 ?_
                conv => whnf
                repeat ((first | refine ifB_t ?_ | refine ifB_f ?_ | (refine ifB_pos (decide_eq_true (by first | omega | rfl | (dsimp only; omega))) ?_) | refine ⟨rfl, ?_⟩ | refine ⟨_, rfl, ?_⟩); conv => whnf)
                rfl
          · rw [df c4] at e
            rw [headsR_no c1 e]
            conv => whnf
            repeat ((first | refine ifB_t ?_ | refine ifB_f ?_ | (refine ifB_neg (decide_eq_false (by first | omega | rfl | (dsimp only; omega))) ?_) | (refine ifB_pos (decide_eq_true (by first | omega | rfl | (dsimp only; omega))) ?_) | refine ⟨rfl, ?_⟩ | refine ⟨_, rfl, ?_⟩); conv => whnf)
            rfl
        · rw [df c3] at e
          rw [headsR_no c1 e]
          conv => whnf
          repeat ((first | refine ifB_t ?_ | (refine ifB_pos (decide_eq_true (by first | omega | rfl | (dsimp only; omega))) ?_) | refine ⟨rfl, ?_⟩ | refine ⟨_, rfl, ?_⟩); conv => whnf)
          rfl
    · obtain rfl : c = l.length := by omega
      refine wpc_sound (M := MW) (PL := PLheads) (CU := noCut) TTok mixed _ _ _ ?_
      have : headsR l = true := by unfold headsR; rw [hx, dt (show l.length ≤ 8 by omega)]; rfl
      rw [this]
      conv => whnf
      repeat ((first | (refine ifB_neg (decide_eq_false (by first | omega | rfl | (dsimp only; omega))) ?_) | refine ⟨rfl, ?_⟩); conv => whnf)
      rfl
  · exact weaker_of [] rfl rfl ⟨⟨rfl, rfl, hds_pure _⟩, ⟨rfl, rfl, hds_pure _⟩, ⟨rfl, rfl⟩, ⟨rfl, rfl⟩, trivial⟩ trivial
end Go.Proofs.YtelnlfhdaelfdaaDoor.Abs
end
section
--KR
set_option linter.unusedVariables false
set_option linter.unusedSimpArgs false
namespace Go.Proofs.YtelnlfhdaelfdaaDoor.Abs
open Go
attribute [local irreducible] ifB fitP Does Weaker
/-- May a message go from there to there? -/
def whoR (m : Msg) : Bool := decide (0 ≤ m.frm) && decide (m.frm < 8) && decide (0 ≤ m.to) && decide (m.to < 8) && decide (m.frm ≠ m.to)
/-- May a message be? -/
def msgR (m : Msg) : Bool := whoR m && (if m.kind = 1 then headsR m.hs && decide ((m.ps.length : Int) + m.es.length = 0) else if m.kind = 2 then decide (m.hs.length = 0) && decide (m.ps.length ≤ 4) && decide ((m.es.length : Int) ≤ 4 - m.ps.length) && !(m.ps.any fun p => !prfR p) && !(m.es.any fun e => !entR e) else false)
set_option maxHeartbeats 1000000 in
theorem check_msg_ok (m : Msg) (hm : MsgS m) : ACall Tryd.prog 31 [.agg (msgC m)] (.int .i64 (if msgR m then 0 else 1)) [] := by
  have hh := heads_ok m.hs hm.hs hm.hl
  have hp := contains1_ok m.ps hm.ps hm.pl
  have he := contains2_ok m.es hm.es hm.el
  have l1 := hm.hl
  have l2 := hm.pl
  have l3 := hm.el
  refine ACall.of_does TTok Tryd.func31 rfl Tryd.call31 rfl (wpc_sound (M := MW) (PL := PL0) (CU := cutAt [200001]) TTok mixed _ _ _ ?_)
  conv => whnf
  repeat ((refine ⟨rfl, ?_⟩); conv => whnf)
  refine Does.seqCut (fun ok : Bool => mkSt [(1, .ptr 0 0), (3, .bool ok)] [(0, msgC m)] 1 90) (fun ok => ok = whoR m) ?_ ?_
  · refine wpc_sound (M := MW) (PL := PL0) (CU := noCut) TTok mixed _ _ _ ?_
    unfold whoR
    by_cases a1 : 0 ≤ m.frm
    · rw [dt a1]
      by_cases a2 : m.frm < 8
      · rw [dt a2]
        by_cases a3 : 0 ≤ m.to
        · rw [dt a3]
          by_cases a4 : m.to < 8
          · rw [dt a4]
            conv => whnf
            repeat ((first | refine ifB_t ?_ | (refine ifB_pos (decide_eq_true (by first | omega | rfl | (dsimp only; omega))) ?_) | refine ⟨_, rfl, ?_⟩); conv => whnf)
            exact Weaker.tidy _ _ _ _ rfl rfl rfl (by kernel_rfl) (by kernel_rfl)
          · rw [df a4]
            conv => whnf
            repeat ((first | refine ifB_t ?_ | refine ifB_f ?_ | (refine ifB_neg (decide_eq_false (by first | omega | rfl | (dsimp only; omega))) ?_) | (refine ifB_pos (decide_eq_true (by first | omega | rfl | (dsimp only; omega))) ?_) | refine ⟨_, rfl, ?_⟩); conv => whnf)
            exact Weaker.tidy _ _ _ _ rfl rfl rfl (by kernel_rfl) (by kernel_rfl)
        · rw [df a3]
          conv => whnf
          repeat ((first | refine ifB_t ?_ | refine ifB_f ?_ | (refine ifB_neg (decide_eq_false (by first | omega | rfl | (dsimp only; omega))) ?_) | (refine ifB_pos (decide_eq_true (by first | omega | rfl | (dsimp only; omega))) ?_) | refine ⟨_, rfl, ?_⟩); conv => whnf)
          exact Weaker.tidy _ _ _ _ rfl rfl rfl (by kernel_rfl) (by kernel_rfl)
      · rw [df a2]
        conv => whnf
        repeat ((first | refine ifB_t ?_ | refine ifB_f ?_ | (refine ifB_neg (decide_eq_false (by first | omega | rfl | (dsimp only; omega))) ?_) | (refine ifB_pos (decide_eq_true (by first | omega | rfl | (dsimp only; omega))) ?_) | refine ⟨_, rfl, ?_⟩); conv => whnf)
        exact Weaker.tidy _ _ _ _ rfl rfl rfl (by kernel_rfl) (by kernel_rfl)
    · rw [df a1]
      conv => whnf
      repeat ((first | refine ifB_f ?_ | (refine ifB_neg (decide_eq_false (by first | omega | rfl | (dsimp only; omega))) ?_) | refine ⟨_, rfl, ?_⟩); conv => whnf)
      exact Weaker.tidy _ _ _ _ rfl rfl rfl (by kernel_rfl) (by kernel_rfl)
  · intro ok hok
    unfold msgR
    rw [← hok]
    clear hok
    refine wpc_sound (M := MW) (PL := PL0) (CU := noCut) TTok mixed _ _ _ ?_
    by_cases k1 : m.kind = 1
    · rw [if_pos k1]
      cases ok
      · conv => whnf
        repeat ((first | refine ifB_t ?_ | refine ifB_f ?_ | (refine ifB_pos (decide_eq_true (by first | omega | rfl | (dsimp only; omega))) ?_) | refine ⟨_, rfl, ?_⟩ | refine ⟨⟨rfl, rfl⟩, ?_⟩); conv => whnf)
        rfl
      · cases c1 : headsR m.hs <;> rw [c1] at hh
        · conv => whnf
          repeat ((first | refine ifB_t ?_ | (refine ifB_pos (decide_eq_true (by first | omega | rfl | (dsimp only; omega))) ?_) | refine ⟨rfl, ?_⟩ | refine ⟨_, rfl, ?_⟩ | refine ⟨(show pureL (rowsC _ _) = true from by first | exact prfs_pure _ | exact ents_pure _ | exact hds_pure _ | exact lets_pure _), ?_⟩); conv => whnf)
          refine ⟨_, _, hh, by first | rfl | simp [noRoIf, noRoL, noRoV, noRoL_bys], ?_⟩
          conv => whnf
          repeat ((first | refine ifB_t ?_ | refine ifB_f ?_ | refine ⟨⟨rfl, rfl⟩, ?_⟩); conv => whnf)
          rfl
        · by_cases c2 : (m.ps.length : Int) + m.es.length = 0
          · rw [dt c2]
            conv => whnf
            repeat ((first | refine ifB_t ?_ | (refine ifB_pos (decide_eq_true (by first | omega | rfl | (dsimp only; omega))) ?_) | refine ⟨rfl, ?_⟩ | refine ⟨_, rfl, ?_⟩ | refine ⟨(show pureL (rowsC _ _) = true from by first | exact prfs_pure _ | exact ents_pure _ | exact hds_pure _ | exact lets_pure _), ?_⟩); conv => whnf)
            refine ⟨_, _, hh, by first | rfl | simp [noRoIf, noRoL, noRoV, noRoL_bys], ?_⟩
            conv => whnf
            repeat ((first | refine ifB_t ?_ | (refine fit_i64 ⟨by first | omega | rfl | (dsimp only; omega), by first | omega | rfl | (dsimp only; omega)⟩ ?_) | refine ⟨_, rfl, ?_⟩); conv => whnf)
            rw [dt c2]
            conv => whnf
            repeat ((first | refine ifB_f ?_ | refine ⟨⟨rfl, rfl⟩, ?_⟩); conv => whnf)
            rfl
          · rw [df c2]
            conv => whnf
            repeat ((first | refine ifB_t ?_ | (refine ifB_pos (decide_eq_true (by first | omega | rfl | (dsimp only; omega))) ?_) | refine ⟨rfl, ?_⟩ | refine ⟨_, rfl, ?_⟩ | refine ⟨(show pureL (rowsC _ _) = true from by first | exact prfs_pure _ | exact ents_pure _ | exact hds_pure _ | exact lets_pure _), ?_⟩); conv => whnf)
            refine ⟨_, _, hh, by first | rfl | simp [noRoIf, noRoL, noRoV, noRoL_bys], ?_⟩
            conv => whnf
            repeat ((first | refine ifB_t ?_ | (refine fit_i64 ⟨by first | omega | rfl | (dsimp only; omega), by first | omega | rfl | (dsimp only; omega)⟩ ?_) | refine ⟨_, rfl, ?_⟩); conv => whnf)
            rw [df c2]
            conv => whnf
            repeat ((first | refine ifB_t ?_ | refine ⟨⟨rfl, rfl⟩, ?_⟩); conv => whnf)
            rfl
    · rw [if_neg k1]
      by_cases k2 : m.kind = 2
      · rw [if_pos k2]
        cases ok
        · conv => whnf
          repeat ((first | refine ifB_t ?_ | refine ifB_f ?_ | (refine ifB_neg (decide_eq_false (by first | omega | rfl | (dsimp only; omega))) ?_) | (refine ifB_pos (decide_eq_true (by first | omega | rfl | (dsimp only; omega))) ?_) | refine ⟨_, rfl, ?_⟩ | refine ⟨⟨rfl, rfl⟩, ?_⟩); conv => whnf)
          rfl
        by_cases d1 : m.hs.length = 0
        · rw [dt d1]
          by_cases d2 : m.ps.length ≤ 4
          · rw [dt d2]
            by_cases d3 : (m.es.length : Int) ≤ 4 - m.ps.length
            · rw [dt d3]
              cases d4 : (m.ps.any fun p => !prfR p) <;> rw [d4] at hp
              · cases d5 : (m.es.any fun e => !entR e) <;> rw [d5] at he
                · conv => whnf
                  repeat ((first | refine ifB_t ?_ | (refine ifB_neg (decide_eq_false (by first | omega | rfl | (dsimp only; omega))) ?_) | (refine ifB_pos (decide_eq_true (by first | omega | rfl | (dsimp only; omega))) ?_) | (refine fit_i64 ⟨by first | omega | rfl | (dsimp only; omega), by first | omega | rfl | (dsimp only; omega)⟩ ?_) | refine ⟨rfl, ?_⟩ | refine ⟨_, rfl, ?_⟩ | refine ⟨(show pureL (rowsC _ _) = true from by first | exact prfs_pure _ | exact ents_pure _ | exact hds_pure _ | exact lets_pure _), ?_⟩); conv => whnf)
                  refine ⟨_, _, hp, by first | rfl | simp [noRoIf, noRoL, noRoV, noRoL_bys], ?_⟩
                  conv => whnf
                  repeat ((first | refine ifB_t ?_ | refine ⟨rfl, ?_⟩ | refine ⟨_, rfl, ?_⟩ | refine ⟨(show pureL (rowsC _ _) = true from by first | exact prfs_pure _ | exact ents_pure _ | exact hds_pure _ | exact lets_pure _), ?_⟩); conv => whnf)
                  refine ⟨_, _, he, by first | rfl | simp [noRoIf, noRoL, noRoV, noRoL_bys], ?_⟩
                  conv => whnf
                  repeat ((first | refine ifB_t ?_ | refine ifB_f ?_ | refine ⟨⟨rfl, rfl⟩, ?_⟩); conv => whnf)
                  rfl
                · conv => whnf
                  repeat ((first | refine ifB_t ?_ | (refine ifB_neg (decide_eq_false (by first | omega | rfl | (dsimp only; omega))) ?_) | (refine ifB_pos (decide_eq_true (by first | omega | rfl | (dsimp only; omega))) ?_) | (refine fit_i64 ⟨by first | omega | rfl | (dsimp only; omega), by first | omega | rfl | (dsimp only; omega)⟩ ?_) | refine ⟨rfl, ?_⟩ | refine ⟨_, rfl, ?_⟩ | refine ⟨(show pureL (rowsC _ _) = true from by first | exact prfs_pure _ | exact ents_pure _ | exact hds_pure _ | exact lets_pure _), ?_⟩); conv => whnf)
                  refine ⟨_, _, hp, by first | rfl | simp [noRoIf, noRoL, noRoV, noRoL_bys], ?_⟩
                  conv => whnf
                  repeat ((first | refine ifB_t ?_ | refine ⟨rfl, ?_⟩ | refine ⟨_, rfl, ?_⟩ | refine ⟨(show pureL (rowsC _ _) = true from by first | exact prfs_pure _ | exact ents_pure _ | exact hds_pure _ | exact lets_pure _), ?_⟩); conv => whnf)
                  refine ⟨_, _, he, by first | rfl | simp [noRoIf, noRoL, noRoV, noRoL_bys], ?_⟩
                  conv => whnf
                  repeat ((first | refine ifB_t ?_ | refine ⟨⟨rfl, rfl⟩, ?_⟩); conv => whnf)
                  rfl
              · conv => whnf
                repeat ((first | refine ifB_t ?_ | (refine ifB_neg (decide_eq_false (by first | omega | rfl | (dsimp only; omega))) ?_) | (refine ifB_pos (decide_eq_true (by first | omega | rfl | (dsimp only; omega))) ?_) | (refine fit_i64 ⟨by first | omega | rfl | (dsimp only; omega), by first | omega | rfl | (dsimp only; omega)⟩ ?_) | refine ⟨rfl, ?_⟩ | refine ⟨_, rfl, ?_⟩ | refine ⟨(show pureL (rowsC _ _) = true from by first | exact prfs_pure _ | exact ents_pure _ | exact hds_pure _ | exact lets_pure _), ?_⟩); conv => whnf)
                refine ⟨_, _, hp, by first | rfl | simp [noRoIf, noRoL, noRoV, noRoL_bys], ?_⟩
                conv => whnf
                repeat ((first | refine ifB_t ?_ | refine ifB_f ?_ | refine ⟨⟨rfl, rfl⟩, ?_⟩); conv => whnf)
                rfl
            · rw [df d3]
              conv => whnf
              repeat ((first | refine ifB_t ?_ | refine ifB_f ?_ | (refine ifB_neg (decide_eq_false (by first | omega | rfl | (dsimp only; omega))) ?_) | (refine ifB_pos (decide_eq_true (by first | omega | rfl | (dsimp only; omega))) ?_) | (refine fit_i64 ⟨by first | omega | rfl | (dsimp only; omega), by first | omega | rfl | (dsimp only; omega)⟩ ?_) | refine ⟨_, rfl, ?_⟩ | refine ⟨⟨rfl, rfl⟩, ?_⟩); conv => whnf)
              rfl
          · rw [df d2]
            conv => whnf
            repeat ((first | refine ifB_t ?_ | refine ifB_f ?_ | (refine ifB_neg (decide_eq_false (by first | omega | rfl | (dsimp only; omega))) ?_) | (refine ifB_pos (decide_eq_true (by first | omega | rfl | (dsimp only; omega))) ?_) | refine ⟨_, rfl, ?_⟩ | refine ⟨⟨rfl, rfl⟩, ?_⟩); conv => whnf)
            rfl
        · rw [df d1]
          conv => whnf
          repeat ((first | refine ifB_t ?_ | refine ifB_f ?_ | (refine ifB_neg (decide_eq_false (by first | omega | rfl | (dsimp only; omega))) ?_) | (refine ifB_pos (decide_eq_true (by first | omega | rfl | (dsimp only; omega))) ?_) | refine ⟨_, rfl, ?_⟩ | refine ⟨⟨rfl, rfl⟩, ?_⟩); conv => whnf)
          rfl
      · rw [if_neg k2]
        conv => whnf
        repeat ((first | refine ifB_t ?_ | (refine ifB_neg (decide_eq_false (by first | omega | rfl | (dsimp only; omega))) ?_) | refine ⟨_, rfl, ?_⟩ | (refine And.intro ?_ ?_; (focus (first | (simp [limB, lenB, offB]; done) | (simp [limB, lenB, offB]; omega))))); conv => whnf)
        cases ok <;> rfl
end Go.Proofs.YtelnlfhdaelfdaaDoor.Abs
end
section
--KR
set_option linter.unusedVariables false
set_option linter.unusedSimpArgs false
namespace Go.Proofs.YtelnlfhdaelfdaaDoor.Abs
open Go
attribute [local irreducible] ifB fitP Does Weaker
def bitR (b : Bool) : Int := if b then 1 else 0
def hdT (h : Hd) : List Tok := [⟨5, 4, []⟩, ⟨3, 0, h.au⟩, ⟨1, h.len, []⟩, ⟨3, 0, h.id⟩, ⟨1, bitR h.shut, []⟩]
def hdsT : List Hd → List Tok
  | [] => []
  | h :: r => hdT h ++ hdsT r
theorem hdsT_app : ∀ a b : List Hd, hdsT (a ++ b) = hdsT a ++ hdsT b
  | [], b => rfl
  | h :: a, b => by simp only [List.cons_append, hdsT, hdsT_app a b, List.append_assoc]
theorem hdsT_len : ∀ l : List Hd, (hdsT l).length = 5 * l.length
  | [] => rfl
  | h :: r => by simp only [hdsT, List.length_append, hdsT_len r, List.length_cons, hdT, List.length_nil]; omega
def frT (m : Msg) : List Tok := [⟨5, 4, []⟩, ⟨1, 3, []⟩, ⟨1, m.frm, []⟩, ⟨1, m.to, []⟩, ⟨5, m.hs.length, []⟩]
def anT (m : Msg) : List Tok := [⟨5, 5, []⟩, ⟨1, 4, []⟩, ⟨1, m.frm, []⟩, ⟨1, m.to, []⟩, ⟨5, m.ps.length, []⟩]
def prT (l : List Prf) : List Tok := l.map fun p => ⟨3, 0, (prfB p).1⟩
def enT (l : List Ent) : List Tok := l.map fun e => ⟨3, 0, (entB e).1⟩
def msgT (m : Msg) : List Tok := if m.kind = 1 then frT m ++ hdsT m.hs else anT m ++ prT m.ps ++ [⟨5, m.es.length, []⟩] ++ enT m.es
def msgB (m : Msg) : List Int × Int := if msgR m then encR validR (msgT m) else ([], 1)
theorem take_snoc {α : Type} {l : List α} {i : Nat} (h : i < l.length) : l.take (i + 1) = l.take i ++ [l[i]] := by
  rw [List.take_succ_eq_append_getElem h]
def TokB (t : Tok) : Prop := TokOk t ∧ t.b.length ≤ 1099511627776
theorem tokB_num {k n : Int} (hk : 0 ≤ k ∧ k ≤ 100) (hn : -9223372036854775808 ≤ n ∧ n < 9223372036854775808) : TokB ⟨k, n, []⟩ := ⟨⟨by dsimp only; omega, hn, fun x hx => absurd hx (List.not_mem_nil)⟩, by simp⟩
theorem tokB_str {b : List Int} (hb : Byt b) (hl : b.length ≤ 1000000000) : TokB ⟨3, 0, b⟩ := ⟨⟨by dsimp only; omega, by dsimp only; omega, hb⟩, by dsimp only; omega⟩
theorem hdT_tokB {h : Hd} (hh : HdS h) : ∀ t ∈ hdT h, TokB t := by
  intro t ht
  simp only [hdT, List.mem_cons, List.not_mem_nil, or_false] at ht
  rcases ht with rfl | rfl | rfl | rfl | rfl
  · exact tokB_num (by omega) (by omega)
  · exact tokB_str hh.au.1 (by have := hh.au.2; omega)
  · exact tokB_num (by omega) hh.len
  · exact tokB_str hh.id.1 (by have := hh.id.2; omega)
  · exact tokB_num (by omega) (by unfold bitR; split <;> omega)
theorem hdsT_tokB : ∀ {l : List Hd}, (∀ h ∈ l, HdS h) → ∀ t ∈ hdsT l, TokB t
  | [], _, t, ht => absurd ht (List.not_mem_nil)
  | h :: r, H, t, ht => by
    rcases List.mem_append.1 (show t ∈ hdT h ++ hdsT r from ht) with ht | ht
    · exact hdT_tokB (H h List.mem_cons_self) t ht
    · exact hdsT_tokB (fun x hx => H x (List.mem_cons_of_mem _ hx)) t ht
theorem fr_tokB {m : Msg} (hm : MsgS m) : ∀ t ∈ frT m ++ hdsT m.hs, TokB t := by
  intro t ht
  rcases List.mem_append.1 ht with ht | ht
  · simp only [frT, List.mem_cons, List.not_mem_nil, or_false] at ht
    have := hm.hl
    rcases ht with rfl | rfl | rfl | rfl | rfl
    · exact tokB_num (by omega) (by omega)
    · exact tokB_num (by omega) (by omega)
    · exact tokB_num (by omega) hm.frm
    · exact tokB_num (by omega) hm.to
    · exact tokB_num (by omega) (by omega)
  · exact hdsT_tokB hm.hs t ht
theorem prf_toks {p : Prf} (hp : PrfS p) : ToksOk [⟨5, 3, []⟩, ⟨1, 2, []⟩, ⟨3, 0, (entB p.a).1⟩, ⟨3, 0, (entB p.b).1⟩] := by
  have b1 := entB_byt hp.a
  have b2 := entB_byt hp.b
  intro t ht
  simp only [List.mem_cons, List.not_mem_nil, or_false] at ht
  rcases ht with rfl | rfl | rfl | rfl
  · exact (tokB_num (by omega) (by omega)).1
  · exact (tokB_num (by omega) (by omega)).1
  · exact (tokB_str b1.1 (by omega)).1
  · exact (tokB_str b2.1 (by omega)).1
theorem prfB_byt {p : Prf} (hp : PrfS p) : Byt (prfB p).1 ∧ (prfB p).1.length ≤ 32768 := by
  unfold prfB
  split
  · refine ⟨encR_byt _ (prf_toks hp), ?_⟩
    rcases encR_or validR [⟨5, 3, []⟩, ⟨1, 2, []⟩, ⟨3, 0, (entB p.a).1⟩, ⟨3, 0, (entB p.b).1⟩] with h | ⟨a, h⟩
    · rw [h]; simp
    · have := encR_len h
      rw [h]; exact this
  · exact ⟨fun x hx => absurd hx (List.not_mem_nil), by simp⟩
theorem an_tokB {m : Msg} (hm : MsgS m) : ∀ t ∈ anT m ++ prT m.ps ++ [⟨5, m.es.length, []⟩] ++ enT m.es, TokB t := by
  intro t ht
  have h1 := hm.pl
  have h2 := hm.el
  rcases List.mem_append.1 ht with ht | ht
  · rcases List.mem_append.1 ht with ht | ht
    · rcases List.mem_append.1 ht with ht | ht
      · simp only [anT, List.mem_cons, List.not_mem_nil, or_false] at ht
        rcases ht with rfl | rfl | rfl | rfl | rfl
        · exact tokB_num (by omega) (by omega)
        · exact tokB_num (by omega) (by omega)
        · exact tokB_num (by omega) hm.frm
        · exact tokB_num (by omega) hm.to
        · exact tokB_num (by omega) (by omega)
      · simp only [prT, List.mem_map] at ht
        obtain ⟨p, hp, rfl⟩ := ht
        have := prfB_byt (hm.ps p hp)
        exact tokB_str this.1 (by omega)
    · simp only [List.mem_singleton] at ht
      subst ht
      exact tokB_num (by omega) (by omega)
  · simp only [enT, List.mem_map] at ht
    obtain ⟨p, hp, rfl⟩ := ht
    have := entB_byt (hm.es p hp)
    exact tokB_str this.1 (by omega)
def PLmsg : Nat → Bool × Plan := plans [(5, (false, (takesTo [2, 3, 5, 6, 8, 9, 10] (.all [(0, (.all [(1, (.all [(4, (.all [(7, (.all [(11, (.all [(12, (takes [13]))]))]))]))]))]))])))), (9, (false, (takesTo [0, 2, 3, 5, 6, 8, 9, 11, 12] (.all [(1, (.all [(4, (.all [(7, (.all [(10, (.all [(13, (.all [(14, (.all [(15, (.all [(16, (takes [17]))]))]))]))]))]))]))]))])))), (12, (false, (takesTo [2, 3, 5, 6, 8, 9, 10] (.all [(0, (.all [(1, (.all [(4, (.all [(7, (.all [(11, (.all [(12, (takes [13]))]))]))]))]))]))]))))]
set_option maxRecDepth 20000 in
set_option maxHeartbeats 2000000 in
theorem msg_bytes_ok (m : Msg) (hm : MsgS m) : ACall Tryd.prog 30 [.agg (msgC m)] (.tuple [.own (msgB m).1.length 1 (bys (msgB m).1), .int .i64 (msgB m).2]) [] := by
  have hc := check_msg_ok m hm
  unfold msgB
  refine ACall.of_does TTok Tryd.func30 rfl Tryd.call30 rfl (wpc_sound (M := MW) (PL := PLmsg) (CU := cutAt [100004]) TTok mixed _ _ _ ?_)
  cases c1 : msgR m <;> rw [c1] at hc
  · conv => whnf
    repeat ((first | refine ⟨rfl, ?_⟩ | refine ⟨_, rfl, ?_⟩ | refine ⟨(show pureL _ = true from by first | exact prfC_pure _ | exact hdC_pure _ | exact msgC_pure _ | exact letC_pure _), ?_⟩); conv => whnf)
    refine ⟨_, _, hc, by first | rfl | simp [noRoIf, noRoL, noRoV, noRoL_bys], ?_⟩
    conv => whnf
    repeat ((first | refine ifB_t ?_ | refine ⟨⟨rfl, rfl⟩, ?_⟩); conv => whnf)
    rfl
  conv => whnf
  repeat ((first | refine ⟨rfl, ?_⟩ | refine ⟨_, rfl, ?_⟩ | refine ⟨(show pureL _ = true from by first | exact prfC_pure _ | exact hdC_pure _ | exact msgC_pure _ | exact letC_pure _), ?_⟩); conv => whnf)
  refine ⟨_, _, hc, by first | rfl | simp [noRoIf, noRoL, noRoV, noRoL_bys], ?_⟩
  conv => whnf
  repeat ((refine ifB_f ?_); conv => whnf)
  refine Does.freeze 0 rfl (Does.tidy [(1, .rop (msgC m))] [] 1 127 rfl rfl rfl (by kernel_rfl) (by kernel_rfl) ?_)
  refine wpc_sound (M := MW) (PL := PLmsg) (CU := noCut) TTok mixed _ _ _ ?_
  unfold msgT
  by_cases k1 : m.kind = 1
  · rw [if_pos k1]
    conv => whnf
    repeat ((first | (refine ifB_pos (decide_eq_true (by first | omega | rfl | (dsimp only; omega))) ?_) | refine ⟨_, rfl, ?_⟩); conv => whnf)
    refine ⟨by kernel_rfl, ?_⟩
    conv => whnf
    repeat ((first | refine ⟨rfl, ?_⟩ | refine ⟨_, rfl, ?_⟩); conv => whnf)
    refine ⟨_, _, list_ok 4, by first | rfl | simp [noRoIf, noRoL, noRoV, noRoL_bys], ?_⟩
    conv => whnf
    repeat ((refine ⟨rfl, ?_⟩); conv => whnf)
    refine ⟨_, _, num_ok 3, by first | rfl | simp [noRoIf, noRoL, noRoV, noRoL_bys], ?_⟩
    conv => whnf
    repeat ((refine ⟨rfl, ?_⟩); conv => whnf)
    refine ⟨_, _, num_ok m.frm, by first | rfl | simp [noRoIf, noRoL, noRoV, noRoL_bys], ?_⟩
    conv => whnf
    repeat ((refine ⟨rfl, ?_⟩); conv => whnf)
    refine ⟨_, _, num_ok m.to, by first | rfl | simp [noRoIf, noRoL, noRoV, noRoL_bys], ?_⟩
    conv => whnf
    repeat ((refine ⟨rfl, ?_⟩); conv => whnf)
    refine ⟨_, _, list_ok m.hs.length, by first | rfl | simp [noRoIf, noRoL, noRoV, noRoL_bys], ?_⟩
    conv => whnf
    repeat ((first | refine ⟨_, rfl, ?_⟩ | refine ⟨⟨rfl, rfl⟩, ?_⟩); conv => whnf)
    have hL := hm.hl
    refine Does.loop (fun c : Nat => mkSt [(1, .rop (msgC m)), (5, .sl 1 0 (5 + 5 * c) 3 false), (39, .ro m.hs.length (rowsC hdC m.hs)), (40, .int .i64 m.hs.length), (41, .int .i64 c)] [(1, toksC (frT m ++ hdsT (m.hs.take c)))] 2 127)
      (fun c => c ≤ m.hs.length) (fun c => m.hs.length - c) ?_ 0 (Nat.zero_le _) ?_
    · intro c hcl
      rcases Nat.lt_or_ge c m.hs.length with c2 | c2
      · have hh := hm.hs _ (List.getElem_mem c2)
        have hlen : (frT m ++ hdsT (m.hs.take c)).length = 5 + 5 * c := by rw [List.length_append, hdsT_len]; simp [frT] <;> omega
        refine wpc_sound (M := MW) (PL := PLmsg) (CU := cutAt [100009]) TTok mixed _ _ _ ?_
        conv => whnf
        repeat ((first | (refine ifB_pos (decide_eq_true (by first | omega | rfl | (dsimp only; omega))) ?_) | (refine ⟨⟨?_, ?_, ?_⟩, ?_⟩; (focus omega); (focus (first | omega | (simp; done) | (simp; omega))); (focus (first | (rw [prfs_len]; simp; omega) | (rw [ents_len]; simp; omega) | (rw [hds_len]; simp; omega) | (rw [lets_len]; simp; omega))))); conv => whnf)
        refine ⟨_, takeN_row hdC_length c2 (by simp; omega) rfl, ?_⟩
        conv => whnf
        repeat ((first | refine ⟨(⟨by kernel_rfl, by kernel_rfl, Nat.le_of_ble_eq_true (by kernel_rfl)⟩ : AV.ones _ = true ∧ _ ∧ _), ?_⟩ | refine ⟨rfl, ?_⟩); conv => whnf)
        have hnext : frT m ++ hdsT (m.hs.take (c + 1)) = (frT m ++ hdsT (m.hs.take c)) ++ hdT m.hs[c] := by
          rw [take_snoc c2, hdsT_app, List.append_assoc]; simp [hdsT]
        generalize frT m ++ hdsT (m.hs.take c) = T at hlen hnext ⊢
        generalize m.hs[c] = q at hh hnext ⊢
        refine Does.freeze 2 rfl (Does.tidy [(1, .rop (msgC m)), (5, .sl 1 0 (5 + 5 * c) 3 false), (7, .rop (hdC q)), (39, .ro m.hs.length (rowsC hdC m.hs)), (40, .int .i64 m.hs.length), (41, .int .i64 c)] [(1, frzL 2 (hdC q) (toksC T))] 3 127 rfl rfl rfl (by kernel_rfl) (by kernel_rfl) ?_)
        rw [frzL_toks]
        refine wpc_sound (M := MW) (PL := PLmsg) (CU := noCut) TTok mixed _ _ _ ?_
        conv => whnf
        refine ⟨by kernel_rfl, ?_⟩
        conv => whnf
        repeat ((first | (refine ⟨⟨by first | (simp only [List.drop_zero, List.length_drop, hds_len]; omega) | exact Nat.le_of_ble_eq_true (by kernel_rfl), okB_none _⟩, ?_⟩) | refine ⟨rfl, ?_⟩ | refine ⟨_, rfl, ?_⟩); conv => whnf)
        refine ⟨_, _, list_ok 4, by first | rfl | simp [noRoIf, noRoL, noRoV, noRoL_bys], ?_⟩
        conv => whnf
        repeat ((refine ⟨rfl, ?_⟩); conv => whnf)
        refine ⟨_, _, (cstr_ok q.au).arg1 hh.au.2.symm (cut32 hh.au.2 _), by first | rfl | simp [noRoIf, noRoL, noRoV, noRoL_bys], ?_⟩
        conv => whnf
        repeat ((refine ⟨rfl, ?_⟩); conv => whnf)
        refine ⟨_, _, num_ok q.len, by first | rfl | simp [noRoIf, noRoL, noRoV, noRoL_bys], ?_⟩
        conv => whnf
        repeat ((refine ⟨rfl, ?_⟩); conv => whnf)
        refine ⟨_, _, (cstr_ok q.id).arg1 hh.id.2.symm (cut32 hh.id.2 _), by first | rfl | simp [noRoIf, noRoL, noRoV, noRoL_bys], ?_⟩
        conv => whnf
        repeat ((refine ⟨rfl, ?_⟩); conv => whnf)
        refine ⟨_, _, bit_ok q.shut, by first | rfl | simp [noRoIf, noRoL, noRoV, noRoL_bys], ?_⟩
        conv => whnf
        repeat ((refine ⟨rfl, ?_⟩); conv => whnf)
        refine ⟨_, _, num_ok (if q.shut = true then 1 else 0), by first | rfl | simp [noRoIf, noRoL, noRoV, noRoL_bys], ?_⟩
        conv => whnf
        repeat ((first | (refine fit_i64 ⟨by first | omega | rfl | (dsimp only; omega), by first | omega | rfl | (dsimp only; omega)⟩ ?_) | (refine Or.inl ⟨⟨rfl, ?_⟩, ?_⟩; (focus (first | rfl | (simp; done) | (rw [toksC_length]; omega)))) | refine ⟨rfl, ?_⟩ | refine ⟨⟨rfl, rfl⟩, ?_⟩ | (refine ⟨⟨rfl, rfl, ?_, ?_⟩, ?_⟩; (focus (first | (simp [toksC_length]; done) | (simp [toksC_length]; omega))); (focus (first | (simp [limB, lenB, offB]; done) | (simp [limB, lenB, offB]; omega))))); conv => whnf)
        refine ⟨c + 1, by omega, by omega, weaker_of [(1, 4)] rfl rfl ⟨⟨rfl, msgC_pure m⟩, ⟨rfl, rfl, rfl, rfl, id⟩, ⟨rfl, rfl, hds_pure _⟩, ⟨rfl, rfl⟩, ⟨rfl, rfl⟩, trivial⟩ ⟨?_, trivial⟩⟩
        rw [hnext]
        exact lesP_toks (by rw [toksC_append]; rfl)
      · obtain rfl : c = m.hs.length := by omega
        rw [List.take_length]
        have hlen : (frT m ++ hdsT m.hs).length = 5 + 5 * m.hs.length := by rw [List.length_append, hdsT_len]; simp [frT] <;> omega
        have hb := encode_ok (frT m ++ hdsT m.hs) (fun t ht => (fr_tokB hm t ht).1) (fun t ht => (fr_tokB hm t ht).2)
        refine wpc_sound (M := MW) (PL := PLmsg) (CU := noCut) TTok mixed _ _ _ ?_
        conv => whnf
        repeat ((first | (refine ifB_neg (decide_eq_false (by first | omega | rfl | (dsimp only; omega))) ?_) | (refine Or.inl ⟨⟨rfl, ?_⟩, ?_⟩; (focus (first | rfl | (simp; done) | (rw [toksC_length]; omega)))) | refine ⟨rfl, ?_⟩ | (refine And.intro ?_ ?_; (focus (first | (simp only [pureL, pureV, pureL_bys, Bool.and_true, Bool.and_self]; done) | (simp only [pureL, pureV, pureL_bys, pureL_toks, Bool.and_true, Bool.and_self]; done))))); conv => whnf)
        refine ⟨_, _, hb.arg1 (by omega) rfl, by first | rfl | simp [noRoIf, noRoL, noRoV, noRoL_bys], ?_⟩
        conv => whnf
        repeat ((first | refine ⟨⟨rfl, rfl⟩, ?_⟩ | (refine ⟨⟨rfl, rfl, rfl, ?_, pureL_bys _⟩, ?_⟩; (focus (simp; done)))); conv => whnf)
        rfl
    · exact weaker_of [(1, 1)] rfl rfl ⟨⟨rfl, msgC_pure m⟩, ⟨rfl, rfl, rfl, rfl, fun h => by cases h⟩, ⟨rfl, rfl, hds_pure _⟩, ⟨rfl, rfl⟩, ⟨rfl, rfl⟩, trivial⟩ ⟨lesP_toks rfl, trivial⟩
  · rw [if_neg k1]
    conv => whnf
    repeat ((first | (refine ifB_neg (decide_eq_false (by first | omega | rfl | (dsimp only; omega))) ?_) | refine ⟨_, rfl, ?_⟩); conv => whnf)
    refine ⟨by kernel_rfl, ?_⟩
    conv => whnf
    repeat ((first | refine ⟨rfl, ?_⟩ | refine ⟨_, rfl, ?_⟩); conv => whnf)
    refine ⟨_, _, list_ok 5, by first | rfl | simp [noRoIf, noRoL, noRoV, noRoL_bys], ?_⟩
    conv => whnf
    repeat ((refine ⟨rfl, ?_⟩); conv => whnf)
    refine ⟨_, _, num_ok 4, by first | rfl | simp [noRoIf, noRoL, noRoV, noRoL_bys], ?_⟩
    conv => whnf
    repeat ((refine ⟨rfl, ?_⟩); conv => whnf)
    refine ⟨_, _, num_ok m.frm, by first | rfl | simp [noRoIf, noRoL, noRoV, noRoL_bys], ?_⟩
    conv => whnf
    repeat ((refine ⟨rfl, ?_⟩); conv => whnf)
    refine ⟨_, _, num_ok m.to, by first | rfl | simp [noRoIf, noRoL, noRoV, noRoL_bys], ?_⟩
    conv => whnf
    repeat ((refine ⟨rfl, ?_⟩); conv => whnf)
    refine ⟨_, _, list_ok m.ps.length, by first | rfl | simp [noRoIf, noRoL, noRoV, noRoL_bys], ?_⟩
    conv => whnf
    repeat ((first | refine ⟨_, rfl, ?_⟩ | refine ⟨⟨rfl, rfl⟩, ?_⟩); conv => whnf)
    have hL := hm.pl
    have hE := hm.el
    refine Does.loop (fun c : Nat => mkSt [(1, .rop (msgC m)), (8, .sl 1 0 (5 + c) 3 false), (81, .ro m.ps.length (rowsC prfC m.ps)), (82, .int .i64 m.ps.length), (83, .int .i64 c)] [(1, toksC (anT m ++ prT (m.ps.take c)))] 2 127)
      (fun c => c ≤ m.ps.length) (fun c => m.ps.length - c) ?_ 0 (Nat.zero_le _) ?_
    · intro c hcl
      rcases Nat.lt_or_ge c m.ps.length with c2 | c2
      · have hh := hm.ps _ (List.getElem_mem c2)
        have hlen : (anT m ++ prT (m.ps.take c)).length = 5 + c := by rw [List.length_append]; simp [anT, prT] <;> omega
        have hnext : anT m ++ prT (m.ps.take (c + 1)) = (anT m ++ prT (m.ps.take c)) ++ [⟨3, 0, (prfB m.ps[c]).1⟩] := by
          unfold prT; rw [take_snoc c2, List.map_append, ← List.append_assoc]; rfl
        have hb := pbytes_ok m.ps[c] hh
        refine wpc_sound (M := MW) (PL := PLmsg) (CU := cutAt [100016, 100017]) TTok mixed _ _ _ ?_
        conv => whnf
        repeat ((first | (refine ifB_pos (decide_eq_true (by first | omega | rfl | (dsimp only; omega))) ?_) | (refine ⟨⟨?_, ?_, ?_⟩, ?_⟩; (focus omega); (focus (first | omega | (simp; done) | (simp; omega))); (focus (first | (rw [prfs_len]; simp; omega) | (rw [ents_len]; simp; omega) | (rw [hds_len]; simp; omega) | (rw [lets_len]; simp; omega))))); conv => whnf)
        refine ⟨_, takeN_row prfC_length c2 (by simp; omega) rfl, ?_⟩
        conv => whnf
        repeat ((first | refine ⟨(⟨by kernel_rfl, by kernel_rfl, Nat.le_of_ble_eq_true (by kernel_rfl)⟩ : AV.ones _ = true ∧ _ ∧ _), ?_⟩ | refine ⟨rfl, ?_⟩); conv => whnf)
        generalize anT m ++ prT (m.ps.take c) = T at hlen hnext ⊢
        generalize m.ps[c] = q at hh hb hnext ⊢
        refine Does.tidy [(1, .rop (msgC m)), (8, .sl 1 0 (5 + c) 3 false), (10, .ptr 2 0), (81, .ro m.ps.length (rowsC prfC m.ps)), (82, .int .i64 m.ps.length), (83, .int .i64 c)] [(1, toksC T), (2, prfC q)] 3 127 rfl rfl rfl (by kernel_rfl) (by kernel_rfl) ?_
        refine wpc_sound (M := MW) (PL := PLmsg) (CU := noCut) TTok mixed _ _ _ ?_
        conv => whnf
        refine ⟨prfC q, by kernel_rfl, ?_⟩
        conv => whnf
        repeat ((first | refine ⟨rfl, ?_⟩ | refine ⟨(show pureL _ = true from by first | exact prfC_pure _ | exact hdC_pure _ | exact msgC_pure _ | exact letC_pure _), ?_⟩); conv => whnf)
        generalize prfB q = o at hb hnext ⊢
        obtain ⟨o, e⟩ := o
        refine ⟨_, _, hb, by first | rfl | simp [noRoIf, noRoL, noRoV, noRoL_bys], ?_⟩
        conv => whnf
        refine Does.freeze 3 rfl (Does.tidy [(1, .rop (msgC m)), (8, .sl 1 0 (5 + c) 3 false), (11, roW o), (81, .ro m.ps.length (rowsC prfC m.ps)), (82, .int .i64 m.ps.length), (83, .int .i64 c)] [(1, frzL 3 (bys o) (toksC T)), (2, frzL 3 (bys o) (prfC q))] 4 127 rfl rfl rfl (by kernel_rfl) (by kernel_rfl) ?_)
        rw [roW_eq, frzL_toks, prfC_frz]
        refine wpc_sound (M := MW) (PL := PLmsg) (CU := noCut) TTok mixed _ _ _ ?_
        conv => whnf
        repeat ((first | refine ⟨pureL_bys _, ?_⟩ | refine ⟨rfl, ?_⟩); conv => whnf)
        refine ⟨_, _, cstr_ok o, by first | rfl | simp [noRoIf, noRoL, noRoV, noRoL_bys], ?_⟩
        conv => whnf
        repeat ((first | (refine fit_i64 ⟨by first | omega | rfl | (dsimp only; omega), by first | omega | rfl | (dsimp only; omega)⟩ ?_) | (refine Or.inl ⟨⟨rfl, ?_⟩, ?_⟩; (focus (first | rfl | (simp; done) | (rw [toksC_length]; omega)))) | refine ⟨rfl, ?_⟩ | refine ⟨⟨rfl, rfl⟩, ?_⟩ | (refine ⟨⟨rfl, rfl, ?_, ?_⟩, ?_⟩; (focus (first | (simp [toksC_length]; done) | (simp [toksC_length]; omega))); (focus (first | (simp [limB, lenB, offB]; done) | (simp [limB, lenB, offB]; omega))))); conv => whnf)
        refine ⟨c + 1, by omega, by omega, weaker_of [(1, 5)] rfl rfl ⟨⟨rfl, msgC_pure m⟩, ⟨rfl, rfl, by first | rfl | omega, rfl, id⟩, ⟨rfl, rfl, prfs_pure _⟩, ⟨rfl, rfl⟩, ⟨rfl, rfl⟩, trivial⟩ ⟨?_, trivial⟩⟩
        rw [hnext]
        exact lesP_toks (by rw [toksC_append]; rfl)
      · obtain rfl : c = m.ps.length := by omega
        rw [List.take_length]
        have hlen : (anT m ++ prT m.ps).length = 5 + m.ps.length := by rw [List.length_append]; simp [anT, prT] <;> omega
        refine wpc_sound (M := MW) (PL := PLmsg) (CU := noCut) TTok mixed _ _ _ ?_
        conv => whnf
        repeat ((first | (refine ifB_neg (decide_eq_false (by first | omega | rfl | (dsimp only; omega))) ?_) | refine ⟨rfl, ?_⟩ | refine ⟨_, rfl, ?_⟩); conv => whnf)
        have hTB := an_tokB hm
        generalize anT m ++ prT m.ps = T0 at hlen hTB ⊢
        refine ⟨_, _, list_ok m.es.length, by first | rfl | simp [noRoIf, noRoL, noRoV, noRoL_bys], ?_⟩
        conv => whnf
        repeat ((first | (refine Or.inl ⟨⟨rfl, ?_⟩, ?_⟩; (focus (first | rfl | (simp; done) | (rw [toksC_length]; omega)))) | refine ⟨rfl, ?_⟩ | refine ⟨_, rfl, ?_⟩ | refine ⟨⟨rfl, rfl⟩, ?_⟩ | (refine ⟨⟨rfl, rfl, ?_, ?_⟩, ?_⟩; (focus (first | (simp [toksC_length]; done) | (simp [toksC_length]; omega))); (focus (first | (simp [limB, lenB, offB]; done) | (simp [limB, lenB, offB]; omega))))); conv => whnf)
        refine Does.loop (fun c : Nat => mkSt [(1, .rop (msgC m)), (8, .sl 1 0 (6 + m.ps.length + c) 3 false), (106, .ro m.es.length (rowsC entC m.es)), (107, .int .i64 m.es.length), (108, .int .i64 c)] [(1, toksC (T0 ++ ([⟨5, m.es.length, []⟩] : List Tok) ++ enT (m.es.take c)))] 2 127)
          (fun c => c ≤ m.es.length) (fun c => m.es.length - c) ?_ 0 (Nat.zero_le _) ?_
        · intro c hcl
          rcases Nat.lt_or_ge c m.es.length with c2 | c2
          · have hh := hm.es _ (List.getElem_mem c2)
            have hlen : (T0 ++ ([⟨5, m.es.length, []⟩] : List Tok) ++ enT (m.es.take c)).length = 6 + m.ps.length + c := by rw [List.length_append, List.length_append, hlen]; simp [enT] <;> omega
            have hnext : T0 ++ ([⟨5, m.es.length, []⟩] : List Tok) ++ enT (m.es.take (c + 1)) = (T0 ++ ([⟨5, m.es.length, []⟩] : List Tok) ++ enT (m.es.take c)) ++ [⟨3, 0, (entB m.es[c]).1⟩] := by
              unfold enT; rw [take_snoc c2, List.map_append, ← List.append_assoc]; rfl
            have hb := ebytes_ok m.es[c] hh
            refine wpc_sound (M := MW) (PL := PLmsg) (CU := cutAt [100023, 100024]) TTok mixed _ _ _ ?_
            conv => whnf
            repeat ((first | (refine ifB_pos (decide_eq_true (by first | omega | rfl | (dsimp only; omega))) ?_) | (refine ⟨⟨?_, ?_, ?_⟩, ?_⟩; (focus omega); (focus (first | omega | (simp; done) | (simp; omega))); (focus (first | (rw [prfs_len]; simp; omega) | (rw [ents_len]; simp; omega) | (rw [hds_len]; simp; omega) | (rw [lets_len]; simp; omega))))); conv => whnf)
            refine ⟨_, takeN_row entC_length c2 (by simp; omega) rfl, ?_⟩
            conv => whnf
            repeat ((first | refine ⟨(⟨by kernel_rfl, by kernel_rfl, Nat.le_of_ble_eq_true (by kernel_rfl)⟩ : AV.ones _ = true ∧ _ ∧ _), ?_⟩ | refine ⟨rfl, ?_⟩); conv => whnf)
            generalize T0 ++ ([⟨5, m.es.length, []⟩] : List Tok) ++ enT (m.es.take c) = T at hlen hnext ⊢
            generalize m.es[c] = q at hh hb hnext ⊢
            refine Does.tidy [(1, .rop (msgC m)), (8, .sl 1 0 (6 + m.ps.length + c) 3 false), (14, .ptr 2 0), (106, .ro m.es.length (rowsC entC m.es)), (107, .int .i64 m.es.length), (108, .int .i64 c)] [(1, toksC T), (2, entC q)] 3 127 rfl rfl rfl (by kernel_rfl) (by kernel_rfl) ?_
            refine wpc_sound (M := MW) (PL := PLmsg) (CU := noCut) TTok mixed _ _ _ ?_
            conv => whnf
            refine ⟨entC q, by kernel_rfl, ?_⟩
            conv => whnf
            repeat ((first | refine ⟨entC_pure _, ?_⟩ | refine ⟨rfl, ?_⟩); conv => whnf)
            generalize entB q = o at hb hnext ⊢
            obtain ⟨o, e⟩ := o
            refine ⟨_, _, hb, by first | rfl | simp [noRoIf, noRoL, noRoV, noRoL_bys], ?_⟩
            conv => whnf
            refine Does.freeze 3 rfl (Does.tidy [(1, .rop (msgC m)), (8, .sl 1 0 (6 + m.ps.length + c) 3 false), (15, roW o), (106, .ro m.es.length (rowsC entC m.es)), (107, .int .i64 m.es.length), (108, .int .i64 c)] [(1, frzL 3 (bys o) (toksC T)), (2, frzL 3 (bys o) (entC q))] 4 127 rfl rfl rfl (by kernel_rfl) (by kernel_rfl) ?_)
            rw [roW_eq, frzL_toks, entC_frz]
            refine wpc_sound (M := MW) (PL := PLmsg) (CU := noCut) TTok mixed _ _ _ ?_
            conv => whnf
            repeat ((first | refine ⟨pureL_bys _, ?_⟩ | refine ⟨rfl, ?_⟩); conv => whnf)
            refine ⟨_, _, cstr_ok o, by first | rfl | simp [noRoIf, noRoL, noRoV, noRoL_bys], ?_⟩
            conv => whnf
            repeat ((first | (refine fit_i64 ⟨by first | omega | rfl | (dsimp only; omega), by first | omega | rfl | (dsimp only; omega)⟩ ?_) | (refine Or.inl ⟨⟨rfl, ?_⟩, ?_⟩; (focus (first | rfl | (simp; done) | (rw [toksC_length]; omega)))) | refine ⟨rfl, ?_⟩ | refine ⟨⟨rfl, rfl⟩, ?_⟩ | (refine ⟨⟨rfl, rfl, ?_, ?_⟩, ?_⟩; (focus (first | (simp [toksC_length]; done) | (simp [toksC_length]; omega))); (focus (first | (simp [limB, lenB, offB]; done) | (simp [limB, lenB, offB]; omega))))); conv => whnf)
            refine ⟨c + 1, by omega, by omega, weaker_of [(1, 5)] rfl rfl ⟨⟨rfl, msgC_pure m⟩, ⟨rfl, rfl, by first | rfl | omega, rfl, id⟩, ⟨rfl, rfl, ents_pure _⟩, ⟨rfl, rfl⟩, ⟨rfl, rfl⟩, trivial⟩ ⟨?_, trivial⟩⟩
            rw [hnext]
            exact lesP_toks (by rw [toksC_append]; rfl)
          · obtain rfl : c = m.es.length := by omega
            rw [List.take_length]
            have hlen : (T0 ++ ([⟨5, m.es.length, []⟩] : List Tok) ++ enT m.es).length = 6 + m.ps.length + m.es.length := by rw [List.length_append, List.length_append, hlen]; simp [enT] <;> omega
            have hb := encode_ok (T0 ++ ([⟨5, m.es.length, []⟩] : List Tok) ++ enT m.es) (fun t ht => (hTB t ht).1) (fun t ht => (hTB t ht).2)
            refine wpc_sound (M := MW) (PL := PLmsg) (CU := noCut) TTok mixed _ _ _ ?_
            conv => whnf
            repeat ((first | (refine ifB_neg (decide_eq_false (by first | omega | rfl | (dsimp only; omega))) ?_) | (refine Or.inl ⟨⟨rfl, ?_⟩, ?_⟩; (focus (first | rfl | (simp; done) | (rw [toksC_length]; omega)))) | refine ⟨rfl, ?_⟩ | (refine And.intro ?_ ?_; (focus (first | (simp only [pureL, pureV, pureL_bys, Bool.and_true, Bool.and_self]; done) | (simp only [pureL, pureV, pureL_bys, pureL_toks, Bool.and_true, Bool.and_self]; done))))); conv => whnf)
            refine ⟨_, _, hb.arg1 (by omega) rfl, by first | rfl | simp [noRoIf, noRoL, noRoV, noRoL_bys], ?_⟩
            conv => whnf
            repeat ((first | refine ⟨⟨rfl, rfl⟩, ?_⟩ | (refine ⟨⟨rfl, rfl, rfl, ?_, pureL_bys _⟩, ?_⟩; (focus (simp; done)))); conv => whnf)
            rfl
        · exact weaker_of [(1, 3)] rfl rfl ⟨⟨rfl, msgC_pure m⟩, ⟨rfl, rfl, by simp <;> omega, rfl, fun h => by cases h⟩, ⟨rfl, rfl, ents_pure _⟩, ⟨rfl, rfl⟩, ⟨rfl, rfl⟩, trivial⟩ ⟨lesP_toks (by rw [show enT (List.take 0 m.es) = [] from rfl, List.append_nil, toksC_append]; rfl), trivial⟩
    · exact weaker_of [(1, 1)] rfl rfl ⟨⟨rfl, msgC_pure m⟩, ⟨rfl, rfl, rfl, rfl, fun h => by cases h⟩, ⟨rfl, rfl, prfs_pure _⟩, ⟨rfl, rfl⟩, ⟨rfl, rfl⟩, trivial⟩ ⟨lesP_toks (by simp [prT]; rfl), trivial⟩
end Go.Proofs.YtelnlfhdaelfdaaDoor.Abs
end
