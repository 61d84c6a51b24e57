/- Texts GG to EB, merged. -/
import Derived.ChangeArms
import Derived.OpenShut
import Derived.WideShapes
import Derived.Test.YtbkclacjamlebaaGreatDoorV7
set_option linter.unusedVariables false
set_option linter.unusedSimpArgs false
namespace Go.Proofs.YtbkclacjamlebaaGreatDoor.Abs
open Go
section

def TyF (R : TypeId → List AV → Prop) : List (Nat × TypeId) → List (List AV) → Prop
 | [], ys => ys = []
 | f :: fs, ys => ∃ y r, ys = y :: r ∧ R f.2 y ∧ TyF R fs r
def TyL (T : Types) : Nat → TypeId → List AV → Prop
 | 0, _, _ => False
 | n + 1, t, xs => match T t with
  | none => False
  | some i => match i.d with
   | .int k => ∃ z, xs = [.int k z] ∧ IntKind.lo k ≤ z ∧ z ≤ IntKind.hi k
   | .bool => ∃ b, xs = [.bool b]
   | .str => ∃ s, xs = [.str s] ∧ Byt s ∧ s.length ≤ 9223372036854775807
   | .slice e => ∃ es : List (List AV), xs = [.ro es.length es.flatten] ∧ es.length ≤ 9223372036854775807 ∧ ∀ y ∈ es, TyL T n e y
   | .struct fs => ∃ ys : List (List AV), xs = ys.flatten ∧ TyF (TyL T n) fs ys
   | .arr m e => ∃ ys : List (List AV), xs = ys.flatten ∧ ys.length = m ∧ ∀ y ∈ ys, TyL T n e y
   | _ => False
def szT (T : Types) (t : TypeId) : Nat := match T t with
 | some i => i.size
 | none => 0
def tileF (T : Types) : Nat → List (Nat × TypeId) → Option Nat
 | k, [] => some k
 | k, f :: fs => match Nat.beq k f.1 with
  | true => tileF T (k + szT T f.2) fs
  | false => none
def tyOk (T : Types) : Nat → TypeId → Bool
 | 0, _ => false
 | n + 1, t => match T t with
  | none => false
  | some i => match i.d with
   | .int _ | .bool | .str => Nat.beq i.size 1
   | .slice e => Nat.beq i.size 1 && tyOk T n e
   | .struct fs => (match tileF T 0 fs with | some k => Nat.beq k i.size | none => false) && fs.all fun f => tyOk T n f.2
   | .arr m e => Nat.beq i.size (m * szT T e) && tyOk T n e
   | _ => false
section
variable {H : Type} {enc : TypeId × Value → H} {P : Program} {T : Types} {W : World} {base : Nat} {spare : Nat → Bool} {held : Bool}
theorem cellsOf_T (hT : TOK P T) {t : TypeId} {i : TI} (h : T t = some i) : P.cellsOf t = i.size := by
 obtain ⟨f, h1, h2, _⟩ := (hT t i h).info
 simp [Program.cellsOf, h1, h2]
theorem wf_lohi {k : IntKind} {n : Int} (h : (Lit.int k n).wf = true) : IntKind.lo k ≤ n ∧ n ≤ IntKind.hi k := by
 cases k <;> simp [Lit.wf, IntKind.min, IntKind.max, IntKind.signed, IntKind.bits, Abs.IntKind.lo, Abs.IntKind.hi] at h ⊢ <;> omega
theorem trod_int {fuel : Nat} {t : TypeId} {k : IntKind} {cs : List Value} {x : DataW H × List MemPlace} (ht : P.underlying t = some (.int k)) (h : DataW.trod enc P W base spare held fuel t cs = some x) :
  ∃ n, cs = [.int k n] ∧ (Lit.int k n).wf = true := by
 cases fuel with
 | zero => simp [DataW.trod] at h
 | succ n =>
  unfold DataW.trod at h
  rw [ht] at h
  split at h <;> simp_all
theorem trod_bool {fuel : Nat} {t : TypeId} {cs : List Value} {x : DataW H × List MemPlace} (ht : P.underlying t = some .bool) (h : DataW.trod enc P W base spare held fuel t cs = some x) :
  ∃ b, cs = [.bool b] := by
 cases fuel with
 | zero => simp [DataW.trod] at h
 | succ n =>
  unfold DataW.trod at h
  rw [ht] at h
  split at h <;> simp_all
theorem cells_get {a : Addr} {n : Nat} {cs : List Value} (h : W.cells? base a n = some cs) : cs.length = n ∧ ∀ j, j < n → W.cell? (a.add j) = cs[j]? := by
 unfold World.cells? at h
 split at h
 ·have h1 := mapM_some_length h
  refine ⟨by simpa using h1, fun j hj => ?_⟩
  exact mapM_some_get h j j (by simp [hj])
 ·cases h
theorem add_add (a : Addr) (i j : Nat) : (a.add i).add j = a.add (i + j) := by
 unfold Addr.add
 by_cases hi : i = 0
 ·subst hi; simp
 ·by_cases hj : j = 0
  ·subst hj; simp [hi]
  ·have : ¬ i + j = 0 := by omega
   rw [if_neg hi, if_neg hj, if_neg this]
   simp [Nat.add_assoc]
theorem spot_none {a : Addr} {v : Value} (h : W.cell? a = some v) : a.spot = none := by
 unfold World.cell? at h
 split at h
 ·cases hs : a.spot with
  | none => rfl
  | some q => simp [hs] at h
 ·cases h
theorem chunks_repL {E : Env} (sz : Nat) : ∀ (m : Nat) (xss : List (List AV)) (cs : List Value), xss.length = m → cs.length = m * sz →
  (∀ i x, xss[i]? = some x → RepL E x ((cs.drop (i * sz)).take sz)) → RepL E xss.flatten cs
 | 0, xss, cs, h1, h2, h3 => by
  obtain rfl := List.length_eq_zero_iff.1 h1
  have : cs = [] := List.length_eq_zero_iff.1 (by omega)
  subst this
  simp [RepL]
 | m + 1, xss, cs, h1, h2, h3 => by
  cases xss with
  | nil => simp at h1
  | cons x xss =>
   have h0 := h3 0 x rfl
   simp only [Nat.zero_mul, List.drop_zero] at h0
   have ih := chunks_repL (E := E) sz m xss (cs.drop sz) (by simpa using h1) (by simp [h2, Nat.add_mul]) (fun i y hy => by
    have := h3 (i + 1) y (by simpa using hy)
    rw [List.drop_drop]
    rwa [show sz + i * sz = (i + 1) * sz by rw [Nat.add_mul]; omega])
   have := repL_append h0 ih
   rw [List.take_append_drop] at this
   simpa using this
theorem repM_of_repL {E : Env} {b off : Nat} : ∀ (xs : List AV) (cs : List Value), RepL E xs cs → (∀ j u, cs[j]? = some u → E.w.cell? ⟨b, off + j, none⟩ = some u) → RepM E xs b off
 | [], cs, _, _ => by simp [RepM]
 | x :: xs, cs, h, hc => by
  simp only [RepL] at h
  obtain ⟨u, us, rfl, h1, h2⟩ := h
  simp only [RepM]
  refine ⟨⟨u, by simpa using hc 0 u rfl, h1⟩, ?_⟩
  have aux : ∀ (off' : Nat), off' = off + 1 → RepM E xs b off' := by
   intro off' e
   subst e
   exact repM_of_repL xs us h2 fun j v hv => by
    have := hc (j + 1) v (by simpa using hv)
    rwa [show off + 1 + j = off + (j + 1) by omega]
  exact aux _ rfl
theorem choose_list {α : Type} {Q : Nat → α → Prop} : ∀ (n : Nat), (∀ i, i < n → ∃ x, Q i x) → ∃ l : List α, l.length = n ∧ ∀ i x, l[i]? = some x → Q i x
 | 0, _ => ⟨[], rfl, fun i x h => by simp at h⟩
 | n + 1, h => by
  obtain ⟨l, h1, h2⟩ := choose_list n (fun i hi => h i (by omega))
  obtain ⟨x, hx⟩ := h n (by omega)
  refine ⟨l ++ [x], by simp [h1], fun i y hy => ?_⟩
  rcases Nat.lt_or_ge i l.length with hi | hi
  ·rw [List.getElem?_append_left hi] at hy; exact h2 i y hy
  ·rw [List.getElem?_append_right hi] at hy
   have hin : i = n := by
    have := (List.getElem?_eq_some_iff.1 hy).1
    simp at this
    omega
   subst hin
   rw [h1] at hy
   simp at hy
   subst hy
   exact hx
theorem fields_open (n : Nat) (ih : ∀ (f : Nat) (t : TypeId) (cs : List Value) (x : DataW H × List MemPlace), tyOk T n t = true → DataW.trod enc P W base spare held f t cs = some x → ∃ xs, RepL (env0 W) xs cs ∧ TyL T n t xs)
  (hT : TOK P T) {fuel : Nat} {cs : List Value} : ∀ (fs : List Field) (k e : Nat), tileF T k (fs.map fun f => (f.offset, f.type)) = some e → (∀ f ∈ fs, tyOk T n f.type = true) →
   (∀ f ∈ fs, ∃ y, DataW.trod enc P W base spare held fuel f.type ((cs.drop f.offset).take (P.cellsOf f.type)) = some y) → cs.length = e →
   k ≤ e ∧ ∃ ys : List (List AV), RepL (env0 W) ys.flatten (cs.drop k) ∧ TyF (TyL T n) (fs.map fun f => (f.offset, f.type)) ys
 | [], k, e, ht, _, _, hl => by
  simp only [List.map_nil, tileF, Option.some.injEq] at ht
  subst ht
  refine ⟨Nat.le_refl _, [], ?_, rfl⟩
  rw [List.drop_of_length_le (by omega)]
  simp [RepL]
 | f :: fs, k, e, ht, ho, hd, hl => by
  simp only [List.map_cons, tileF] at ht
  split at ht
  case h_2 => cases ht
  rename_i hb
  obtain rfl := Nat.eq_of_beq_eq_true hb
  have hk := ho f (by simp)
  obtain ⟨y, hy⟩ := hd f (by simp)
  obtain ⟨xs, hr, hx⟩ := ih _ _ _ _ hk hy
  obtain ⟨h1, ys, h2, h3⟩ := fields_open n ih hT fs _ e ht (fun g hg => ho g (by simp [hg])) (fun g hg => hd g (by simp [hg])) hl
  have hsz : P.cellsOf f.type = szT T f.type := by
   unfold szT
   cases hTt : T f.type with
   | none => cases n <;> simp [tyOk, hTt] at hk
   | some i => exact cellsOf_T hT hTt
  rw [hsz] at hr
  refine ⟨by omega, xs :: ys, ?_, ⟨xs, ys, rfl, hx, h3⟩⟩
  have := repL_append hr h2
  rw [← List.drop_drop, List.take_append_drop] at this
  simpa using this
theorem open_any (hT : TOK P T) : ∀ (n f : Nat) (t : TypeId) (cs : List Value) (x : DataW H × List MemPlace), tyOk T n t = true → DataW.trod enc P W base spare held f t cs = some x →
  ∃ xs, RepL (env0 W) xs cs ∧ TyL T n t xs
 | 0, f, t, cs, x, ho, _ => by simp [tyOk] at ho
 | n + 1, f, t, cs, x, ho, h => by
  simp only [tyOk] at ho
  split at ho
  ·cases ho
  rename_i i hi
  obtain ⟨d, hu, hd, _⟩ := (hT t i hi).und
  have hc := cellsOf_T hT hi
  simp only [TyL, hi]
  cases hid : i.d with
  | int k =>
   rw [hid] at hd
   have hd' : d = .int k := hd
   subst hd'
   obtain ⟨z, rfl, hz⟩ := trod_int hu h
   exact ⟨[.int k z], by simp [RepL, RepV], z, rfl, wf_lohi hz⟩
  | bool =>
   rw [hid] at hd
   have hd' : d = .bool := hd
   subst hd'
   obtain ⟨b, rfl⟩ := trod_bool hu h
   exact ⟨[.bool b], by simp [RepL, RepV], b, rfl⟩
  | str =>
   rw [hid] at hd
   have hd' : d = .string := hd
   subst hd'
   obtain ⟨s, rfl, _, hs⟩ := DataW.trod_string hu h
   refine ⟨[.str (bytesOf s)], by simp [RepL, RepV], bytesOf s, rfl, ?_, ?_⟩
   ·intro y hy
    simp only [bytesOf, List.mem_map] at hy
    obtain ⟨u, _, rfl⟩ := hy
    have := u.toNat_lt
    omega
   ·have : s.size = s.data.size := rfl
    simp only [bytesOf, List.length_map, Array.length_toList]
    simp only [maxLen] at hs
    omega
  | slice e =>
   rw [hid] at hd ho
   have hd' : d = .slice e := hd
   subst hd'
   simp only [Bool.and_eq_true] at ho
   rcases DataW.trod_slice hu h with ⟨rfl, _⟩ | ⟨a, len, cap, elems, rest, m, _, rfl, _, hb, hl, hm, hlen, hel, _, _⟩
   ·exact ⟨[.ro 0 []], by simp only [RepL]; exact ⟨_, _, rfl, by simp only [RepV]; exact ⟨none, 0, rfl, Nat.le_refl _, .inl trivial⟩, rfl⟩, [], rfl, by simp, by simp⟩
   have each : ∀ j, j < len → ∃ q : List AV × List Value, (W.cells? base (a.add (j * P.cellsOf e)) (P.cellsOf e) = some q.2 ∧ RepL (env0 W) q.1 q.2) ∧ TyL T n e q.1 := by
    intro j hj
    have := hel j hj
    rw [List.getElem?_eq_getElem (by omega), Option.bind_eq_some_iff] at this
    obtain ⟨vs, hv, ht⟩ := this
    obtain ⟨xs, h1, h2⟩ := open_any hT n m e vs _ ho.2 ht
    exact ⟨(xs, vs), ⟨hv, h1⟩, h2⟩
   obtain ⟨qs, hq1, hq2⟩ := choose_list len each
   refine ⟨[.ro (qs.map (·.1)).length (qs.map (·.1)).flatten], ?_, qs.map (·.1), rfl, by simp only [List.length_map, hq1]; simp only [maxLen] at hm; omega, ?_⟩
   ·simp only [RepL]
    refine ⟨_, _, rfl, ?_, rfl⟩
    simp only [RepV]
    refine ⟨some a, cap, by simp [hq1], by simp [hq1, hl], ?_⟩
    by_cases hz : (qs.map (·.1)).flatten = []
    ·exact .inl hz
    right
    have hsp : a.spot = none := by
     apply Classical.byContradiction
     intro hne
     apply hz
     have hall : ∀ q ∈ qs, q.1 = [] := by
      intro q hqm
      obtain ⟨j, hj, rfl⟩ := List.mem_iff_getElem.1 hqm
      obtain ⟨⟨k1, k2⟩, _⟩ := hq2 j _ (List.getElem?_eq_getElem hj)
      obtain ⟨g1, g2⟩ := cells_get k1
      cases hxs : qs[j].1 with
      | nil => rfl
      | cons y ys =>
       rw [hxs] at k2
       have hlen2 := repL_length _ _ k2
       simp only [List.length_cons] at hlen2
       have hpos : 0 < P.cellsOf e := by omega
       have h0 : 0 < qs.length := by omega
       obtain ⟨⟨k1', k2'⟩, _⟩ := hq2 0 _ (List.getElem?_eq_getElem h0)
       obtain ⟨g1', g2'⟩ := cells_get k1'
       have := g2' 0 hpos
       rw [List.getElem?_eq_getElem (by omega)] at this
       have hs := spot_none this
       simp [Addr.add] at hs
       exact absurd hs hne
     have : ∀ l ∈ qs.map (·.1), l = [] := by
      intro l hl
      obtain ⟨q, hq, rfl⟩ := List.mem_map.1 hl
      exact hall q hq
     exact List.flatten_eq_nil_iff.2 this
    obtain ⟨blk, off, spot⟩ := a
    simp only at hsp
    subst hsp
    refine ⟨blk, off, rfl, fun hf => hf, ?_⟩
    have hL : RepL (env0 W) (qs.map (·.1)).flatten (qs.map (·.2)).flatten := by
     clear hz hq1
     have key : ∀ (qs : List (List AV × List Value)), (∀ q ∈ qs, RepL (env0 W) q.1 q.2) → RepL (env0 W) (qs.map (·.1)).flatten (qs.map (·.2)).flatten := by
      intro qs
      induction qs with
      | nil => intro _; simp [RepL]
      | cons q qs ih => intro hq; simp only [List.map_cons, List.flatten_cons]; exact repL_append (hq q (by simp)) (ih fun r hr => hq r (by simp [hr]))
     refine key qs fun q hqm => ?_
     obtain ⟨j, hj, rfl⟩ := List.mem_iff_getElem.1 hqm
     exact (hq2 j _ (List.getElem?_eq_getElem hj)).1.2
    refine repM_of_repL _ _ hL ?_
    have key2 : ∀ (qs : List (List AV × List Value)) (s : Nat), (∀ j q, qs[j]? = some q → q.2.length = P.cellsOf e ∧ ∀ i u, q.2[i]? = some u → (env0 W).w.cell? ⟨blk, off + ((s + j) * P.cellsOf e + i), none⟩ = some u) →
      ∀ j u, (qs.map (·.2)).flatten[j]? = some u → (env0 W).w.cell? ⟨blk, off + (s * P.cellsOf e + j), none⟩ = some u := by
     intro qs
     induction qs with
     | nil => intro s _ j u hu; simp at hu
     | cons q qs ih =>
      intro s hq j u hu
      simp only [List.map_cons, List.flatten_cons] at hu
      have h0 := hq 0 q rfl
      rcases Nat.lt_or_ge j q.2.length with hj | hj
      ·rw [List.getElem?_append_left hj] at hu
       have := h0.2 j u hu
       rwa [Nat.add_zero] at this
      ·rw [List.getElem?_append_right hj] at hu
       have := ih (s + 1) (fun j' q' hq' => by
        have := hq (j' + 1) q' (by simpa using hq')
        rwa [show s + (j' + 1) = s + 1 + j' by omega] at this) _ u hu
       rw [h0.1] at this hj
       rwa [show (s + 1) * P.cellsOf e + (j - P.cellsOf e) = s * P.cellsOf e + j by rw [Nat.add_mul]; omega] at this
    intro j u hu
    have := key2 qs 0 (fun j q hq => by
     obtain ⟨⟨k1, k2⟩, _⟩ := hq2 j q hq
     obtain ⟨g1, g2⟩ := cells_get k1
     refine ⟨g1, fun i u hu => ?_⟩
     have hi : i < P.cellsOf e := by rw [← g1]; exact (List.getElem?_eq_some_iff.1 hu).1
     have := g2 i hi
     rw [hu, add_add, addr_add] at this
     rw [Nat.zero_add]
     exact this) j u hu
    rwa [Nat.zero_mul, Nat.zero_add] at this
   ·intro y hy
    obtain ⟨q, hqm, rfl⟩ := List.mem_map.1 hy
    obtain ⟨j, hj, rfl⟩ := List.mem_iff_getElem.1 hqm
    exact (hq2 j _ (List.getElem?_eq_getElem hj)).2
  | struct fs =>
   rw [hid] at hd ho
   have hd' : ∃ a, d = .struct a ∧ a.toList.map (fun f => (f.offset, f.type)) = fs := hd
   obtain ⟨a, rfl, rfl⟩ := hd'
   simp only [Bool.and_eq_true] at ho
   obtain ⟨ys, m, _, _, hcl, hyl, hf⟩ := DataW.trod_struct hu h
   obtain ⟨ho1, ho2⟩ := ho
   split at ho1
   case h_2 => cases ho1
   rename_i e he
   have hes := Nat.eq_of_beq_eq_true ho1
   obtain ⟨_, zs, h1, h2⟩ := fields_open n (fun f t cs x a b => open_any hT n f t cs x a b) hT (fuel := m) (cs := cs) a.toList 0 e he (fun g hg => by
     simp only [List.all_map, List.all_eq_true] at ho2
     exact ho2 g hg) (fun g hg => by
     obtain ⟨j, hj, rfl⟩ := List.mem_iff_getElem.1 hg
     have hj' : j < a.size := by simpa using hj
     have := hf j a[j] (by simp [hj'])
     rw [List.getElem?_eq_getElem (by omega)] at this
     exact ⟨_, by simpa using this⟩) (by omega)
   rw [List.drop_zero] at h1
   exact ⟨zs.flatten, h1, zs, rfl, h2⟩
  | arr m e =>
   rw [hid] at hd ho
   have hd' : d = .array m e := hd
   subst hd'
   simp only [Bool.and_eq_true] at ho
   obtain ⟨ys, q, _, _, hcl, hyl, hf⟩ := DataW.trod_array hu h
   have hes := Nat.eq_of_beq_eq_true ho.1
   have hsz : P.cellsOf e = szT T e := by
    unfold szT
    cases hTt : T e with
    | none => cases n <;> simp [tyOk, hTt] at ho
    | some i => exact cellsOf_T hT hTt
   have each : ∀ j, j < m → ∃ x : List AV, RepL (env0 W) x ((cs.drop (j * szT T e)).take (szT T e)) ∧ TyL T n e x := by
    intro j hj
    have := hf j hj
    rw [List.getElem?_eq_getElem (by omega)] at this
    obtain ⟨xs, h1, h2⟩ := open_any hT n q e _ _ ho.2 this
    rw [hsz] at h1
    exact ⟨xs, h1, h2⟩
   obtain ⟨qs, hq1, hq2⟩ := choose_list m each
   refine ⟨qs.flatten, chunks_repL (szT T e) m qs cs hq1 (by omega) (fun j x hx => (hq2 j x hx).1), qs, rfl, hq1, fun y hy => ?_⟩
   obtain ⟨j, hj, rfl⟩ := List.mem_iff_getElem.1 hy
   exact (hq2 j _ (List.getElem?_eq_getElem hj)).2
  | ptr e => rw [hid] at ho; cases ho
  | other => rw [hid] at ho; cases ho
end
end
section

attribute [local irreducible] ifB fitP Does Weaker
theorem frzL_app {i : Nat} {zs : List AV} : ∀ a b : List AV, frzL i zs (a ++ b) = frzL i zs a ++ frzL i zs b
 | [], b => rfl
 | x :: a, b => by simp [frzL, frzL_app a b]
theorem frzL_bys {i : Nat} {zs : List AV} : ∀ l : List Int, frzL i zs (bys l) = bys l
 | [] => rfl
 | x :: l => congrArg (AV.int .u8 x :: ·) (frzL_bys l)
theorem encR_len {u : List Int → Bool} {l : List Tok} {a : List Int} (h : encR u l = (a, 0)) : a.length ≤ 32768 := (encR_yes h).2.2
theorem pureL_app : ∀ a b : List AV, pureL (a ++ b) = (pureL a && pureL b)
 | [], b => by simp [pureL]
 | x :: a, b => by simp [pureL, pureL_app a b, Bool.and_assoc]
theorem ones_toks : ∀ l : List Tok, (toksC l).all AV.one = true
 | [] => rfl
 | t :: l => by simp [toksC, ones_toks l, AV.one]
theorem bytes_of_ty {T : Types} {n : Nat} {e : TypeId} (hk : ∃ i, T e = some i ∧ i.d = .int .u8) : ∀ (es : List (List AV)), (∀ y ∈ es, TyL T n e y) → ∃ l : List Int, es.flatten = bys l ∧ l.length = es.length ∧ Byt l
 | [], _ => ⟨[], rfl, rfl, by simp [Byt]⟩
 | y :: es, h => by
  obtain ⟨l, h1, h2, h3⟩ := bytes_of_ty hk es (fun z hz => h z (by simp [hz]))
  have hy := h y (by simp)
  obtain ⟨i, hi, hd⟩ := hk
  cases n with
  | zero => exact hy.elim
  | succ n =>
   simp only [TyL, hi, hd] at hy
   obtain ⟨z, rfl, z1, z2⟩ := hy
   refine ⟨z :: l, by simp [h1, bys], by simp [h2], fun x hx => ?_⟩
   simp only [IntKind.lo, IntKind.hi] at z1 z2
   rcases List.mem_cons.1 hx with rfl | hx
   ·exact ⟨z1, by omega⟩
   ·exact h3 x hx
theorem bytes_of_slice {n : Nat} {xs : List AV} (h : TyL TT (n + 2) 23 xs) : ∃ l : List Int, xs = [.ro l.length (bys l)] ∧ (Byt l ∧ l.length ≤ 9223372036854775807) := by
 obtain ⟨es, rfl, hl, he⟩ := h
 obtain ⟨l, h1, h2, h3⟩ := bytes_of_ty ⟨_, show TT 5 = some _ from rfl, rfl⟩ es he
 exact ⟨l, by simp [h1, h2], h3, by omega⟩
theorem rep_one {E : Env} {x : AV} {v : Value} (h : RepL E [x] v.cells.toList) (hv : v.cells = #[v]) : RepV E x v := by
 rw [hv] at h
 simp only [RepL] at h
 obtain ⟨u, us, e, h1, _⟩ := h
 simp only [List.cons.injEq] at e
 rw [e.1]
 exact h1
theorem rep_agg {E : Env} {xs : List AV} {vs : Array Value} (h : RepL E xs (Value.agg vs).cells.toList) : RepV E (.agg xs) (.agg vs) := by
 simp only [RepV]
 exact ⟨vs, rfl, h⟩
end
section

def rLoop (g : Nat → Option (Nat × List Int)) (mp : Bool) : Nat → Nat → Nat → List Int → List Int → Option (Nat × List Int)
 | 0, _, at', b, _ => some (at', b)
 | n + 1, i, at', b, last =>
  match g at' with
  | none => none
  | some (a, x) =>
   if 32768 < b.length + x.length then none
   else if mp = true ∧ i % 2 = 0 then
    if 0 < i ∧ (bytesLt x last || decide (x = last)) = true then none else rLoop g mp n (i + 1) a (b ++ x) x
   else rLoop g mp n (i + 1) a (b ++ x) last
def rBad (t : Tok) : Prop := ((t.k = 3 ∨ t.k = 4) ∧ t.n ≠ 0) ∨ (¬ (t.k = 3 ∨ t.k = 4) ∧ 0 < t.b.length) ∨ t.n < 0
instance (t : Tok) : Decidable (rBad t) := by unfold rBad; infer_instance
def rItem (u : List Int → Bool) (l : List Tok) : Nat → Nat → Option (Nat × List Int)
 | f, at' =>
  if h : l.length ≤ at' then none
  else
   let t := l[at']'(by omega)
   if rBad t then none
   else if t.k = 1 then some (at' + 1, putL 0 t.n)
   else if t.k = 2 then some (at' + 1, putL 1 t.n)
   else if t.k = 3 then some (at' + 1, putL 2 t.b.length ++ t.b)
   else if t.k = 4 then if u t.b = true then some (at' + 1, putL 3 t.b.length ++ t.b) else none
   else if t.k = 5 ∨ t.k = 6 then
    match f with
    | 0 => none
    | f + 1 =>
     if 64 < t.n then none
     else if t.k = 6 then rLoop (rItem u l f) true (2 * t.n.toNat) 0 (at' + 1) (putL 5 t.n) []
     else rLoop (rItem u l f) false t.n.toNat 0 (at' + 1) (putL 4 t.n) []
   else none
theorem lt_tri : ∀ (a b : List Int), (bytesLt a b || decide (a = b)) = !bytesLt b a
 | [], [] => by simp [bytesLt]
 | [], _ :: _ => by simp [bytesLt]
 | _ :: _, [] => by simp [bytesLt]
 | x :: a, y :: b => by
  have ih := lt_tri a b
  simp only [bytesLt]
  by_cases h1 : x < y
  ·have h2 : ¬ y < x := by omega
   have h3 : ¬ y = x := by omega
   simp [h1, h2, h3]
  ·by_cases h2 : y < x
   ·have h3 : ¬ x = y := by omega
    simp [h1, h2, h3]
   ·obtain rfl : x = y := by omega
    simpa using ih
theorem cmp_ge {a b : List Int} : decide (0 ≤ cmpI a b) = !bytesLt a b := by
 unfold cmpI
 cases bytesLt a b with
 | true => simp
 | false => by_cases h : a = b <;> simp [h]
theorem rLoop_grow {g : Nat → Option (Nat × List Int)} {mp : Bool} : ∀ (n i at' : Nat) (b last : List Int) (a : Nat) (bs : List Int), rLoop g mp n i at' b last = some (a, bs) → b <+: bs
 | 0, i, at', b, last, a, bs, h => by
  simp only [rLoop, Option.some.injEq, Prod.mk.injEq] at h
  rw [h.2]
  exact List.prefix_refl _
 | n + 1, i, at', b, last, a, bs, h => by
  unfold rLoop at h
  split at h
  ·cases h
  rename_i a' x hg
  split at h
  ·cases h
  split at h
  ·split at h
   ·cases h
   ·exact (List.prefix_append _ _).trans (rLoop_grow n _ _ _ _ _ _ h)
  ·exact (List.prefix_append _ _).trans (rLoop_grow n _ _ _ _ _ _ h)
def Fits (W' : W → W) (g : Nat → Option (Nat × List Int)) : Prop :=
 ∀ (at' : Nat) (out : List Int) (a : Nat) (bs : List Int), g at' = some (a, bs) → out.length + bs.length ≤ 32768 → W' ⟨at', out, false⟩ = ⟨a, out ++ bs, false⟩
theorem arr_fits {w : W → W} {g : Nat → Option (Nat × List Int)} (H : Fits w g) : ∀ (n i at' : Nat) (out b last : List Int) (a : Nat) (bs : List Int), rLoop g false n i at' b last = some (a, bs) → out.length + bs.length ≤ 32768 →
  wArr w n ⟨at', out ++ b, false⟩ = ⟨a, out ++ bs, false⟩
 | 0, i, at', out, b, last, a, bs, h, hl => by
  simp only [rLoop, Option.some.injEq, Prod.mk.injEq] at h
  rw [h.1, h.2]
  rfl
 | n + 1, i, at', out, b, last, a, bs, h, hl => by
  unfold rLoop at h
  split at h
  ·cases h
  rename_i a' x hg
  split at h
  ·cases h
  rw [if_neg (by simp)] at h
  have hp := (rLoop_grow _ _ _ _ _ _ _ h).length_le
  simp only [List.length_append] at hp
  have e := H at' (out ++ b) a' x hg (by simp; omega)
  rw [wArr, if_neg (by simp), e, List.append_assoc]
  exact arr_fits H n _ _ out (b ++ x) last a bs h hl
theorem map_fits {w : W → W} {g : Nat → Option (Nat × List Int)} (H : Fits w g) : ∀ (n i at' : Nat) (out b last : List Int) (from' to' : Nat) (a : Nat) (bs : List Int), rLoop g true (2 * n) (2 * i) at' b last = some (a, bs) → out.length + bs.length ≤ 32768 →
  (0 < i → to' ≤ (out ++ b).length ∧ last = ((out ++ b).drop from').take (to' - from')) → wMap w n i from' to' ⟨at', out ++ b, false⟩ = ⟨a, out ++ bs, false⟩
 | 0, i, at', out, b, last, from', to', a, bs, h, hl, _ => by
  simp only [Nat.mul_zero, rLoop, Option.some.injEq, Prod.mk.injEq] at h
  rw [h.1, h.2]
  rfl
 | n + 1, i, at', out, b, last, from', to', a, bs, h, hl, hk => by
  rw [show 2 * (n + 1) = 2 * n + 1 + 1 by omega] at h
  unfold rLoop at h
  split at h
  ·cases h
  rename_i a' x hg
  split at h
  ·cases h
  rw [if_pos ⟨rfl, by omega⟩] at h
  split at h
  ·cases h
  rename_i hlt
  unfold rLoop at h
  split at h
  ·cases h
  rename_i a2 y hg2
  split at h
  ·cases h
  rw [if_neg (by omega)] at h
  have hp := (rLoop_grow _ _ _ _ _ _ _ h).length_le
  simp only [List.length_append] at hp
  have e := H at' (out ++ b) a' x hg (by simp; omega)
  have e2 := H a' (out ++ b ++ x) a2 y hg2 (by simp; omega)
  have hcond : ¬ (((w ⟨at', out ++ b, false⟩).bad || (decide (0 < i) && decide (0 ≤ cmpI (((w ⟨at', out ++ b, false⟩).out.drop from').take (to' - from')) ((w ⟨at', out ++ b, false⟩).out.drop (out ++ b).length)))) = true) := by
   rw [e]
   simp only [Bool.false_or]
   by_cases hi : 0 < i
   ·obtain ⟨k1, k2⟩ := hk hi
    have d1 : ((out ++ b ++ x).drop from').take (to' - from') = last := by
     rw [k2]
     by_cases hf : from' ≤ (out ++ b).length
     ·rw [List.drop_append_of_le_length hf, List.take_append_of_le_length (by simp; simp at k1; omega)]
     ·rw [show to' - from' = 0 by omega]; simp
    have d2 : (out ++ b ++ x).drop (out ++ b).length = x := by simp
    rw [d1, d2, cmp_ge]
    have : ¬ (bytesLt x last || decide (x = last)) = true := fun hh => hlt ⟨by omega, hh⟩
    rw [lt_tri] at this
    simpa [hi] using this
   ·simp [hi]
  rw [wMap, if_neg (by simp), if_neg hcond, e, e2]
  have hout : out ++ b ++ x ++ y = out ++ (b ++ x ++ y) := by simp [List.append_assoc]
  simp only
  rw [hout]
  refine map_fits H n (i + 1) a2 out (b ++ x ++ y) x _ _ a bs (by rw [show 2 * (i + 1) = 2 * i + 1 + 1 by omega]; exact h) hl (fun _ => ⟨?_, ?_⟩)
  ·simp
  ·rw [show out ++ (b ++ x ++ y) = out ++ b ++ (x ++ y) by simp [List.append_assoc], List.drop_left, show (out ++ b ++ x).length - (out ++ b).length = x.length by simp; omega]
   simp
theorem wHead_yes {M n : Int} (hM : 0 ≤ M ∧ M < 8) (hn : 0 ≤ n) (at' : Nat) (out : List Int) : wHead M n ⟨at', out, false⟩ = ⟨at', out ++ putL M n, false⟩ := by
 simp only [wHead, putS]
 rw [if_neg (by omega)]
 simp
theorem item_fits1 (u : List Int → Bool) (l : List Tok) (f : Nat) (ih : ∀ f', f = f' + 1 → Fits (wItem u l f') (rItem u l f')) : Fits (wItem u l f) (rItem u l f) := by
  intro at' out a bs h hl
  unfold rItem at h
  split at h
  ·cases h
  rename_i hat
  simp only at h
  split at h
  ·cases h
  rename_i hbad
  have hat' : at' < l.length := by omega
  have hb : ∀ t : Tok, ¬ rBad t → (t.k = 3 ∨ t.k = 4 → t.n = 0) ∧ (¬ (t.k = 3 ∨ t.k = 4) → t.b = []) ∧ 0 ≤ t.n := by
   intro t ht
   simp only [rBad] at ht
   exact ⟨by omega, fun hk => List.length_eq_zero_iff.1 (by omega), by omega⟩
  obtain ⟨hb1, hb2, hb3⟩ := hb _ hbad
  unfold wItem
  rw [dif_neg (show ¬ (l.length ≤ (⟨at', out, false⟩ : W).at' ∨ 32768 < (⟨at', out, false⟩ : W).out.length) by simp only; omega)]
  simp only
  split at h
  ·rename_i k1
   rw [if_pos k1]
   simp only [Option.some.injEq, Prod.mk.injEq] at h
   obtain ⟨rfl, rfl⟩ := h
   rw [wNumber, hb2 (by omega)]
   simp only [List.length_nil, Int.natCast_zero, Int.lt_irrefl, decide_false, Bool.or_false]
   exact wHead_yes (by omega) hb3 _ _
  rename_i k1; rw [if_neg k1]
  split at h
  ·rename_i k2
   rw [if_pos k2]
   simp only [Option.some.injEq, Prod.mk.injEq] at h
   obtain ⟨rfl, rfl⟩ := h
   rw [wNumber, hb2 (by omega)]
   simp only [List.length_nil, Int.natCast_zero, Int.lt_irrefl, decide_false, Bool.or_false]
   exact wHead_yes (by omega) hb3 _ _
  rename_i k2; rw [if_neg k2]
  split at h
  ·rename_i k3
   rw [if_pos (.inl k3)]
   simp only [Option.some.injEq, Prod.mk.injEq] at h
   obtain ⟨rfl, rfl⟩ := h
   simp only [List.length_append] at hl
   have n4 : ¬ l[at'].k = 4 := by omega
   rw [wBytes, if_neg (by simp [n4, hb1 (.inl k3)]; omega), if_neg n4]
   rw [wHead_yes (by omega) (by omega)]
   simp
  rename_i k3
  split at h
  ·rename_i k4
   rw [if_pos (.inr k4)]
   split at h
   case isFalse => cases h
   rename_i hu
   simp only [Option.some.injEq, Prod.mk.injEq] at h
   obtain ⟨rfl, rfl⟩ := h
   simp only [List.length_append] at hl
   rw [wBytes, if_neg (by simp [k4, hu, hb1 (.inr k4)]; omega), if_pos k4]
   rw [wHead_yes (by omega) (by omega)]
   simp
  rename_i k4
  rw [if_neg (by omega)]
  split at h
  case isFalse => cases h
  rename_i k5
  rw [if_pos k5]
  cases f with
  | zero => cases h
  | succ f =>
   simp only at h ⊢
   split at h
   ·cases h
   rename_i hn
   rw [if_neg (by simp [wManyBad, hb2 (by omega)]; omega)]
   have ih := ih f rfl
   split at h
   ·rename_i k6
    rw [if_neg (by omega), wHead_yes (by omega) hb3]
    exact map_fits ih _ 0 _ out _ [] 0 0 a bs h hl (fun hh => absurd hh (by omega))
   ·rename_i k6
    rw [if_pos (by omega), wHead_yes (by omega) hb3]
    exact arr_fits ih _ 0 _ out _ [] a bs h hl
theorem item_fits (u : List Int → Bool) (l : List Tok) : ∀ f : Nat, Fits (wItem u l f) (rItem u l f)
 | 0 => item_fits1 u l 0 (fun f' h => by omega)
 | f + 1 => item_fits1 u l (f + 1) (fun f' h => by obtain rfl : f = f' := by omega
                                                   exact item_fits u l f)
def Back (W' : W → W) (g : Nat → Option (Nat × List Int)) : Prop :=
 ∀ (w : W), (W' w).bad = false → (W' w).out.length ≤ 32768 → ∃ bs, (W' w).out = w.out ++ bs ∧ g w.at' = some ((W' w).at', bs)
theorem arr_back {w : W → W} {g : Nat → Option (Nat × List Int)} (hm : Mono w) (H : Back w g) : ∀ (n i : Nat) (v : W) (out b last : List Int), v.out = out ++ b → (wArr w n v).bad = false → (wArr w n v).out.length ≤ 32768 →
  ∃ bs, (wArr w n v).out = out ++ bs ∧ rLoop g false n i v.at' b last = some ((wArr w n v).at', bs)
 | 0, i, v, out, b, last, hv, h1, h2 => ⟨b, hv, rfl⟩
 | n + 1, i, v, out, b, last, hv, h1, h2 => by
  have hb := (wArr_mono w hm (n + 1) v h1).1
  rw [wArr, if_neg (by simp [hb])] at h1 h2 ⊢
  obtain ⟨k1, k2⟩ := wArr_mono w hm n _ h1
  have k3 := k2.length_le
  obtain ⟨x, hx, hg⟩ := H v k1 (by omega)
  obtain ⟨bs, e1, e2⟩ := arr_back hm H n (i + 1) (w v) out (b ++ x) last (by rw [hx, hv, List.append_assoc]) h1 h2
  refine ⟨bs, e1, ?_⟩
  rw [hx, hv] at k3
  simp only [List.length_append] at k3
  unfold rLoop
  rw [hg]
  simp only
  rw [if_neg (by omega), if_neg (by simp)]
  exact e2
theorem map_back {w : W → W} {g : Nat → Option (Nat × List Int)} (hm : Mono w) (H : Back w g) : ∀ (n i : Nat) (v : W) (out b last : List Int) (from' to' : Nat), v.out = out ++ b →
  (0 < i → to' ≤ (out ++ b).length ∧ last = ((out ++ b).drop from').take (to' - from')) → (wMap w n i from' to' v).bad = false → (wMap w n i from' to' v).out.length ≤ 32768 →
  ∃ bs, (wMap w n i from' to' v).out = out ++ bs ∧ rLoop g true (2 * n) (2 * i) v.at' b last = some ((wMap w n i from' to' v).at', bs)
 | 0, i, v, out, b, last, from', to', hv, hk, h1, h2 => ⟨b, hv, rfl⟩
 | n + 1, i, v, out, b, last, from', to', hv, hk, h1, h2 => by
  have hb := (wMap_mono w hm (n + 1) i from' to' v h1).1
  rw [wMap, if_neg (by simp [hb])] at h1 h2 ⊢
  split at h1
  ·simp at h1
  rename_i hc
  rw [if_neg hc] at h2 ⊢
  obtain ⟨k1, k2⟩ := wMap_mono w hm n _ _ _ _ h1
  obtain ⟨k3, k4⟩ := hm _ k1
  have k5 := k2.length_le
  have k6 := k4.length_le
  obtain ⟨x, hx, hg⟩ := H v k3 (by omega)
  obtain ⟨y, hy, hg2⟩ := H (w v) k1 (by omega)
  have hvl : v.out.length = (out ++ b).length := by rw [hv]
  obtain ⟨bs, e1, e2⟩ := map_back hm H n (i + 1) (w (w v)) out (b ++ x ++ y) x v.out.length (w v).out.length (by rw [hy, hx, hv]; simp [List.append_assoc]) (fun _ => ⟨by rw [hx, hv]; simp, by
   rw [hx, hv, show out ++ (b ++ x ++ y) = out ++ b ++ (x ++ y) by simp [List.append_assoc], List.drop_left, show (out ++ b ++ x).length - (out ++ b).length = x.length by simp; omega]
   simp⟩) h1 h2
  refine ⟨bs, e1, ?_⟩
  have hlt : ¬ (0 < 2 * i ∧ (bytesLt x last || decide (x = last)) = true) := by
   rintro ⟨q1, q2⟩
   obtain ⟨p1, p2⟩ := hk (by omega)
   apply hc
   rw [k3, Bool.false_or, hx, hv]
   have d1 : ((out ++ b ++ x).drop from').take (to' - from') = last := by
    rw [p2]
    by_cases hf : from' ≤ (out ++ b).length
    ·rw [List.drop_append_of_le_length hf, List.take_append_of_le_length (by simp; simp at p1; omega)]
    ·rw [show to' - from' = 0 by omega]; simp
   have d2 : (out ++ b ++ x).drop (out ++ b).length = x := by simp
   rw [d1, d2, cmp_ge]
   rw [lt_tri] at q2
   simp only [Bool.not_eq_true'] at q2
   simp [q2]
   omega
  have k7 : (w (w v)).out.length ≤ 32768 := by omega
  rw [hy, hx, hv] at k7
  simp only [List.length_append] at k7
  rw [show 2 * (n + 1) = 2 * n + 1 + 1 by omega]
  unfold rLoop
  rw [hg]
  simp only
  rw [if_neg (by omega), if_pos ⟨trivial, by omega⟩, if_neg hlt]
  unfold rLoop
  rw [hg2]
  simp only
  rw [if_neg (by simp; omega), if_neg (by omega)]
  rw [show 2 * i + 1 + 1 = 2 * (i + 1) by omega]
  exact e2
theorem item_back1 (u : List Int → Bool) (l : List Tok) (f : Nat) (ih : ∀ f', f = f' + 1 → Back (wItem u l f') (rItem u l f')) : Back (wItem u l f) (rItem u l f) := by
  intro w h hl
  have hw := (wItem_mono u l f w h).1
  obtain ⟨at', out, bad⟩ := w
  simp only at hw
  subst hw
  unfold wItem at h hl ⊢
  split at h
  ·simp at h
  rename_i hh
  rw [dif_neg hh] at hl ⊢
  simp only at hh h hl ⊢
  have hat : ¬ l.length ≤ at' := by omega
  unfold rItem
  rw [dif_neg hat]
  simp only
  have num : ∀ (M : Int) (t : Tok), 0 ≤ M ∧ M < 8 → ¬ (t.k = 3 ∨ t.k = 4) → (wNumber M t ⟨at' + 1, out, false⟩).bad = false → ¬ rBad t ∧ wNumber M t ⟨at' + 1, out, false⟩ = ⟨at' + 1, out ++ putL M t.n, false⟩ := by
   intro M t hM hk hn
   unfold wNumber at hn ⊢
   obtain ⟨q1, q2, q3⟩ := wHead_ok hn hM
   simp only [Bool.false_or, decide_eq_false_iff_not] at q3
   refine ⟨by simp only [rBad]; omega, by rw [q2]⟩
  split at h
  ·rename_i k1
   rw [if_pos k1] at hl ⊢
   obtain ⟨q1, q2⟩ := num 0 _ (by omega) (by omega) h
   rw [q2, if_neg q1, if_pos k1]
   exact ⟨_, rfl, rfl⟩
  rename_i k1; rw [if_neg k1] at hl ⊢
  split at h
  ·rename_i k2
   rw [if_pos k2] at hl ⊢
   obtain ⟨q1, q2⟩ := num 1 _ (by omega) (by omega) h
   rw [q2, if_neg q1, if_neg k1, if_pos k2]
   exact ⟨_, rfl, rfl⟩
  rename_i k2; rw [if_neg k2] at hl ⊢
  split at h
  ·rename_i k3
   rw [if_pos k3] at hl ⊢
   obtain ⟨q1, q2, q3, q4⟩ := wBytes_ok h
   have nb : ¬ rBad l[at'] := by simp only [rBad]; omega
   rw [q4, if_neg nb, if_neg k1, if_neg k2]
   by_cases k4 : l[at'].k = 4
   ·rw [if_neg (show ¬ l[at'].k = 3 by omega), if_pos k4, if_pos k4, if_pos (q3 k4)]
    exact ⟨_, by simp, rfl⟩
   ·rw [if_pos (show l[at'].k = 3 by omega), if_neg k4]
    exact ⟨_, by simp, rfl⟩
  rename_i k3; rw [if_neg k3] at hl ⊢
  split at h
  case isFalse => simp at h
  rename_i k5
  rw [if_pos k5] at hl ⊢
  cases f with
  | zero => simp at h
  | succ f =>
   simp only at h hl ⊢
   split at h
   ·simp at h
   rename_i hb
   rw [if_neg hb] at hl ⊢
   have ih := ih f rfl
   have hmo := wItem_mono u l f
   have hb' : l[at'].b.length = 0 ∧ 0 ≤ l[at'].n ∧ ¬ 64 < l[at'].n := by
    simp only [wManyBad, Bool.or_eq_true, decide_eq_true_eq, not_or] at hb
    omega
   have nb : ¬ rBad l[at'] := by simp only [rBad]; omega
   rw [if_neg nb, if_neg k1, if_neg k2, if_neg (show ¬ l[at'].k = 3 by omega), if_neg (show ¬ l[at'].k = 4 by omega), if_pos k5, if_neg hb'.2.2]
   split at h
   ·rename_i k6
    rw [if_pos k6] at hl ⊢
    rw [if_neg (show ¬ l[at'].k = 6 by omega)]
    rw [wHead_yes (by omega) hb'.2.1] at h hl ⊢
    exact arr_back hmo ih _ 0 _ out _ [] rfl h hl
   ·rename_i k6
    rw [if_neg k6] at hl ⊢
    rw [if_pos (show l[at'].k = 6 by omega)]
    rw [wHead_yes (by omega) hb'.2.1] at h hl ⊢
    exact map_back hmo ih _ 0 _ out _ [] 0 0 rfl (fun hh => absurd hh (by omega)) h hl
theorem item_back (u : List Int → Bool) (l : List Tok) : ∀ f : Nat, Back (wItem u l f) (rItem u l f)
 | 0 => item_back1 u l 0 (fun f' h => by omega)
 | f + 1 => item_back1 u l (f + 1) (fun f' h => by obtain rfl : f = f' := by omega
                                                   exact item_back u l f)
theorem encR_iff (u : List Int → Bool) (l : List Tok) (a : List Int) : encR u l = (a, 0) ↔ l.length ≤ 600 ∧ rItem u l 6 0 = some (l.length, a) ∧ a.length ≤ 32768 := by
 constructor
 ·intro h
  obtain ⟨h1, h2, h3⟩ := encR_yes h
  obtain ⟨bs, e1, e2⟩ := item_back u l 6 ⟨0, [], false⟩ (by rw [h2]) (by rw [h2]; exact h3)
  rw [h2] at e1 e2
  simp only [List.nil_append] at e1
  subst e1
  exact ⟨h1, e2, h3⟩
 ·rintro ⟨h1, h2, h3⟩
  have := item_fits u l 6 0 [] l.length a h2 (by simpa using h3)
  unfold encR
  rw [if_neg (by omega), this]
  simp
  omega
end
section

def Gos (g : Nat → Option (Nat × List Int)) (L : Nat) : Prop := ∀ k a x, g k = some (a, x) → k < a ∧ a ≤ L ∧ 0 < x.length
theorem rLoop_go {g : Nat → Option (Nat × List Int)} {mp : Bool} {L : Nat} (H : Gos g L) : ∀ (n i at' : Nat) (b last : List Int) (a : Nat) (bs : List Int), rLoop g mp n i at' b last = some (a, bs) → at' + n ≤ a ∧ (at' ≤ L → a ≤ L) ∧ b.length + n ≤ bs.length
 | 0, i, at', b, last, a, bs, h => by
  simp only [rLoop, Option.some.injEq, Prod.mk.injEq] at h
  rw [h.1, h.2]
  exact ⟨Nat.le_refl _, fun h => h, Nat.le_refl _⟩
 | n + 1, i, at', b, last, a, bs, h => by
  unfold rLoop at h
  split at h
  ·cases h
  rename_i a1 x hg
  obtain ⟨q1, q2, q3⟩ := H _ _ _ hg
  have fin : ∀ lst, rLoop g mp n (i + 1) a1 (b ++ x) lst = some (a, bs) → at' + (n + 1) ≤ a ∧ (at' ≤ L → a ≤ L) ∧ b.length + (n + 1) ≤ bs.length := by
   intro lst hh
   obtain ⟨p1, p2, p3⟩ := rLoop_go H n _ _ _ _ _ _ hh
   simp only [List.length_append] at p3
   exact ⟨by omega, fun _ => p2 q2, by omega⟩
  split at h
  ·cases h
  split at h
  ·split at h
   ·cases h
   ·exact fin _ h
  ·exact fin _ h
theorem putL_pos (M n : Int) : 0 < (putL M n).length := by simp [putL]
theorem rItem_go (u : List Int → Bool) (l : List Tok) : ∀ f : Nat, Gos (rItem u l f) l.length
 | 0 => fun k a x h => by
  unfold rItem at h
  split at h
  ·cases h
  simp only at h
  have p0 := putL_pos
  split at h
  ·cases h
  split at h
  ·simp only [Option.some.injEq, Prod.mk.injEq] at h; obtain ⟨rfl, rfl⟩ := h; exact ⟨by omega, by omega, p0 _ _⟩
  split at h
  ·simp only [Option.some.injEq, Prod.mk.injEq] at h; obtain ⟨rfl, rfl⟩ := h; exact ⟨by omega, by omega, p0 _ _⟩
  split at h
  ·simp only [Option.some.injEq, Prod.mk.injEq] at h; obtain ⟨rfl, rfl⟩ := h; exact ⟨by omega, by omega, by simp only [List.length_append]; have := p0 2 (l[k].b.length : Int); omega⟩
  split at h
  ·split at h
   ·simp only [Option.some.injEq, Prod.mk.injEq] at h; obtain ⟨rfl, rfl⟩ := h; exact ⟨by omega, by omega, by simp only [List.length_append]; have := p0 3 (l[k].b.length : Int); omega⟩
   ·cases h
  split at h
  ·cases h
  ·cases h
 | f + 1 => fun k a x h => by
  unfold rItem at h
  split at h
  ·cases h
  simp only at h
  have p0 := putL_pos
  split at h
  ·cases h
  split at h
  ·simp only [Option.some.injEq, Prod.mk.injEq] at h; obtain ⟨rfl, rfl⟩ := h; exact ⟨by omega, by omega, p0 _ _⟩
  split at h
  ·simp only [Option.some.injEq, Prod.mk.injEq] at h; obtain ⟨rfl, rfl⟩ := h; exact ⟨by omega, by omega, p0 _ _⟩
  split at h
  ·simp only [Option.some.injEq, Prod.mk.injEq] at h; obtain ⟨rfl, rfl⟩ := h; exact ⟨by omega, by omega, by simp only [List.length_append]; have := p0 2 (l[k].b.length : Int); omega⟩
  split at h
  ·split at h
   ·simp only [Option.some.injEq, Prod.mk.injEq] at h; obtain ⟨rfl, rfl⟩ := h; exact ⟨by omega, by omega, by simp only [List.length_append]; have := p0 3 (l[k].b.length : Int); omega⟩
   ·cases h
  split at h
  ·split at h
   ·cases h
   have ih := rItem_go u l f
   split at h
   ·obtain ⟨q1, q2, q3⟩ := rLoop_go ih _ _ _ _ _ _ _ h
    exact ⟨by omega, q2 (by omega), by have := p0 5 l[k].n; omega⟩
   ·obtain ⟨q1, q2, q3⟩ := rLoop_go ih _ _ _ _ _ _ _ h
    exact ⟨by omega, q2 (by omega), by have := p0 4 l[k].n; omega⟩
  ·cases h
def rTok (u : List Int → Bool) (g : Nat → Option (Nat × List Int)) (z : Bool) (t : Tok) (k : Nat) : Option (Nat × List Int) :=
 if rBad t then none
 else if t.k = 1 then some (k, putL 0 t.n)
 else if t.k = 2 then some (k, putL 1 t.n)
 else if t.k = 3 then some (k, putL 2 t.b.length ++ t.b)
 else if t.k = 4 then if u t.b = true then some (k, putL 3 t.b.length ++ t.b) else none
 else if t.k = 5 ∨ t.k = 6 then
  if z = true then none
  else if 64 < t.n then none
  else if t.k = 6 then rLoop g true (2 * t.n.toNat) 0 k (putL 5 t.n) []
  else rLoop g false t.n.toNat 0 k (putL 4 t.n) []
 else none
def rSub (u : List Int → Bool) (l : List Tok) : Nat → Nat → Option (Nat × List Int)
 | 0 => fun _ => none
 | f + 1 => rItem u l f
theorem rItem_tok (u : List Int → Bool) (l : List Tok) (f k : Nat) (hk : k < l.length) : rItem u l f k = rTok u (rSub u l f) (decide (f = 0)) l[k] (k + 1) := by
 cases f with
 | zero =>
  unfold rItem rTok rSub
  rw [dif_neg (by omega)]
  simp
 | succ f =>
  unfold rItem rTok rSub
  rw [dif_neg (by omega)]
  simp
theorem rItem_none (u : List Int → Bool) (l : List Tok) (f k : Nat) (hk : l.length ≤ k) : rItem u l f k = none := by
 unfold rItem
 rw [dif_pos hk]
end
section

attribute [local irreducible] ifB fitP Does Weaker
def wkC (r : Option (Nat × List Int)) : List AV := match r with
 | some (a, bs) => [.int .i64 (a : Int), .own bs.length 1 (bys bs), .bool false]
 | none => [.int .i64 0, .own 0 1 [], .bool true]
def RItemOk (l : List Tok) (f : Nat) : Prop := ∀ at' : Nat, at' ≤ 1000000 → ACall Tryz.prog 91 [.ro l.length (toksC l), .int .i64 at', .int .i64 (6 - (f : Int))] (.agg (wkC (rItem validR l f at'))) []
theorem ritem_none (l : List Tok) (f : Nat) (hl : l.length ≤ 1000000) (at' : Nat) (h : l.length ≤ at') (d : Int) : ACall Tryz.prog 91 [.ro l.length (toksC l), .int .i64 at', .int .i64 d] (.agg (wkC none)) [] := by
 refine ACall.of_does TTok Tryz.func91 rfl Tryz.call91 rfl (wpc_sound (M := MC) (PL := PL0) (CU := noCut) TTok mixed _ _ _ ?_)
 conv => whnf
 repeat ((first | (refine ifB_pos (decide_eq_true (by first | omega | rfl | (dsimp only; omega))) ?_) | refine ⟨rfl, ?_⟩ | refine ⟨_, rfl, ?_⟩ | refine ⟨⟨rfl, rfl⟩, ?_⟩ | (refine ⟨⟨rfl, rfl, ?_⟩, ?_⟩; (focus (first | exact Nat.le_of_ble_eq_true rfl | (simp; done))))); conv => whnf)
 rfl
def PLri1 : Plan := (takesTo [0, 1, 2, 6] (.all [(3, (takesTo [4] (.all [(5, (.all [(7, (.all [(8, (takesTo [9] (.all [(10, .done)])))]))])), (7, (.all [(5, (.all [(8, (takesTo [9] (.all [(10, .done)])))]))]))]))), (7, (.all [(3, (takesTo [4] (.all [(5, (.all [(8, (takesTo [9] (.all [(10, .done)])))]))])))]))]))
def PLri : Nat → Bool × Plan := plans [(13, (false, PLri1)), (17, (false, PLri1))]
set_option maxHeartbeats 4000000 in
theorem ritem_at (l : List Tok) (hl : ToksOk l) (hlb : ∀ t ∈ l, t.b.length ≤ 1099511627776) (hll : l.length ≤ 1000000) (at' : Nat) (ha : at' < l.length) (f : Nat) (hf : f ≤ 6)
  (hm : (l[at'].k = 5 ∨ l[at'].k = 6) → ¬ rBad l[at'] → ACall Tryz.prog 91 [.ro l.length (toksC l), .int .i64 at', .int .i64 (6 - (f : Int))] (.agg (wkC (rItem validR l f at'))) []) :
  ACall Tryz.prog 91 [.ro l.length (toksC l), .int .i64 at', .int .i64 (6 - (f : Int))] (.agg (wkC (rItem validR l f at'))) [] := by
 have hL := pureL_toks l
 by_cases hmm : (l[at'].k = 5 ∨ l[at'].k = 6) ∧ ¬ rBad l[at']
 ·exact hm hmm.1 hmm.2
 clear hm
 rw [rItem_tok _ _ _ _ ha]
 obtain ⟨t, ht⟩ : ∃ t, t = l[at'] := ⟨_, rfl⟩
 have hto : TokOk t := by rw [ht]; exact hl _ (List.getElem_mem ha)
 have htb : t.b.length ≤ 1099511627776 := by rw [ht]; exact hlb _ (List.getElem_mem ha)
 have hld : ∀ m s : Nat, m = 3 * at' → s = 3 → takeN s ((toksC l).drop m) = some (tokC t) := by
  intro m s hm hs
  rw [takeN_tok ha hm hs, ht]
 rw [← ht] at hmm ⊢
 obtain ⟨k, n, b⟩ := t
 clear ht
 simp only [rBad] at htb hmm
 replace hld : ∀ m s : Nat, m = 3 * at' → s = 3 → takeN s ((toksC l).drop m) = some [.int .i64 k, .int .i64 n, .ro b.length (bys b)] := hld
 refine ACall.of_does TTok Tryz.func91 rfl Tryz.call91 rfl (wpc_sound (M := MC) (PL := PLri) (CU := cutAt [200005]) TTok mixed _ _ _ ?_)
 conv => whnf
 repeat ((first | (refine ifB_neg (decide_eq_false (by first | omega | rfl | (dsimp only; omega))) ?_) | refine ⟨rfl, ?_⟩ | (refine ⟨⟨rfl, rfl, ?_⟩, ?_⟩; (focus (first | exact Nat.le_of_ble_eq_true rfl | (simp; done)))) | (refine ⟨⟨?_, ?_, ?_⟩, ?_⟩; (focus omega); (focus (first | omega | (simp; done) | (simp; omega))); (focus (first | (simp; done) | (simp; omega) | (rw [toksC_length]; simp; omega))))); conv => whnf)
 refine ⟨_, hld _ _ (by simp; omega) rfl, ?_⟩
 conv => whnf
 repeat ((first | refine ⟨rfl, ?_⟩ | (refine ⟨⟨rfl, rfl, ?_⟩, ?_⟩; (focus (first | exact Nat.le_of_ble_eq_true rfl | (simp; done))))); conv => whnf)
 refine Does.seqCut (α := Unit) (fun _ => mkSt [(0, .ro l.length (toksC l)), (1, .int .i64 (at' : Int)), (2, .int .i64 (6 - (f : Int))), (6, .ptr 0 0), (7, .ptr 1 0), (8, .ptr 2 0), (57, .bool (decide (rBad ⟨k, n, b⟩)))]
  [(0, [.int .i64 0, .nil, .bool false]), (1, [.int .i64 0, .nil, .bool true]), (2, [.int .i64 k, .int .i64 n, .ro b.length (bys b)])] 3 191) (fun _ => True) ?_ (fun _ _ => ?_)
 ·refine wpc_sound (M := MC) (PL := PL0) (CU := noCut) TTok mixed _ _ _ ?_
  conv => whnf
  repeat' (first | (refine ifB_t ?_; (conv => whnf)) | (refine ifB_f ?_; (conv => whnf)) | (refine ifB_neg (decide_eq_false (by first | omega | rfl | (dsimp only; omega))) ?_; (conv => whnf)) | (refine ifB_pos (decide_eq_true (by first | omega | rfl | (dsimp only; omega))) ?_; (conv => whnf)) | (exact ⟨(), trivial, weaker_of [(0, 0), (1, 1), (2, 2)] rfl rfl ⟨⟨rfl, rfl, hL⟩, ⟨rfl, rfl⟩, ⟨rfl, rfl⟩, ⟨rfl, rfl⟩, ⟨rfl, rfl⟩, ⟨rfl, rfl⟩, leP_bool (by first | exact (decide_eq_true (p := rBad ⟨k, n, b⟩) (by simp only [rBad]; omega)).symm | exact (decide_eq_false (p := rBad ⟨k, n, b⟩) (by simp only [rBad]; omega)).symm | exact decide_eq_decide.2 (by simp only [rBad]; omega)), trivial⟩ ⟨⟨⟨rfl, rfl⟩, trivial, rfl, trivial⟩, ⟨⟨rfl, rfl⟩, trivial, rfl, trivial⟩, ⟨⟨rfl, rfl⟩, ⟨rfl, rfl⟩, ⟨rfl, rfl, pureL_bys _⟩, trivial⟩, trivial⟩⟩) | (refine ⟨_, rfl, ?_⟩; conv => whnf) | (refine ifB_dec (fun _ => ?_) (fun _ => ?_) <;> conv => whnf) | (refine And.intro ?_ ?_ <;> conv => whnf))
 ·refine wpc_sound (M := MC) (PL := PLri) (CU := noCut) TTok mixed _ _ _ ?_
  conv => whnf
  unfold rTok
  refine ifB_bool (fun hC => ?_) (fun hC => ?_)
  ·rw [if_pos (of_decide_eq_true hC)]
   conv => whnf
   repeat ((first | refine ⟨rfl, ?_⟩ | refine ⟨_, rfl, ?_⟩ | refine ⟨⟨rfl, rfl⟩, ?_⟩ | (refine ⟨⟨rfl, rfl, ?_⟩, ?_⟩; (focus (first | exact Nat.le_of_ble_eq_true rfl | (simp; done))))); conv => whnf)
   rfl
  have hC := of_decide_eq_false hC
  rw [if_neg hC]
  simp only [rBad] at hC
  conv => whnf
  repeat ((refine ⟨_, rfl, ?_⟩); conv => whnf)
  have hp2 := putL_short 2 (n := (b.length : Int)) (by omega)
  have hp3 := putL_short 3 (n := (b.length : Int)) (by omega)
  refine ifB_dec (fun k1 => ?_) (fun k1 => ?_)
  ·rw [if_pos k1]
   conv => whnf
   repeat ((first | (refine fit_i64 ⟨by first | omega | rfl | (dsimp only; omega), by first | omega | rfl | (dsimp only; omega)⟩ ?_) | refine ⟨rfl, ?_⟩ | refine ⟨_, rfl, ?_⟩); conv => whnf)
   refine ⟨_, _, refHead_ok 0 n (by omega) (by omega) (by omega), by first | rfl | simp [noRoIf, noRoL, noRoV, noRoL_bys], ?_⟩
   conv => whnf
   repeat ((first | refine ⟨rfl, ?_⟩ | refine ⟨_, rfl, ?_⟩ | refine ⟨⟨rfl, rfl⟩, ?_⟩ | (refine ⟨⟨rfl, rfl, rfl, ?_, pureL_bys _⟩, ?_⟩; (focus (simp; done))) | (refine ⟨⟨rfl, rfl, ?_⟩, ?_⟩; (focus (first | exact Nat.le_of_ble_eq_true rfl | (simp; done))))); conv => whnf)
   rfl
  rw [if_neg k1]
  conv => whnf
  refine ifB_dec (fun k2 => ?_) (fun k2 => ?_)
  ·rw [if_pos k2]
   conv => whnf
   repeat ((first | (refine fit_i64 ⟨by first | omega | rfl | (dsimp only; omega), by first | omega | rfl | (dsimp only; omega)⟩ ?_) | refine ⟨rfl, ?_⟩ | refine ⟨_, rfl, ?_⟩); conv => whnf)
   refine ⟨_, _, refHead_ok 1 n (by omega) (by omega) (by omega), by first | rfl | simp [noRoIf, noRoL, noRoV, noRoL_bys], ?_⟩
   conv => whnf
   repeat ((first | refine ⟨rfl, ?_⟩ | refine ⟨_, rfl, ?_⟩ | refine ⟨⟨rfl, rfl⟩, ?_⟩ | (refine ⟨⟨rfl, rfl, rfl, ?_, pureL_bys _⟩, ?_⟩; (focus (simp; done))) | (refine ⟨⟨rfl, rfl, ?_⟩, ?_⟩; (focus (first | exact Nat.le_of_ble_eq_true rfl | (simp; done))))); conv => whnf)
   rfl
  rw [if_neg k2]
  conv => whnf
  refine ifB_dec (fun k3 => ?_) (fun k3 => ?_)
  ·rw [if_pos k3]
   conv => whnf
   refine ⟨by kernel_rfl, ?_⟩
   conv => whnf
   repeat' (first | (refine fit_i64 ⟨by first | omega | rfl | (dsimp only; omega), by first | omega | rfl | (dsimp only; omega)⟩ ?_; (conv => whnf)) | (refine ⟨ones_bys _, ?_⟩; (conv => whnf)) | (refine ⟨rfl, ?_⟩; (conv => whnf)) | (refine ⟨⟨rfl, rfl⟩, ?_⟩; (conv => whnf)) | (refine ⟨⟨rfl, rfl, ?_⟩, ?_⟩; (focus (first | exact Nat.le_of_ble_eq_true rfl | (simp; done))); (conv => whnf)) | (refine ⟨⟨rfl, rfl, ?_, ?_⟩, ?_⟩; (focus (first | (simp [lenB, offB]; done) | (simp [lenB, offB]; omega))); (focus (first | (simp [limB, lenB, offB]; done) | (simp [limB, lenB, offB]; omega))); (conv => whnf)) | (refine And.intro ?_ ?_; (focus (first | (simp [limB, lenB, offB]; done) | (simp [limB, lenB, offB]; omega))); (conv => whnf)) | (refine ⟨_, _, refHead_ok 2 b.length (by omega) (by omega) (by omega), by first | rfl | simp [noRoIf, noRoL, noRoV, noRoL_bys], ?_⟩; conv => whnf) | (refine ⟨⟨by simp, rfl, by rw [bys_append], by simp, pureL_bys _⟩, ?_⟩; conv => whnf) | (rfl) | (refine ⟨_, rfl, ?_⟩; conv => whnf) | (refine And.intro ?_ ?_ <;> conv => whnf))
  rw [if_neg k3]
  conv => whnf
  refine ifB_dec (fun k4 => ?_) (fun k4 => ?_)
  ·rw [if_pos k4]
   have hu := refUtf8_ok b hto.2.2 htb
   cases hv : validR b
   ·rw [hv] at hu
    rw [if_neg (by simp)]
    conv => whnf
    repeat ((first | refine ⟨pureL_bys _, ?_⟩ | refine ⟨rfl, ?_⟩ | refine ⟨_, rfl, ?_⟩); conv => whnf)
    refine ⟨_, _, hu, by first | rfl | simp [noRoIf, noRoL, noRoV, noRoL_bys], ?_⟩
    conv => whnf
    repeat ((first | refine ifB_t ?_ | refine ⟨rfl, ?_⟩ | refine ⟨_, rfl, ?_⟩ | refine ⟨⟨rfl, rfl⟩, ?_⟩ | (refine ⟨⟨rfl, rfl, ?_⟩, ?_⟩; (focus (first | exact Nat.le_of_ble_eq_true rfl | (simp; done))))); conv => whnf)
    rfl
   rw [hv] at hu
   rw [if_pos rfl]
   conv => whnf
   repeat ((first | refine ⟨pureL_bys _, ?_⟩ | refine ⟨rfl, ?_⟩ | refine ⟨_, rfl, ?_⟩); conv => whnf)
   refine ⟨_, _, hu, by first | rfl | simp [noRoIf, noRoL, noRoV, noRoL_bys], ?_⟩
   conv => whnf
   repeat ((refine ifB_f ?_); conv => whnf)
   refine ⟨by kernel_rfl, ?_⟩
   conv => whnf
   repeat' (first | (refine fit_i64 ⟨by first | omega | rfl | (dsimp only; omega), by first | omega | rfl | (dsimp only; omega)⟩ ?_; (conv => whnf)) | (refine ⟨ones_bys _, ?_⟩; (conv => whnf)) | (refine ⟨rfl, ?_⟩; (conv => whnf)) | (refine ⟨⟨rfl, rfl⟩, ?_⟩; (conv => whnf)) | (refine ⟨⟨rfl, rfl, ?_⟩, ?_⟩; (focus (first | exact Nat.le_of_ble_eq_true rfl | (simp; done))); (conv => whnf)) | (refine ⟨⟨rfl, rfl, ?_, ?_⟩, ?_⟩; (focus (first | (simp [lenB, offB]; done) | (simp [lenB, offB]; omega))); (focus (first | (simp [limB, lenB, offB]; done) | (simp [limB, lenB, offB]; omega))); (conv => whnf)) | (refine And.intro ?_ ?_; (focus (first | (simp [limB, lenB, offB]; done) | (simp [limB, lenB, offB]; omega))); (conv => whnf)) | (refine ⟨_, _, refHead_ok 3 b.length (by omega) (by omega) (by omega), by first | rfl | simp [noRoIf, noRoL, noRoV, noRoL_bys], ?_⟩; conv => whnf) | (refine ⟨⟨by simp, rfl, by rw [bys_append], by simp, pureL_bys _⟩, ?_⟩; conv => whnf) | (rfl) | (refine ⟨_, rfl, ?_⟩; conv => whnf) | (refine And.intro ?_ ?_ <;> conv => whnf))
  rw [if_neg k4]
  clear hp2 hp3
  have k5 : k ≠ 5 := by omega
  have k6 : k ≠ 6 := by omega
  rw [if_neg (show ¬ (k = 5 ∨ k = 6) by omega)]
  conv => whnf
  repeat ((first | (refine ifB_neg (decide_eq_false (by first | omega | rfl | (dsimp only; omega))) ?_) | refine ⟨rfl, ?_⟩ | refine ⟨_, rfl, ?_⟩ | refine ⟨⟨rfl, rfl⟩, ?_⟩ | (refine ⟨⟨rfl, rfl, ?_⟩, ?_⟩; (focus (first | exact Nat.le_of_ble_eq_true rfl | (simp; done))))); conv => whnf)
  rfl
end
section

attribute [local irreducible] ifB fitP Does Weaker
def PLrm : Nat → Bool × Plan := plans [(38, (false, (takesTo [0, 2, 4] (.all [(1, (.all [(3, (takesTo [7] (.all [(5, (.all [(6, (.all [(8, (takesTo [9] (.all [(10, .done)])))]))]))]))), (5, (.all [(3, (takesTo [7] (.all [(6, (.all [(8, (takesTo [9] (.all [(10, .done)])))]))])))]))])), (3, (.all [(1, (takesTo [7] (.all [(5, (.all [(6, (.all [(8, (takesTo [9] (.all [(10, .done)])))]))]))]))), (5, (.all [(1, (takesTo [7] (.all [(6, (.all [(8, (takesTo [9] (.all [(10, .done)])))]))]))), (6, (.all [(1, (takesTo [7] (.all [(8, (takesTo [9] (.all [(10, .done)])))])))]))]))])), (5, (.all [(1, (.all [(3, (takesTo [7] (.all [(6, (.all [(8, (takesTo [9] (.all [(10, .done)])))]))])))])), (3, (.all [(1, (takesTo [7] (.all [(6, (.all [(8, (takesTo [9] (.all [(10, .done)])))]))]))), (6, (.all [(1, (takesTo [7] (.all [(8, (takesTo [9] (.all [(10, .done)])))])))]))]))]))]))))]
theorem Does.weakerTo' {P : Program} {k : Nat} {c : Code} {Q : AX → St → Prop} {st : St} {env : List (Nat × AV)} {heap : List (Nat × List AV)} {nx n : Nat} (g : List (Nat × Nat)) (hn : st.n = n) (hg : renOk k g heap nx = true)
  (he : envLe (oldOf k g) st.env env) (hh : heapLe (oldOf k g) st.heap heap) (h : Does P k c Q (mkSt env heap nx n)) : Does P k c Q st := Does.weaker (weaker_of g hn hg he hh) h
theorem whole_bys (l : List Int) : (List.drop 0 (bys l)).take (l.length * 1) = bys l := by rw [List.drop_zero, Nat.mul_one]; exact List.take_of_length_le (by simp)
theorem rItem_byt {l : List Tok} (hl : ToksOk l) {f a a' : Nat} {x : List Int} (h : rItem validR l f a = some (a', x)) (hx : x.length ≤ 32768) : Byt x := by
 have := item_fits validR l f a [] a' x h (by simpa using hx)
 have h2 := wItem_byt validR l hl f ⟨a, [], false⟩ (by simp [Byt])
 rw [this] at h2
 simpa using h2
theorem rLoop_len {g : Nat → Option (Nat × List Int)} {mp : Bool} : ∀ (n i at' : Nat) (b last : List Int) (a : Nat) (bs : List Int), rLoop g mp n i at' b last = some (a, bs) → bs.length ≤ max 32768 b.length
 | 0, i, at', b, last, a, bs, h => by
  simp only [rLoop, Option.some.injEq, Prod.mk.injEq] at h
  rw [h.2]; omega
 | n + 1, i, at', b, last, a, bs, h => by
  unfold rLoop at h
  split at h
  ·cases h
  rename_i a1 x hg
  split at h
  ·cases h
  split at h
  ·split at h
   ·cases h
   ·have := rLoop_len n _ _ _ _ _ _ h
    simp only [List.length_append] at this; omega
  ·have := rLoop_len n _ _ _ _ _ _ h
   simp only [List.length_append] at this; omega
theorem rItem_len {u : List Int → Bool} {l : List Tok} (hlb : ∀ t ∈ l, t.b.length ≤ 1099511627776) {f k a : Nat} {x : List Int} (h : rItem u l f k = some (a, x)) : x.length ≤ 1099511627785 := by
 by_cases hk : k < l.length
 ·rw [rItem_tok u l f k hk] at h
  have hb := hlb _ (List.getElem_mem hk)
  have fin : ∀ (g : Nat → Option (Nat × List Int)) (mp : Bool) (n i at' : Nat) (M N : Int) (last : List Int), 0 ≤ N → rLoop g mp n i at' (putL M N) last = some (a, x) → x.length ≤ 1099511627785 := by
   intro g mp n i at' M N last hN h
   have h1 := rLoop_len _ _ _ _ _ _ _ h
   have h2 := putL_short M hN
   omega
  unfold rTok at h
  split at h
  ·cases h
  rename_i h0
  simp only [rBad] at h0
  split at h
  ·simp only [Option.some.injEq, Prod.mk.injEq] at h; obtain ⟨rfl, rfl⟩ := h; have := putL_short 0 (n := l[k].n) (by omega); omega
  split at h
  ·simp only [Option.some.injEq, Prod.mk.injEq] at h; obtain ⟨rfl, rfl⟩ := h; have := putL_short 1 (n := l[k].n) (by omega); omega
  split at h
  ·simp only [Option.some.injEq, Prod.mk.injEq] at h; obtain ⟨rfl, rfl⟩ := h; have := putL_short 2 (n := (l[k].b.length : Int)) (by omega); simp only [List.length_append]; omega
  split at h
  ·split at h
   ·simp only [Option.some.injEq, Prod.mk.injEq] at h; obtain ⟨rfl, rfl⟩ := h; have := putL_short 3 (n := (l[k].b.length : Int)) (by omega); simp only [List.length_append]; omega
   ·cases h
  split at h
  ·split at h
   ·cases h
   split at h
   ·cases h
   split at h
   ·exact fin _ _ _ _ _ _ _ _ (by omega) h
   ·exact fin _ _ _ _ _ _ _ _ (by omega) h
  ·cases h
 ·rw [rItem_none _ _ _ _ (by omega)] at h
  cases h
set_option maxHeartbeats 4000000 in
theorem ritem_many (l : List Tok) (hl : ToksOk l) (hlb : ∀ t ∈ l, t.b.length ≤ 1099511627776) (hll : l.length ≤ 1000000) (at' : Nat) (ha : at' < l.length) (f : Nat) (hf : f ≤ 6) (hi : ∀ f', f = f' + 1 → RItemOk l f')
  (hk : l[at'].k = 5 ∨ l[at'].k = 6) (hb : ¬ rBad l[at']) :
  ACall Tryz.prog 91 [.ro l.length (toksC l), .int .i64 at', .int .i64 (6 - (f : Int))] (.agg (wkC (rItem validR l f at'))) [] := by
 have hL := pureL_toks l
 rw [rItem_tok _ _ _ _ ha]
 obtain ⟨t, ht⟩ : ∃ t, t = l[at'] := ⟨_, rfl⟩
 have hto : TokOk t := by rw [ht]; exact hl _ (List.getElem_mem ha)
 have hld : ∀ m s : Nat, m = 3 * at' → s = 3 → takeN s ((toksC l).drop m) = some (tokC t) := by
  intro m s hm hs
  rw [takeN_tok ha hm hs, ht]
 rw [← ht] at hk hb ⊢
 obtain ⟨k, n, b⟩ := t
 clear ht
 obtain ⟨q1, q2, _⟩ := hto
 simp only at hk q2
 have hrt : rTok validR (rSub validR l f) (decide (f = 0)) ⟨k, n, b⟩ (at' + 1) =
   if f = 0 ∨ 64 < n then none else rLoop (rSub validR l f) (decide (k = 6)) (if k = 6 then 2 * n.toNat else n.toNat) 0 (at' + 1) (putL (k - 1) n) [] := by
  unfold rTok
  rw [if_neg hb]
  simp only
  rw [if_neg (show ¬ k = 1 by omega), if_neg (show ¬ k = 2 by omega), if_neg (show ¬ k = 3 by omega), if_neg (show ¬ k = 4 by omega), if_pos hk]
  by_cases h0 : f = 0
  ·simp [h0]
  ·rcases hk with rfl | rfl <;> simp [h0]
 rw [hrt]
 clear hrt
 simp only [rBad] at hb
 have hb0 : b = [] := List.length_eq_zero_iff.1 (by omega)
 subst hb0
 obtain ⟨N, rfl⟩ : ∃ N : Nat, n = N := ⟨n.toNat, by omega⟩
 replace hld : ∀ m s : Nat, m = 3 * at' → s = 3 → takeN s ((toksC l).drop m) = some [.int .i64 k, .int .i64 N, .ro 0 []] := hld
 rw [Int.toNat_natCast]
 refine ACall.of_does TTok Tryz.func91 rfl Tryz.call91 rfl (wpc_sound (M := MC) (PL := PLrm) (CU := noCut) TTok mixed _ _ _ ?_)
 conv => whnf
 repeat ((first | (refine ifB_neg (decide_eq_false (by first | omega | rfl | (dsimp only; omega))) ?_) | refine ⟨rfl, ?_⟩ | (refine ⟨⟨rfl, rfl, ?_⟩, ?_⟩; (focus (first | exact Nat.le_of_ble_eq_true rfl | (simp; done)))) | (refine ⟨⟨?_, ?_, ?_⟩, ?_⟩; (focus omega); (focus (first | omega | (simp; done) | (simp; omega))); (focus (first | (simp; done) | (simp; omega) | (rw [toksC_length]; simp; omega))))); conv => whnf)
 refine ⟨_, hld _ _ (by simp; omega) rfl, ?_⟩
 conv => whnf
 repeat ((first | refine ifB_t ?_ | refine ifB_f ?_ | (refine ifB_neg (decide_eq_false (by first | omega | rfl | (dsimp only; omega))) ?_) | (refine ifB_pos (decide_eq_true (by first | omega | rfl | (dsimp only; omega))) ?_) | refine ⟨rfl, ?_⟩ | refine ⟨_, rfl, ?_⟩ | (refine ⟨⟨rfl, rfl, ?_⟩, ?_⟩; (focus (first | exact Nat.le_of_ble_eq_true rfl | (simp; done))))); conv => whnf)
 by_cases h0 : f = 0 ∨ 64 < (N : Int)
 ·rw [if_pos h0]
  rcases hk with rfl | rfl
  all_goals
   conv => whnf
   repeat' (first | (refine ifB_t ?_; (conv => whnf)) | (refine ifB_f ?_; (conv => whnf)) | (refine ifB_pos (decide_eq_true (by first | omega | rfl | (dsimp only; omega))) ?_; (conv => whnf)) | (refine ⟨rfl, ?_⟩; (conv => whnf)) | (refine ⟨⟨rfl, rfl⟩, ?_⟩; (conv => whnf)) | (refine ⟨⟨rfl, rfl, ?_⟩, ?_⟩; (focus (first | exact Nat.le_of_ble_eq_true rfl | (simp; done))); (conv => whnf)) | (rfl) | (omega) | (refine ⟨_, rfl, ?_⟩; conv => whnf) | (refine ifB_dec (fun _ => ?_) (fun _ => ?_) <;> conv => whnf) | (refine And.intro ?_ ?_ <;> conv => whnf))
 rw [if_neg h0]
 obtain ⟨f, rfl⟩ : ∃ f', f = f' + 1 := ⟨f - 1, by omega⟩
 have hi := hi f rfl
 obtain ⟨mp, hmp⟩ : ∃ mp, mp = decide (k = 6) := ⟨_, rfl⟩
 obtain ⟨items, hit⟩ : ∃ items : Nat, items = if k = 6 then 2 * N else N := ⟨_, rfl⟩
 rw [← hmp, ← hit]
 have hgo := rItem_go validR l f
 have hi' : ∀ a : Nat, a ≤ l.length → ACall Tryz.prog 91 [.ro l.length (toksC l), .int .i64 a, .int .i64 (6 - ((f + 1 : Nat) : Int) + 1)] (.agg (wkC (rItem validR l f a))) [] := by
  intro a h
  have := hi a (by omega)
  rwa [show (6 : Int) - (f : Int) = 6 - ((f + 1 : Nat) : Int) + 1 by omega] at this
 have hp4 := putL_short 4 (n := (N : Int)) (by omega)
 have hp5 := putL_short 5 (n := (N : Int)) (by omega)
 obtain ⟨R, hR⟩ : ∃ R, R = rLoop (rSub validR l (f + 1)) mp items 0 (at' + 1) (putL (k - 1) N) [] := ⟨_, rfl⟩
 rw [← hR]
 rcases hk with rfl | rfl
 ·have hmp : mp = false := hmp
  subst hmp
  have hit : items = N := hit
  conv => whnf
  repeat ((first | refine ifB_t ?_ | refine ifB_f ?_ | (refine ifB_neg (decide_eq_false (by first | omega | rfl | (dsimp only; omega))) ?_) | (refine fit_i64 ⟨by first | omega | rfl | (dsimp only; omega), by first | omega | rfl | (dsimp only; omega)⟩ ?_) | refine ⟨rfl, ?_⟩ | refine ⟨_, rfl, ?_⟩); conv => whnf)
  refine ⟨_, _, refHead_ok 4 N (by omega) (by omega) (by omega), by first | rfl | simp [noRoIf, noRoL, noRoV, noRoL_bys], ?_⟩
  conv => whnf
  repeat ((first | refine ifB_f ?_ | refine ⟨rfl, ?_⟩ | refine ⟨_, rfl, ?_⟩ | (refine ⟨⟨rfl, rfl, ?_⟩, ?_⟩; (focus (first | exact Nat.le_of_ble_eq_true rfl | (simp; done))))); conv => whnf)
  refine Does.loop (fun p : Nat × Nat × List Int × List Int => mkSt [(0, .ro l.length (toksC l)), (2, .int .i64 (6 - ((f + 1 : Nat) : Int))), (6, .ptr 0 0), (7, .ptr 1 0), (8, .ptr 2 0), (9, .int .i64 items), (10, .ptr 3 0), (11, .ro p.2.2.2.length (bys p.2.2.2)), (12, .int .i64 (p.1 : Int))]
   [(0, [.int .i64 0, .nil, .bool false]), (1, [.int .i64 0, .nil, .bool true]), (2, [.int .i64 5, .int .i64 N, .ro 0 []]), (3, [.int .i64 (p.2.1 : Int), .sl 4 0 p.2.2.1.length 1 false, .bool false]), (4, bys p.2.2.1)] 5 191)
   (fun p => p.1 ≤ items ∧ p.2.1 ≤ l.length ∧ p.2.2.1.length ≤ 32768 ∧ Byt p.2.2.2 ∧ rLoop (rItem validR l f) false (items - p.1) p.1 p.2.1 p.2.2.1 p.2.2.2 = R) (fun p => items - p.1) ?_ (0, at' + 1, putL 4 N, []) ⟨Nat.zero_le _, by simp only; omega, by simp only; omega, by simp [Byt], hR.symm⟩ ?_
  ·rintro ⟨i, a, bs, last⟩ ⟨p1, p2, p3, pb, p4⟩
   simp only at p1 p2 p3 pb p4
   refine wpc_sound (M := MC) (PL := PLrm) (CU := cutAt [100032]) TTok mixed _ _ _ ?_
   conv => whnf
   refine ifB_dec (fun j1 => ?_) (fun j1 => ?_)
   ·have c1 : i < items := by simp only at j1; omega
    obtain ⟨m, hm⟩ : ∃ m, items - i = m + 1 := ⟨items - i - 1, by omega⟩
    rw [hm] at p4
    unfold rLoop at p4
    have hx := hi' a p2
    cases hr : rItem validR l f a with
    | none =>
     rw [hr] at p4 hx
     simp only at p4
     rw [← p4]
     conv => whnf
     repeat ((first | (refine fit_i64 ⟨by first | omega | rfl | (dsimp only; omega), by first | omega | rfl | (dsimp only; omega)⟩ ?_) | refine ⟨rfl, ?_⟩ | refine ⟨_, rfl, ?_⟩ | (refine And.intro (by first | omega | rfl | (dsimp only; omega)) ?_)); conv => whnf)
     refine ⟨_, _, hx, by first | rfl | simp [noRoIf, noRoL, noRoV, noRoL_bys], ?_⟩
     conv => whnf
     repeat ((first | refine ⟨rfl, ?_⟩ | (refine ⟨⟨rfl, rfl, ?_⟩, ?_⟩; (focus (first | exact Nat.le_of_ble_eq_true rfl | (simp; done))))); conv => whnf)
     refine wpc_sound (M := MC) (PL := PLrm) (CU := noCut) TTok mixed _ _ _ ?_
     conv => whnf
     repeat ((first | refine ifB_t ?_ | refine ⟨rfl, ?_⟩ | refine ⟨_, rfl, ?_⟩ | refine ⟨⟨rfl, rfl⟩, ?_⟩ | (refine ⟨⟨rfl, rfl, ?_⟩, ?_⟩; (focus (first | exact Nat.le_of_ble_eq_true rfl | (simp; done))))); conv => whnf)
     rfl
    | some r =>
     obtain ⟨a', x⟩ := r
     obtain ⟨g1, g2, g3⟩ := hgo _ _ _ hr
     have xl := rItem_len hlb hr
     rw [hr] at p4 hx
     simp only at p4
     simp only [wkC] at hx
     conv => whnf
     repeat ((first | (refine fit_i64 ⟨by first | omega | rfl | (dsimp only; omega), by first | omega | rfl | (dsimp only; omega)⟩ ?_) | refine ⟨rfl, ?_⟩ | refine ⟨_, rfl, ?_⟩ | (refine And.intro (by first | omega | rfl | (dsimp only; omega)) ?_)); conv => whnf)
     refine ⟨_, _, hx, by first | rfl | simp [noRoIf, noRoL, noRoV, noRoL_bys], ?_⟩
     conv => whnf
     repeat ((first | refine ⟨rfl, ?_⟩ | (refine ⟨⟨rfl, rfl, ?_⟩, ?_⟩; (focus (first | exact Nat.le_of_ble_eq_true rfl | (simp; done))))); conv => whnf)
     refine Does.freeze 5 rfl (Does.weakerTo' (env := [(0, .ro l.length (toksC l)), (2, .int .i64 (6 - ((f + 1 : Nat) : Int))), (6, .ptr 0 0), (7, .ptr 1 0), (8, .ptr 2 0), (9, .int .i64 items), (10, .ptr 3 0), (11, .ro last.length (bys last)), (12, .int .i64 (i : Int)), (13, .ptr 5 0)])
      (heap := [(0, [.int .i64 0, .nil, .bool false]), (1, [.int .i64 0, .nil, .bool true]), (2, [.int .i64 5, .int .i64 N, .ro 0 []]), (3, [.int .i64 (a : Int), .sl 4 0 bs.length 1 false, .bool false]), (4, bys bs), (5, [.int .i64 a', .ro x.length (bys x), .bool false])]) (nx := 6) (n := 191) [(0, 0), (1, 1), (2, 2), (3, 3), (4, 4), (5, 6)] rfl rfl ?_ ?_ ?_)
     ·exact ⟨⟨rfl, rfl, hL⟩, ⟨rfl, rfl⟩, ⟨rfl, rfl⟩, ⟨rfl, rfl⟩, ⟨rfl, rfl⟩, ⟨rfl, rfl⟩, ⟨rfl, rfl⟩, ⟨rfl, rfl, pureL_bys _⟩, ⟨rfl, rfl⟩, ⟨rfl, rfl⟩, trivial⟩
     ·exact ⟨⟨⟨rfl, rfl⟩, trivial, rfl, trivial⟩, ⟨⟨rfl, rfl⟩, trivial, rfl, trivial⟩, ⟨⟨rfl, rfl⟩, ⟨rfl, rfl⟩, ⟨rfl, rfl, rfl⟩, trivial⟩, ⟨⟨rfl, rfl⟩, ⟨rfl, rfl, rfl, rfl, id⟩, rfl, trivial⟩, lesP_bys (frzL_bys _), ⟨⟨rfl, rfl⟩, ⟨rfl, whole_bys _, pureL_bys _⟩, rfl, trivial⟩, trivial⟩
     refine wpc_sound (M := MC) (PL := PLrm) (CU := noCut) TTok mixed _ _ _ ?_
     conv => whnf
     repeat ((first | refine ifB_f ?_ | (refine fit_i64 ⟨by first | omega | rfl | (dsimp only; omega), by first | omega | rfl | (dsimp only; omega)⟩ ?_) | refine ⟨_, rfl, ?_⟩); conv => whnf)
     refine ifB_dec (fun j2 => ?_) (fun j2 => ?_)
     ·rw [if_pos (by omega)] at p4
      rw [← p4]
      conv => whnf
      repeat ((first | refine ⟨rfl, ?_⟩ | refine ⟨_, rfl, ?_⟩ | refine ⟨⟨rfl, rfl⟩, ?_⟩ | (refine ⟨⟨rfl, rfl, ?_⟩, ?_⟩; (focus (first | exact Nat.le_of_ble_eq_true rfl | (simp; done))))); conv => whnf)
      rfl
     rw [if_neg (by omega)] at p4
     have xb := rItem_byt hl hr (by omega)
     rw [if_neg (by simp)] at p4
     have p5 := p4
     conv => whnf
     repeat ((first | refine ifB_f ?_ | refine ⟨_, rfl, ?_⟩); conv => whnf)
     refine ⟨by kernel_rfl, ?_⟩
     conv => whnf
     repeat' (first | (refine fit_i64 ⟨by first | omega | rfl | (dsimp only; omega), by first | omega | rfl | (dsimp only; omega)⟩ ?_; (conv => whnf)) | (refine ⟨ones_bys _, ?_⟩; (conv => whnf)) | (refine ⟨⟨rfl, rfl, ?_⟩, ?_⟩; (focus (first | exact Nat.le_of_ble_eq_true rfl | (simp; done))); (conv => whnf)) | (refine ⟨⟨rfl, rfl, ?_, ?_⟩, ?_⟩; (focus (first | (simp [lenB, offB]; done) | (simp [lenB, offB]; omega))); (focus (first | (simp [limB, lenB, offB]; done) | (simp [limB, lenB, offB]; omega))); (conv => whnf)) | (refine And.intro ?_ ?_; (focus (first | (simp [limB, lenB, offB]; done) | (simp [limB, lenB, offB]; omega))); (conv => whnf)) | (exact ⟨(i + 1, a', bs ++ x, last), ⟨by omega, g2, by simp; omega, pb, by rw [show items - (i + 1) = m by omega]; exact p5⟩, by simp only; omega, weaker_of [(0, 0), (1, 1), (2, 2), (3, 3), (4, 6)] rfl rfl ⟨⟨rfl, rfl, hL⟩, ⟨rfl, rfl⟩, ⟨rfl, rfl⟩, ⟨rfl, rfl⟩, ⟨rfl, rfl⟩, ⟨rfl, rfl⟩, ⟨rfl, rfl⟩, ⟨rfl, rfl, pureL_bys _⟩, ⟨rfl, rfl⟩, trivial⟩ ⟨⟨⟨rfl, rfl⟩, trivial, rfl, trivial⟩, ⟨⟨rfl, rfl⟩, trivial, rfl, trivial⟩, ⟨⟨rfl, rfl⟩, ⟨rfl, rfl⟩, ⟨rfl, rfl, rfl⟩, trivial⟩, ⟨⟨rfl, rfl⟩, ⟨rfl, by simp, by simp, rfl, id⟩, rfl, trivial⟩, lesP_bys (by rw [bys_append]), trivial⟩⟩) | (refine ⟨_, rfl, ?_⟩; conv => whnf) | (refine And.intro ?_ ?_ <;> conv => whnf))
   ·have : items - i = 0 := by simp only at j1; omega
    rw [this] at p4
    simp only [rLoop] at p4
    rw [← p4]
    conv => whnf
    repeat ((first | refine ⟨rfl, ?_⟩ | refine ⟨_, rfl, ?_⟩ | refine ⟨⟨rfl, rfl⟩, ?_⟩ | (refine ⟨⟨rfl, rfl, rfl, ?_, pureL_bys _⟩, ?_⟩; (focus (simp; done))) | (refine ⟨⟨rfl, rfl, ?_⟩, ?_⟩; (focus (first | exact Nat.le_of_ble_eq_true rfl | (simp; done))))); conv => whnf)
    rfl
  ·refine weaker_of [(0, 0), (1, 1), (2, 2), (3, 4), (4, 3)] rfl rfl ⟨⟨rfl, rfl, hL⟩, ⟨rfl, rfl⟩, ⟨rfl, rfl⟩, ⟨rfl, rfl⟩, ⟨rfl, rfl⟩, ⟨rfl, by omega⟩, ⟨rfl, rfl⟩, ⟨rfl, rfl⟩, ⟨rfl, rfl⟩, trivial⟩ ⟨⟨⟨rfl, rfl⟩, trivial, rfl, trivial⟩, ⟨⟨rfl, rfl⟩, trivial, rfl, trivial⟩, ⟨⟨rfl, rfl⟩, ⟨rfl, rfl⟩, ⟨rfl, rfl, rfl⟩, trivial⟩, ⟨⟨rfl, rfl⟩, ⟨rfl, rfl, rfl, rfl, id⟩, rfl, trivial⟩, lesP_bys rfl, trivial⟩
 ·have hmp : mp = true := hmp
  subst hmp
  have hit : items = 2 * N := hit
  conv => whnf
  repeat ((first | refine ifB_t ?_ | refine ifB_f ?_ | (refine ifB_neg (decide_eq_false (by first | omega | rfl | (dsimp only; omega))) ?_) | (refine fit_i64 ⟨by first | omega | rfl | (dsimp only; omega), by first | omega | rfl | (dsimp only; omega)⟩ ?_) | refine ⟨rfl, ?_⟩ | refine ⟨_, rfl, ?_⟩); conv => whnf)
  refine ⟨_, _, refHead_ok 4 N (by omega) (by omega) (by omega), by first | rfl | simp [noRoIf, noRoL, noRoV, noRoL_bys], ?_⟩
  conv => whnf
  repeat ((first | refine ifB_t ?_ | (refine fit_i64 ⟨by first | omega | rfl | (dsimp only; omega), by first | omega | rfl | (dsimp only; omega)⟩ ?_) | refine ⟨rfl, ?_⟩ | refine ⟨_, rfl, ?_⟩ | (refine ⟨⟨rfl, rfl, ?_⟩, ?_⟩; (focus (first | exact Nat.le_of_ble_eq_true rfl | (simp; done))))); conv => whnf)
  refine ⟨_, _, refHead_ok 5 N (by omega) (by omega) (by omega), by first | rfl | simp [noRoIf, noRoL, noRoV, noRoL_bys], ?_⟩
  conv => whnf
  repeat ((refine ⟨⟨rfl, rfl, ?_⟩, ?_⟩; (focus (first | exact Nat.le_of_ble_eq_true rfl | (simp; done)))); conv => whnf)
  refine Does.loop (fun p : Nat × Nat × List Int × List Int => mkSt [(0, .ro l.length (toksC l)), (2, .int .i64 (6 - ((f + 1 : Nat) : Int))), (6, .ptr 0 0), (7, .ptr 1 0), (8, .ptr 2 0), (9, .int .i64 items), (10, .ptr 3 0), (11, .ro p.2.2.2.length (bys p.2.2.2)), (12, .int .i64 (p.1 : Int))]
   [(0, [.int .i64 0, .nil, .bool false]), (1, [.int .i64 0, .nil, .bool true]), (2, [.int .i64 6, .int .i64 N, .ro 0 []]), (3, [.int .i64 (p.2.1 : Int), .sl 4 0 p.2.2.1.length 1 false, .bool false]), (4, bys p.2.2.1)] 5 191)
   (fun p => p.1 ≤ items ∧ p.2.1 ≤ l.length ∧ p.2.2.1.length ≤ 32768 ∧ Byt p.2.2.2 ∧ rLoop (rItem validR l f) true (items - p.1) p.1 p.2.1 p.2.2.1 p.2.2.2 = R) (fun p => items - p.1) ?_ (0, at' + 1, putL 5 N, []) ⟨Nat.zero_le _, by simp only; omega, by simp only; omega, by simp [Byt], hR.symm⟩ ?_
  ·rintro ⟨i, a, bs, last⟩ ⟨p1, p2, p3, pb, p4⟩
   simp only at p1 p2 p3 pb p4
   refine wpc_sound (M := MC) (PL := PLrm) (CU := cutAt [100032]) TTok mixed _ _ _ ?_
   conv => whnf
   refine ifB_dec (fun j1 => ?_) (fun j1 => ?_)
   ·have c1 : i < items := by simp only at j1; omega
    obtain ⟨m, hm⟩ : ∃ m, items - i = m + 1 := ⟨items - i - 1, by omega⟩
    rw [hm] at p4
    unfold rLoop at p4
    have hx := hi' a p2
    cases hr : rItem validR l f a with
    | none =>
     rw [hr] at p4 hx
     simp only at p4
     rw [← p4]
     conv => whnf
     repeat ((first | (refine fit_i64 ⟨by first | omega | rfl | (dsimp only; omega), by first | omega | rfl | (dsimp only; omega)⟩ ?_) | refine ⟨rfl, ?_⟩ | refine ⟨_, rfl, ?_⟩ | (refine And.intro (by first | omega | rfl | (dsimp only; omega)) ?_)); conv => whnf)
     refine ⟨_, _, hx, by first | rfl | simp [noRoIf, noRoL, noRoV, noRoL_bys], ?_⟩
     conv => whnf
     repeat ((first | refine ⟨rfl, ?_⟩ | (refine ⟨⟨rfl, rfl, ?_⟩, ?_⟩; (focus (first | exact Nat.le_of_ble_eq_true rfl | (simp; done))))); conv => whnf)
     refine wpc_sound (M := MC) (PL := PLrm) (CU := noCut) TTok mixed _ _ _ ?_
     conv => whnf
     repeat ((first | refine ifB_t ?_ | refine ⟨rfl, ?_⟩ | refine ⟨_, rfl, ?_⟩ | refine ⟨⟨rfl, rfl⟩, ?_⟩ | (refine ⟨⟨rfl, rfl, ?_⟩, ?_⟩; (focus (first | exact Nat.le_of_ble_eq_true rfl | (simp; done))))); conv => whnf)
     rfl
    | some r =>
     obtain ⟨a', x⟩ := r
     obtain ⟨g1, g2, g3⟩ := hgo _ _ _ hr
     have xl := rItem_len hlb hr
     rw [hr] at p4 hx
     simp only at p4
     simp only [wkC] at hx
     conv => whnf
     repeat ((first | (refine fit_i64 ⟨by first | omega | rfl | (dsimp only; omega), by first | omega | rfl | (dsimp only; omega)⟩ ?_) | refine ⟨rfl, ?_⟩ | refine ⟨_, rfl, ?_⟩ | (refine And.intro (by first | omega | rfl | (dsimp only; omega)) ?_)); conv => whnf)
     refine ⟨_, _, hx, by first | rfl | simp [noRoIf, noRoL, noRoV, noRoL_bys], ?_⟩
     conv => whnf
     repeat ((first | refine ⟨rfl, ?_⟩ | (refine ⟨⟨rfl, rfl, ?_⟩, ?_⟩; (focus (first | exact Nat.le_of_ble_eq_true rfl | (simp; done))))); conv => whnf)
     refine Does.freeze 5 rfl (Does.weakerTo' (env := [(0, .ro l.length (toksC l)), (2, .int .i64 (6 - ((f + 1 : Nat) : Int))), (6, .ptr 0 0), (7, .ptr 1 0), (8, .ptr 2 0), (9, .int .i64 items), (10, .ptr 3 0), (11, .ro last.length (bys last)), (12, .int .i64 (i : Int)), (13, .ptr 5 0)])
      (heap := [(0, [.int .i64 0, .nil, .bool false]), (1, [.int .i64 0, .nil, .bool true]), (2, [.int .i64 6, .int .i64 N, .ro 0 []]), (3, [.int .i64 (a : Int), .sl 4 0 bs.length 1 false, .bool false]), (4, bys bs), (5, [.int .i64 a', .ro x.length (bys x), .bool false])]) (nx := 6) (n := 191) [(0, 0), (1, 1), (2, 2), (3, 3), (4, 4), (5, 6)] rfl rfl ?_ ?_ ?_)
     ·exact ⟨⟨rfl, rfl, hL⟩, ⟨rfl, rfl⟩, ⟨rfl, rfl⟩, ⟨rfl, rfl⟩, ⟨rfl, rfl⟩, ⟨rfl, rfl⟩, ⟨rfl, rfl⟩, ⟨rfl, rfl, pureL_bys _⟩, ⟨rfl, rfl⟩, ⟨rfl, rfl⟩, trivial⟩
     ·exact ⟨⟨⟨rfl, rfl⟩, trivial, rfl, trivial⟩, ⟨⟨rfl, rfl⟩, trivial, rfl, trivial⟩, ⟨⟨rfl, rfl⟩, ⟨rfl, rfl⟩, ⟨rfl, rfl, rfl⟩, trivial⟩, ⟨⟨rfl, rfl⟩, ⟨rfl, rfl, rfl, rfl, id⟩, rfl, trivial⟩, lesP_bys (frzL_bys _), ⟨⟨rfl, rfl⟩, ⟨rfl, whole_bys _, pureL_bys _⟩, rfl, trivial⟩, trivial⟩
     refine wpc_sound (M := MC) (PL := PLrm) (CU := noCut) TTok mixed _ _ _ ?_
     conv => whnf
     repeat ((first | refine ifB_f ?_ | (refine fit_i64 ⟨by first | omega | rfl | (dsimp only; omega), by first | omega | rfl | (dsimp only; omega)⟩ ?_) | refine ⟨_, rfl, ?_⟩); conv => whnf)
     refine ifB_dec (fun j2 => ?_) (fun j2 => ?_)
     ·rw [if_pos (by omega)] at p4
      rw [← p4]
      conv => whnf
      repeat ((first | refine ⟨rfl, ?_⟩ | refine ⟨_, rfl, ?_⟩ | refine ⟨⟨rfl, rfl⟩, ?_⟩ | (refine ⟨⟨rfl, rfl, ?_⟩, ?_⟩; (focus (first | exact Nat.le_of_ble_eq_true rfl | (simp; done))))); conv => whnf)
      rfl
     rw [if_neg (by omega)] at p4
     have xb := rItem_byt hl hr (by omega)
     have tm : (i : Int).tmod 2 = (i : Int) % 2 := Int.tmod_eq_emod_of_nonneg (by omega)
     conv => whnf
     repeat ((first | refine ifB_t ?_ | refine ⟨_, rfl, ?_⟩ | (refine And.intro (by first | omega | rfl | (dsimp only; omega)) ?_)); conv => whnf)
     rw [tm]
     refine ifB_dec (fun j3 => ?_) (fun j3 => ?_)
     ·rw [if_pos ⟨trivial, by omega⟩] at p4
      conv => whnf
      refine ifB_dec (fun j4 => ?_) (fun j4 => ?_)
      ·conv => whnf
       repeat ((first | refine ifB_t ?_ | refine ⟨_, rfl, ?_⟩ | (refine And.intro ?_ ?_; (focus (first | (simp [limB, lenB, offB]; done) | (simp [limB, lenB, offB]; omega))))); conv => whnf)
       refine ⟨x, ⟨rfl, xb⟩, ?_⟩
       conv => whnf
       repeat ((first | refine ifB_t ?_ | (refine And.intro ?_ ?_; (focus (first | (simp [limB, lenB, offB]; done) | (simp [limB, lenB, offB]; omega))))); conv => whnf)
       refine ⟨last, ⟨rfl, pb⟩, ?_⟩
       conv => whnf
       repeat ((refine ifB_t ?_); conv => whnf)
       refine ifB_bool (fun hc => ?_) (fun hc => ?_)
       ·rw [if_pos ⟨by omega, hc⟩] at p4
        rw [← p4]
        conv => whnf
        repeat ((first | refine ⟨rfl, ?_⟩ | refine ⟨_, rfl, ?_⟩ | refine ⟨⟨rfl, rfl⟩, ?_⟩ | (refine ⟨⟨rfl, rfl, ?_⟩, ?_⟩; (focus (first | exact Nat.le_of_ble_eq_true rfl | (simp; done))))); conv => whnf)
        rfl
       ·rw [if_neg (fun h => by rw [hc] at h; simp at h)] at p4
        have p5 := p4
        conv => whnf
        repeat ((refine ⟨_, rfl, ?_⟩); conv => whnf)
        refine ⟨by kernel_rfl, ?_⟩
        conv => whnf
        repeat' (first | (refine fit_i64 ⟨by first | omega | rfl | (dsimp only; omega), by first | omega | rfl | (dsimp only; omega)⟩ ?_; (conv => whnf)) | (refine ⟨ones_bys _, ?_⟩; (conv => whnf)) | (refine ⟨⟨rfl, rfl, ?_⟩, ?_⟩; (focus (first | exact Nat.le_of_ble_eq_true rfl | (simp; done))); (conv => whnf)) | (refine ⟨⟨rfl, rfl, ?_, ?_⟩, ?_⟩; (focus (first | (simp [lenB, offB]; done) | (simp [lenB, offB]; omega))); (focus (first | (simp [limB, lenB, offB]; done) | (simp [limB, lenB, offB]; omega))); (conv => whnf)) | (refine And.intro ?_ ?_; (focus (first | (simp [limB, lenB, offB]; done) | (simp [limB, lenB, offB]; omega))); (conv => whnf)) | (exact ⟨(i + 1, a', bs ++ x, x), ⟨by omega, g2, by simp; omega, xb, by rw [show items - (i + 1) = m by omega]; exact p5⟩, by simp only; omega, weaker_of [(0, 0), (1, 1), (2, 2), (3, 3), (4, 6)] rfl rfl ⟨⟨rfl, rfl, hL⟩, ⟨rfl, rfl⟩, ⟨rfl, rfl⟩, ⟨rfl, rfl⟩, ⟨rfl, rfl⟩, ⟨rfl, rfl⟩, ⟨rfl, rfl⟩, ⟨rfl, rfl, pureL_bys _⟩, ⟨rfl, rfl⟩, trivial⟩ ⟨⟨⟨rfl, rfl⟩, trivial, rfl, trivial⟩, ⟨⟨rfl, rfl⟩, trivial, rfl, trivial⟩, ⟨⟨rfl, rfl⟩, ⟨rfl, rfl⟩, ⟨rfl, rfl, rfl⟩, trivial⟩, ⟨⟨rfl, rfl⟩, ⟨rfl, by simp, by simp, rfl, id⟩, rfl, trivial⟩, lesP_bys (by rw [bys_append]), trivial⟩⟩) | (refine ⟨_, rfl, ?_⟩; conv => whnf) | (refine And.intro ?_ ?_ <;> conv => whnf))
      ·rw [if_neg (by omega)] at p4
       have p5 := p4
       conv => whnf
       repeat ((first | refine ifB_f ?_ | refine ⟨_, rfl, ?_⟩); conv => whnf)
       refine ⟨by kernel_rfl, ?_⟩
       conv => whnf
       repeat' (first | (refine fit_i64 ⟨by first | omega | rfl | (dsimp only; omega), by first | omega | rfl | (dsimp only; omega)⟩ ?_; (conv => whnf)) | (refine ⟨ones_bys _, ?_⟩; (conv => whnf)) | (refine ⟨⟨rfl, rfl, ?_⟩, ?_⟩; (focus (first | exact Nat.le_of_ble_eq_true rfl | (simp; done))); (conv => whnf)) | (refine ⟨⟨rfl, rfl, ?_, ?_⟩, ?_⟩; (focus (first | (simp [lenB, offB]; done) | (simp [lenB, offB]; omega))); (focus (first | (simp [limB, lenB, offB]; done) | (simp [limB, lenB, offB]; omega))); (conv => whnf)) | (refine And.intro ?_ ?_; (focus (first | (simp [limB, lenB, offB]; done) | (simp [limB, lenB, offB]; omega))); (conv => whnf)) | (exact ⟨(i + 1, a', bs ++ x, x), ⟨by omega, g2, by simp; omega, xb, by rw [show items - (i + 1) = m by omega]; exact p5⟩, by simp only; omega, weaker_of [(0, 0), (1, 1), (2, 2), (3, 3), (4, 6)] rfl rfl ⟨⟨rfl, rfl, hL⟩, ⟨rfl, rfl⟩, ⟨rfl, rfl⟩, ⟨rfl, rfl⟩, ⟨rfl, rfl⟩, ⟨rfl, rfl⟩, ⟨rfl, rfl⟩, ⟨rfl, rfl, pureL_bys _⟩, ⟨rfl, rfl⟩, trivial⟩ ⟨⟨⟨rfl, rfl⟩, trivial, rfl, trivial⟩, ⟨⟨rfl, rfl⟩, trivial, rfl, trivial⟩, ⟨⟨rfl, rfl⟩, ⟨rfl, rfl⟩, ⟨rfl, rfl, rfl⟩, trivial⟩, ⟨⟨rfl, rfl⟩, ⟨rfl, by simp, by simp, rfl, id⟩, rfl, trivial⟩, lesP_bys (by rw [bys_append]), trivial⟩⟩) | (refine ⟨_, rfl, ?_⟩; conv => whnf) | (refine And.intro ?_ ?_ <;> conv => whnf))
     ·rw [if_neg (by omega)] at p4
      have p5 := p4
      conv => whnf
      refine ⟨by kernel_rfl, ?_⟩
      conv => whnf
      repeat' (first | (refine fit_i64 ⟨by first | omega | rfl | (dsimp only; omega), by first | omega | rfl | (dsimp only; omega)⟩ ?_; (conv => whnf)) | (refine ⟨ones_bys _, ?_⟩; (conv => whnf)) | (refine ⟨⟨rfl, rfl, ?_⟩, ?_⟩; (focus (first | exact Nat.le_of_ble_eq_true rfl | (simp; done))); (conv => whnf)) | (refine ⟨⟨rfl, rfl, ?_, ?_⟩, ?_⟩; (focus (first | (simp [lenB, offB]; done) | (simp [lenB, offB]; omega))); (focus (first | (simp [limB, lenB, offB]; done) | (simp [limB, lenB, offB]; omega))); (conv => whnf)) | (refine And.intro ?_ ?_; (focus (first | (simp [limB, lenB, offB]; done) | (simp [limB, lenB, offB]; omega))); (conv => whnf)) | (exact ⟨(i + 1, a', bs ++ x, last), ⟨by omega, g2, by simp; omega, pb, by rw [show items - (i + 1) = m by omega]; exact p5⟩, by simp only; omega, weaker_of [(0, 0), (1, 1), (2, 2), (3, 3), (4, 6)] rfl rfl ⟨⟨rfl, rfl, hL⟩, ⟨rfl, rfl⟩, ⟨rfl, rfl⟩, ⟨rfl, rfl⟩, ⟨rfl, rfl⟩, ⟨rfl, rfl⟩, ⟨rfl, rfl⟩, ⟨rfl, rfl, pureL_bys _⟩, ⟨rfl, rfl⟩, trivial⟩ ⟨⟨⟨rfl, rfl⟩, trivial, rfl, trivial⟩, ⟨⟨rfl, rfl⟩, trivial, rfl, trivial⟩, ⟨⟨rfl, rfl⟩, ⟨rfl, rfl⟩, ⟨rfl, rfl, rfl⟩, trivial⟩, ⟨⟨rfl, rfl⟩, ⟨rfl, by simp, by simp, rfl, id⟩, rfl, trivial⟩, lesP_bys (by rw [bys_append]), trivial⟩⟩) | (refine ⟨_, rfl, ?_⟩; conv => whnf) | (refine And.intro ?_ ?_ <;> conv => whnf))
   ·have : items - i = 0 := by simp only at j1; omega
    rw [this] at p4
    simp only [rLoop] at p4
    rw [← p4]
    conv => whnf
    repeat ((first | refine ⟨rfl, ?_⟩ | refine ⟨_, rfl, ?_⟩ | refine ⟨⟨rfl, rfl⟩, ?_⟩ | (refine ⟨⟨rfl, rfl, rfl, ?_, pureL_bys _⟩, ?_⟩; (focus (simp; done))) | (refine ⟨⟨rfl, rfl, ?_⟩, ?_⟩; (focus (first | exact Nat.le_of_ble_eq_true rfl | (simp; done))))); conv => whnf)
    rfl
  ·refine weaker_of [(0, 0), (1, 1), (2, 2), (3, 4), (4, 5)] rfl rfl ⟨⟨rfl, rfl, hL⟩, ⟨rfl, rfl⟩, ⟨rfl, rfl⟩, ⟨rfl, rfl⟩, ⟨rfl, rfl⟩, ⟨rfl, by omega⟩, ⟨rfl, rfl⟩, ⟨rfl, rfl⟩, ⟨rfl, rfl⟩, trivial⟩ ⟨⟨⟨rfl, rfl⟩, trivial, rfl, trivial⟩, ⟨⟨rfl, rfl⟩, trivial, rfl, trivial⟩, ⟨⟨rfl, rfl⟩, ⟨rfl, rfl⟩, ⟨rfl, rfl, rfl⟩, trivial⟩, ⟨⟨rfl, rfl⟩, ⟨rfl, rfl, rfl, rfl, id⟩, rfl, trivial⟩, lesP_bys rfl, trivial⟩
end
section

attribute [local irreducible] ifB fitP Does Weaker
theorem ritem_ok (l : List Tok) (hl : ToksOk l) (hlb : ∀ t ∈ l, t.b.length ≤ 1099511627776) (hll : l.length ≤ 1000000) : ∀ f : Nat, f ≤ 6 → RItemOk l f
 | f, hf => by
  intro at' ha
  by_cases h : at' < l.length
  ·refine ritem_at l hl hlb hll at' h f hf (fun hk hb => ritem_many l hl hlb hll at' h f hf (fun f' hf' => ?_) hk hb)
   subst hf'
   exact ritem_ok l hl hlb hll f' (by omega)
  ·rw [rItem_none _ _ _ _ (by omega)]
   exact ritem_none l f hll at' (by omega) _
theorem refEncode_ok (l : List Tok) (hl : ToksOk l) (hlb : ∀ t ∈ l, t.b.length ≤ 1099511627776) : ACall Tryz.prog 69 [.ro l.length (toksC l)]
  (.tuple [.own (encR validR l).1.length 1 (bys (encR validR l).1), .bool (decide ((encR validR l).2 = 0))]) [] := by
 have hL := pureL_toks l
 have no : (∀ a, encR validR l ≠ (a, 0)) → encR validR l = ([], 1) := fun h => (encR_or validR l).resolve_right (fun ⟨a, e⟩ => h a e)
 refine ACall.of_does TTok Tryz.func69 rfl Tryz.call69 rfl (wpc_sound (M := MC) (PL := PL0) (CU := noCut) TTok mixed _ _ _ ?_)
 conv => whnf
 refine ifB_dec (fun k1 => ?_) (fun k1 => ?_)
 ·rw [no (fun a h => by have := (encR_iff _ _ _).1 h; omega)]
  conv => whnf
  repeat ((first | refine ⟨rfl, ?_⟩ | refine ⟨⟨rfl, rfl⟩, ?_⟩); conv => whnf)
  rfl
 have hi := ritem_ok l hl hlb (by omega) 6 (by omega) 0 (by omega)
 replace hi : ACall Tryz.prog 91 [.ro l.length (toksC l), .int .i64 0, .int .i64 0] (.agg (wkC (rItem validR l 6 0))) [] := hi
 cases hr : rItem validR l 6 0 with
 | none =>
  rw [no (fun a h => by have := (encR_iff _ _ _).1 h; rw [hr] at this; simp at this)]
  rw [hr] at hi
  conv => whnf
  repeat ((first | refine ⟨rfl, ?_⟩ | (refine And.intro (by first | omega | rfl | (dsimp only; omega)) ?_)); conv => whnf)
  refine ⟨_, _, hi, by first | rfl | simp [noRoIf, noRoL, noRoV, noRoL_bys], ?_⟩
  conv => whnf
  repeat ((first | refine ifB_t ?_ | refine ⟨rfl, ?_⟩ | refine ⟨_, rfl, ?_⟩ | refine ⟨⟨rfl, rfl⟩, ?_⟩ | (refine ⟨⟨rfl, rfl, ?_⟩, ?_⟩; (focus (first | exact Nat.le_of_ble_eq_true rfl | (simp; done))))); conv => whnf)
  rfl
 | some r =>
  obtain ⟨a, bs⟩ := r
  rw [hr] at hi
  simp only [wkC] at hi
  have hlen := rItem_len hlb hr
  conv => whnf
  repeat ((first | refine ⟨rfl, ?_⟩ | (refine And.intro (by first | omega | rfl | (dsimp only; omega)) ?_)); conv => whnf)
  refine ⟨_, _, hi, by first | rfl | simp [noRoIf, noRoL, noRoV, noRoL_bys], ?_⟩
  conv => whnf
  repeat ((first | refine ifB_f ?_ | refine ⟨rfl, ?_⟩ | refine ⟨_, rfl, ?_⟩ | (refine ⟨⟨rfl, rfl, ?_⟩, ?_⟩; (focus (first | exact Nat.le_of_ble_eq_true rfl | (simp; done))))); conv => whnf)
  refine ifB_dec (fun k2 => ?_) (fun k2 => ?_)
  ·rw [no (fun a h => by have := (encR_iff _ _ _).1 h; rw [hr] at this; simp at this; omega)]
   conv => whnf
   repeat ((first | refine ifB_t ?_ | refine ⟨rfl, ?_⟩ | refine ⟨⟨rfl, rfl⟩, ?_⟩); conv => whnf)
   rfl
  conv => whnf
  repeat ((first | refine ifB_f ?_ | refine ⟨_, rfl, ?_⟩); conv => whnf)
  refine ifB_dec (fun k3 => ?_) (fun k3 => ?_)
  ·rw [no (fun a h => by have := (encR_iff _ _ _).1 h; rw [hr] at this; simp at this; obtain ⟨_, ⟨_, rfl⟩, _⟩ := this; omega)]
   conv => whnf
   repeat ((first | refine ⟨rfl, ?_⟩ | refine ⟨⟨rfl, rfl⟩, ?_⟩); conv => whnf)
   rfl
  rw [(encR_iff validR l bs).2 ⟨by omega, by rw [hr, show a = l.length by omega], by omega⟩]
  conv => whnf
  repeat ((first | refine ⟨rfl, ?_⟩ | refine ⟨_, rfl, ?_⟩ | (refine ⟨⟨rfl, rfl, rfl, ?_, pureL_bys _⟩, ?_⟩; (focus (simp; done)))); conv => whnf)
  rfl
end
section

def tBad (b : List Int) (at' : Nat) (l : List Tok) : Prop := (getR b at').2.2.2 ≠ 0 ∨ 600 ≤ l.length
instance (b : List Int) (at' : Nat) (l : List Tok) : Decidable (tBad b at' l) := by unfold tBad; infer_instance
end
section

attribute [local irreducible] ifB fitP Does Weaker
end
section

attribute [local irreducible] ifB fitP Does Weaker
end
section

attribute [local irreducible] ifB fitP Does Weaker
def orElse : List (Nat × List Mode) → (FuncId → List Mode) → FuncId → List Mode
 | [], o, g => o g
 | (f, m) :: r, o, g => cond (Nat.beq g f) m (orElse r o g)
def rowM : Mode := .rf [.rd, .rd]
def MR : FuncId → List Mode := orElse [(89, [rowM, .rd]), (60, [rowM]), (64, [rowM]), (62, [rowM]), (61, [rowM]), (59, [rowM]),
 (65, [rowM]), (66, [rowM]), (58, [rowM, .rd, .rd]), (57, [.rd]), (107, [.rd]), (106, [.rd]), (108, [.rd]), (109, [.rd])] MC
theorem num_ok (n : Int) : ACall Tryz.prog 107 [.int .i64 n] (.agg (tokC ⟨1, n, []⟩)) [] := by
 refine ACall.of_does TTok Tryz.func107 rfl Tryz.call107 rfl (wpc_sound (M := MR) (PL := PL0) (CU := noCut) TTok mixed _ _ _ ?_)
 conv => whnf
 repeat ((first | refine ⟨rfl, ?_⟩ | refine ⟨_, rfl, ?_⟩ | refine ⟨⟨rfl, rfl⟩, ?_⟩ | (refine ⟨⟨rfl, rfl, ?_⟩, ?_⟩; (focus (first | exact Nat.le_of_ble_eq_true rfl | (simp; done))))); conv => whnf)
 rfl
theorem list_ok (n : Int) : ACall Tryz.prog 106 [.int .i64 n] (.agg (tokC ⟨5, n, []⟩)) [] := by
 refine ACall.of_does TTok Tryz.func106 rfl Tryz.call106 rfl (wpc_sound (M := MR) (PL := PL0) (CU := noCut) TTok mixed _ _ _ ?_)
 conv => whnf
 repeat ((first | refine ⟨rfl, ?_⟩ | refine ⟨_, rfl, ?_⟩ | refine ⟨⟨rfl, rfl⟩, ?_⟩ | (refine ⟨⟨rfl, rfl, ?_⟩, ?_⟩; (focus (first | exact Nat.le_of_ble_eq_true rfl | (simp; done))))); conv => whnf)
 rfl
theorem cstr_ok (b : List Int) : ACall Tryz.prog 108 [.ro b.length (bys b)] (.agg (tokC ⟨3, 0, b⟩)) [] := by
 refine ACall.of_does TTok Tryz.func108 rfl Tryz.call108 rfl (wpc_sound (M := MR) (PL := PL0) (CU := noCut) TTok mixed _ _ _ ?_)
 conv => whnf
 repeat ((first | refine ⟨rfl, ?_⟩ | refine ⟨_, rfl, ?_⟩ | refine ⟨⟨rfl, rfl⟩, ?_⟩ | (refine ⟨⟨rfl, rfl, ?_⟩, ?_⟩; (focus (first | assumption | exact pureL_bys _ | exact pureL_toks _))) | (refine ⟨⟨rfl, rfl, ?_⟩, ?_⟩; (focus (first | exact Nat.le_of_ble_eq_true rfl | (simp; done))))); conv => whnf)
 rfl
structure Rw where
 l : List Tok
 bad : Bool
def rNext (k : Int) (r : Rw) : Tok × Rw := if r.bad = true then (⟨0, 0, []⟩, ⟨r.l, true⟩) else match r.l with
 | [] => (⟨0, 0, []⟩, ⟨[], true⟩)
 | t :: q => if t.k = k then (t, ⟨q, false⟩) else (⟨0, 0, []⟩, ⟨t :: q, true⟩)
def rOpen (b : List Int) : Rw := ⟨(decR validR b).1, decide ((decR validR b).2 ≠ 0)⟩
theorem demsP_bys {H : Heap} : ∀ (l : List Int) (K : List Nat → Prop), K [] → demsP H (bys l) (bys l) K
 | [], K, h => by simpa [demsP, bys] using h
 | x :: l, K, h => by
  simp only [bys, List.map_cons, demsP, demP]
  exact ⟨⟨trivial, trivial⟩, demsP_bys l _ h⟩
theorem takeN_all : ∀ {m : Nat} {cs : List AV}, cs.length = m → takeN m cs = some cs
 | 0, [], _ => rfl
 | m + 1, c :: cs, h => by
  have ih := takeN_all (m := m) (cs := cs) (by simpa using h)
  simp [takeN, ih]
def rArr (m : Nat) (r : Rw) : List Int × Rw := if (rNext 3 r).1.b.length = m then ((rNext 3 r).1.b, (rNext 3 r).2) else (List.replicate m 0, ⟨(rNext 3 r).2.l, true⟩)
def rWant (m f : Int) (r : Rw) : Rw :=
 if (rNext 5 r).1.n ≠ m then ⟨(rNext 5 r).2.l, true⟩ else if (rNext 1 (rNext 5 r).2).1.n ≠ f then ⟨(rNext 1 (rNext 5 r).2).2.l, true⟩ else (rNext 1 (rNext 5 r).2).2
end
end Go.Proofs.YtbkclacjamlebaaGreatDoor.Abs
