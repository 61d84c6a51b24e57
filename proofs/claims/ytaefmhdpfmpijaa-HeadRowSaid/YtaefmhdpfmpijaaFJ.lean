/- A check of the type table by computation; struct, array and slice literals as operations. -/
import Derived.Test.YtaefmhdpfmpijaaFI
import Derived.Laws.Tables
set_option linter.unusedVariables false
set_option linter.unusedSimpArgs false
namespace Go.Proofs.Ytaefmhdpfmpijaa.Abs
open Go

/-- A plain value, told by computation. -/
def eqS : AV → Value → Bool
  | .int k n, .int j m => kEq k j && decide (n = m)
  | .bool b, .bool c => b == c
  | .str s, .string ba => decide (bytesOf ba = s)
  | .nil, .slice none 0 0 => true
  | .nilp, .pointer none => true
  | .top, _ => true
  | _, _ => false

theorem eqS_rep {x : AV} {v : Value} (h : eqS x v = true) (E : Env) : RepV E x v := by
  unfold eqS at h
  split at h
  · simp only [Bool.and_eq_true, decide_eq_true_eq] at h
    rw [kEq_eq h.1, h.2]; exact rep_int E _ _
  · rw [beq_iff_eq] at h; subst h; exact rep_bool E _
  · simp only [RepV]; exact ⟨_, rfl, of_decide_eq_true h⟩
  · simp [RepV]
  · simp [RepV]
  · simp [RepV]
  · cases h

def eqL : List AV → List Value → Bool
  | [], [] => true
  | x :: xs, v :: vs => eqS x v && eqL xs vs
  | _, _ => false

theorem eqL_rep : ∀ {xs : List AV} {vs : List Value}, eqL xs vs = true → ∀ E, RepL E xs vs
  | [], [], _, E => by simp [RepL]
  | x :: xs, v :: vs, h, E => by
    simp only [eqL, Bool.and_eq_true] at h
    simp only [RepL]
    exact ⟨v, vs, rfl, eqS_rep h.1 E, eqL_rep h.2 E⟩
  | [], _ :: _, h, E => by simp [eqL] at h
  | _ :: _, [], h, E => by simp [eqL] at h

def eqV : AV → Value → Bool
  | .agg cs, .agg vs => eqL cs vs.toList
  | x, v => eqS x v

theorem eqV_rep {x : AV} {v : Value} (h : eqV x v = true) (E : Env) : RepV E x v := by
  unfold eqV at h
  split at h
  · simp only [RepV]; exact ⟨_, rfl, eqL_rep h E⟩
  · exact eqS_rep h E

def isTop : AV → Bool
  | .top => true
  | _ => false

def fieldsEq : List Field → List (Nat × TypeId) → Bool
  | [], [] => true
  | f :: fs, (o, t) :: r => Nat.beq f.offset o && Nat.beq f.type t && fieldsEq fs r
  | _, _ => false

theorem fieldsEq_eq : ∀ (fs : List Field) (r : List (Nat × TypeId)), fieldsEq fs r = true → fs.map (fun f => (f.offset, f.type)) = r
  | [], [], _ => rfl
  | f :: fs, (o, t) :: r, h => by
    simp only [fieldsEq, Bool.and_eq_true] at h
    simp only [List.map_cons, fieldsEq_eq fs r h.2, Nat.eq_of_beq_eq_true h.1.1, Nat.eq_of_beq_eq_true h.1.2]
  | [], _ :: _, h => by simp [fieldsEq] at h
  | _ :: _, [], h => by simp [fieldsEq] at h

def tdChk : TD → TypeDesc → Bool
  | .int k, .int j => kEq k j
  | .bool, .bool => true
  | .str, .string => true
  | .slice e, .slice e' => Nat.beq e e'
  | .arr n e, .array n' e' => Nat.beq n n' && Nat.beq e e'
  | .struct fs, .struct a => fieldsEq a.toList fs
  | .ptr e, .pointer e' => Nat.beq e e'
  | .other, .struct _ => false
  | .other, .array _ _ => false
  | .other, _ => true
  | _, _ => false

theorem tdChk_of {d : TD} {t : TypeDesc} (h : tdChk d t = true) : d.of t ∧ TDesc.isAgg t = d.agg := by
  unfold tdChk at h
  split at h
  · rw [kEq_eq h]; exact ⟨rfl, rfl⟩
  · exact ⟨rfl, rfl⟩
  · exact ⟨rfl, rfl⟩
  · rw [Nat.eq_of_beq_eq_true h]; exact ⟨rfl, rfl⟩
  · simp only [Bool.and_eq_true] at h
    rw [Nat.eq_of_beq_eq_true h.1, Nat.eq_of_beq_eq_true h.2]; exact ⟨rfl, rfl⟩
  · exact ⟨⟨_, rfl, fieldsEq_eq _ _ h⟩, rfl⟩
  · rw [Nat.eq_of_beq_eq_true h]; exact ⟨rfl, rfl⟩
  · cases h
  · cases h
  · rename_i h1 h2
    refine ⟨trivial, ?_⟩
    cases t <;> first | rfl | exact absurd rfl (h1 _) | exact absurd rfl (h2 _ _)
  · cases h

/-- Each stretch's cells are these. -/
def segsChk : List Seg → List Value → Bool
  | [], _ => true
  | g :: r, vs => Nat.beq g.cs.length g.s && Nat.ble (g.o + g.s) vs.length && eqL g.cs ((vs.drop g.o).take g.s) && segsChk r vs

theorem segsChk_ok : ∀ {segs : List Seg} {vs : Array Value}, segsChk segs vs.toList = true → ∀ E, SegsOk E segs vs
  | [], vs, _, E => by intro g hg; simp at hg
  | g :: r, vs, h, E => by
    simp only [segsChk, Bool.and_eq_true] at h
    obtain ⟨⟨⟨h1, h2⟩, h3⟩, h4⟩ := h
    intro g' hg
    rcases List.mem_cons.1 hg with rfl | hg
    · have hl := Nat.eq_of_beq_eq_true h1
      refine ⟨hl, by simpa using Nat.le_of_ble_eq_true h2, fun j x hx => ?_⟩
      obtain ⟨u, hu, hr⟩ := repL_get _ _ (eqL_rep h3 E) j x hx
      have hj : j < g'.s := by
        rcases Nat.lt_or_ge j g'.cs.length with h' | h'
        · omega
        · rw [List.getElem?_eq_none h'] at hx; cases hx
      rw [List.getElem?_take_of_lt hj, List.getElem?_drop] at hu
      exact ⟨u, by simpa using hu, hr⟩
    · exact segsChk_ok h4 E g' hg

def structChk (P : Program) : List (Nat × TypeId) → List Seg → Bool
  | [], [] => true
  | _ :: _, [] => false
  | (o, t) :: fs, g :: r => Nat.beq o g.o && (match P.info? t with | some f => Nat.beq f.size g.s | none => false) && structChk P fs r
  | [], _ :: _ => false

theorem structChk_ok {P : Program} : ∀ {fs : List (Nat × TypeId)} {segs : List Seg}, structChk P fs segs = true →
    segs.length = fs.length ∧ ∀ (k : Nat) (g : Seg), segs[k]? = some g → ∃ ft ff, fs[k]? = some (g.o, ft) ∧ P.info? ft = some ff ∧ ff.size = g.s
  | [], [], _ => ⟨rfl, fun k g hk => by simp at hk⟩
  | _ :: _, [], h => by simp [structChk] at h
  | (o, t) :: fs, g :: r, h => by
    simp only [structChk, Bool.and_eq_true] at h
    obtain ⟨⟨h1, h2⟩, h3⟩ := h
    refine ⟨by simp [(structChk_ok h3).1], fun k g' hk => ?_⟩
    cases k with
    | zero =>
      simp at hk; subst hk
      split at h2
      · rename_i f hf
        exact ⟨t, f, by simp [Nat.eq_of_beq_eq_true h1], hf, Nat.eq_of_beq_eq_true h2⟩
      · cases h2
    | succ k => simpa using (structChk_ok h3).2 k g' (by simpa using hk)
  | [], _ :: _, h => by simp [structChk] at h

def arrChk (s : Nat) : Nat → List Seg → Bool
  | _, [] => true
  | k, g :: r => Nat.beq g.o (k * s) && Nat.beq g.s s && arrChk s (k + 1) r

theorem arrChk_ok {s : Nat} : ∀ {segs : List Seg} {k0 : Nat}, arrChk s k0 segs = true → ∀ (k : Nat) (g : Seg), segs[k]? = some g → g.o = (k0 + k) * s ∧ g.s = s
  | [], _, _, k, g, hk => by simp at hk
  | g :: r, k0, h, k, g', hk => by
    simp only [arrChk, Bool.and_eq_true] at h
    cases k with
    | zero => simp at hk; subst hk; exact ⟨Nat.eq_of_beq_eq_true h.1.1, Nat.eq_of_beq_eq_true h.1.2⟩
    | succ k =>
      have := arrChk_ok h.2 k g' (by simpa using hk)
      rwa [show k0 + 1 + k = k0 + (k + 1) by omega] at this

def segChk (P : Program) (i : TI) (z : Value) : Bool :=
  match i.segs with
  | [] => true
  | _ => tile 0 i.segs && Nat.beq (i.segs.map (·.s)).sum z.cells.size && segsChk i.segs z.cells.toList && match i.d with
    | .struct fs => structChk P fs i.segs
    | .arr _ e => match P.info? e with
      | some f => arrChk f.size 0 i.segs
      | none => false
    | _ => false

def tiChk (P : Program) (t : TypeId) (i : TI) : Bool :=
  match P.underlying t, P.info? t with
  | some d, some f => tdChk i.d d && Nat.beq f.size i.size && Nat.beq f.bytes i.bytes && match f.zero with
    | some z => (isTop i.zero || eqV i.zero z) && segChk P i z && Nat.beq z.cells.size i.size
    | none => false
  | _, _ => false

theorem tiChk_ok {P : Program} {t : TypeId} {i : TI} (h : tiChk P t i = true) : TIok P t i := by
  unfold tiChk at h
  split at h
  · rename_i d f hd hf
    simp only [Bool.and_eq_true] at h
    obtain ⟨⟨⟨h1, h2⟩, h3⟩, h4⟩ := h
    split at h4
    · rename_i z hz
      simp only [Bool.and_eq_true, Bool.or_eq_true] at h4
      obtain ⟨⟨h4, h5⟩, h6⟩ := h4
      have htd := tdChk_of h1
      refine ⟨⟨d, hd, htd.1, htd.2⟩, ⟨f, hf, Nat.eq_of_beq_eq_true h2, Nat.eq_of_beq_eq_true h3, z, hz, Nat.eq_of_beq_eq_true h6, ?_, ?_⟩⟩
      · rcases h4 with h4 | h4
        · left; revert h4; cases i.zero <;> simp [isTop]
        · right; exact fun E => eqV_rep h4 E
      · unfold segChk at h5
        split at h5
        · left; assumption
        · right
          simp only [Bool.and_eq_true] at h5
          obtain ⟨⟨⟨k1, k2⟩, k3⟩, k4⟩ := h5
          refine ⟨k1, Nat.eq_of_beq_eq_true k2, segsChk_ok k3, ?_⟩
          split at k4
          · rename_i fs hdd
            simp only [hdd]
            exact structChk_ok k4
          · rename_i n e hdd
            simp only [hdd]
            split at k4
            · rename_i f' hf'
              exact ⟨f', hf', fun k g hg => by simpa using arrChk_ok k4 k g hg⟩
            · cases k4
          · cases k4
    · cases h4
  · cases h

def lookT : List (Nat × TI) → Types
  | [], _ => none
  | (k, i) :: r, t => cond (Nat.beq t k) (some i) (lookT r t)

def tabChk (P : Program) : List (Nat × TI) → Bool
  | [] => true
  | (k, i) :: r => tiChk P k i && tabChk P r

theorem tabChk_ok {P : Program} : ∀ {l : List (Nat × TI)}, tabChk P l = true → TOK P (lookT l)
  | [], _, t, i, h => by simp [lookT] at h
  | (k, j) :: r, hc, t, i, h => by
    simp only [tabChk, Bool.and_eq_true] at hc
    simp only [lookT] at h
    cases hb : Nat.beq t k with
    | true =>
      rw [hb] at h
      injection h with h
      subst h
      rw [Nat.eq_of_beq_eq_true hb]
      exact tiChk_ok hc.1
    | false =>
      rw [hb] at h
      exact tabChk_ok hc.2 t i h

/-- A struct or an array, part by part. -/
def buildP (T : Types) (t : TypeId) (ps : List (Nat × AV)) (K : AV → Prop) : Prop :=
  match T t with
  | some i => match i.segs with
    | [] => False
    | g :: r => segsP (g :: r) ps fun segs => K (.agg (flat segs))
  | none => False

theorem repL_of_cells {E : Env} (segs : List Seg) (cells : Array Value) (hok : SegsOk E segs cells) (ht : tile 0 segs = true) (hs : (segs.map (·.s)).sum = cells.size) :
    RepL E (flat segs) cells.toList :=
  repL_of_get _ _ (by rw [flat_length segs hok, hs]; simp) fun j x u hx hu => by
    obtain ⟨u', h1, h2⟩ := flat_rep segs 0 hok ht j x hx
    simp only [Nat.zero_add] at h1
    simp only [Array.getElem?_toList] at hu
    rw [h1] at hu
    injection hu with hu
    rw [← hu]; exact h2

theorem setSeg_sum : ∀ (segs : List Seg) (i : Nat) (xs : List AV) (s : Nat) (segs' : List Seg), setSeg segs i xs = some (s, segs') → segs'.map (·.s) = segs.map (·.s)
  | [], i, xs, s, segs', h => by simp [setSeg] at h
  | g :: r, 0, xs, s, segs', h => by
    simp only [setSeg] at h
    injection h with h
    injection h with h1 h2
    subst h2; rfl
  | g :: r, i + 1, xs, s, segs', h => by
    simp only [setSeg] at h
    split at h
    · rename_i s' r' hr
      injection h with h
      injection h with h1 h2
      subst h2
      simp [setSeg_sum r i xs s' r' hr]
    · cases h

theorem segsP_sum {K : List Seg → Prop} : ∀ (ps : List (Nat × AV)) (segs : List Seg), segsP segs ps K → segsP segs ps fun segs' => K segs' ∧ segs'.map (·.s) = segs.map (·.s)
  | [], segs, h => by unfold segsP at h ⊢; exact ⟨h, rfl⟩
  | (i, x) :: ps, segs, h => by
    unfold segsP at h ⊢
    split at h
    · rename_i s segs' hs
      have he := setSeg_sum _ _ _ _ _ hs
      cases x <;> simp only at h ⊢
      case agg cs =>
        have := segsP_sum ps segs' h.2
        rw [he] at this
        exact ⟨h.1, this⟩
      all_goals
        revert h
        generalize (AV.one _ && Nat.beq s 1) = b
        cases b
        · exact fun h => h
        · intro h
          have := segsP_sum ps segs' h
          rw [he] at this
          exact this
    · exact h.elim

theorem places_of (P : Program) : ∀ (fs : List Field), (∀ (k : Nat) (fd : Field), fs[k]? = some fd → ∃ ff, P.info? fd.type = some ff) →
    ∃ places, fs.mapM (fun f => (P.info? f.type).map fun i => (f.offset, i.size)) = some places ∧ ∀ (k : Nat) (fd : Field) (ff : TypeInfo), fs[k]? = some fd → P.info? fd.type = some ff → places[k]? = some (fd.offset, ff.size)
  | [], _ => ⟨[], by simp, by simp⟩
  | f :: fs, h => by
    obtain ⟨ff, hff⟩ := h 0 f (by simp)
    obtain ⟨places, h1, h2⟩ := places_of P fs (fun k fd hk => h (k + 1) fd (by simpa using hk))
    refine ⟨(f.offset, ff.size) :: places, by simp [hff, h1], fun k fd ff' hk hf => ?_⟩
    cases k with
    | zero => simp at hk; subst hk; rw [hff] at hf; injection hf with hf; simp [hf]
    | succ k => simpa using h2 k fd ff' (by simpa using hk) hf

theorem buildP_sound {P : Program} {T : Types} (hT : TOK P T) {E : Env} (hη : ∀ i, scalar (E.η i) = true) {t : TypeId} {ps : List (Nat × AV)} {vs : List (Nat × Value)} {K : AV → Prop}
    (hr : RepPs E ps vs) (h : buildP T t ps K) : ∃ x r, K x ∧ (∀ w, (Instr.build t vs.toArray).run P w = .ok r w) ∧ RepV E x r := by
  unfold buildP at h
  split at h
  · rename_i i hi
    split at h
    · exact h.elim
    · rename_i g r hseg
      obtain ⟨f, hf, hsz, hby, z, hz, _, hzr, hsg⟩ := (hT t i hi).info
      obtain ⟨d, hd, hdo, _⟩ := (hT t i hi).und
      rcases hsg with hsg | ⟨s1, s2, s3, s4⟩
      · rw [hseg] at hsg; cases hsg
      · have hzv : ∀ w, (zeroValue t).run P w = .ok z w := fun w => by simp [zeroValue, typeInfo, hf, hz]
        rw [hseg] at s1 s2 s3 s4
        have h' := segsP_sum ps (g :: r) h
        split at s4
        · rename_i fs hdd
          rw [hdd] at hdo
          obtain ⟨a, rfl, ha⟩ := hdo
          obtain ⟨s4l, s4⟩ := s4
          have hall : ∀ (k : Nat) (fd : Field), a.toList[k]? = some fd → ∃ ff, P.info? fd.type = some ff := fun k fd hk => by
            have hlt : k < (g :: r).length := by
              rw [s4l, ← ha, List.length_map]
              rcases Nat.lt_or_ge k a.toList.length with h' | h'
              · exact h'
              · rw [List.getElem?_eq_none h'] at hk; cases hk
            obtain ⟨ft, ff, e1, e2, e3⟩ := s4 k _ (List.getElem?_eq_getElem hlt)
            rw [← ha, List.getElem?_map, hk] at e1
            simp at e1
            exact ⟨ff, by rw [e1.2]; exact e2⟩
          obtain ⟨places, hpl1, hpl2⟩ := places_of P a.toList hall
          have hp : PlaceOk (places.toArray[·]?) (g :: r) := fun k g' hg' => by
            obtain ⟨ft, ff, e1, e2, e3⟩ := s4 k g' hg'
            rw [← ha, List.getElem?_map] at e1
            cases hk : a.toList[k]? with
            | none => rw [hk] at e1; simp at e1
            | some fd =>
              rw [hk] at e1
              simp at e1
              have := hpl2 k fd ff hk (by rw [e1.2]; exact e2)
              simp [this, e1.1, e3]
          obtain ⟨segs', cells', k1, k2, k3, k4, k5⟩ := segsP_sound hη ps vs (g :: r) z.cells 0 (s3 E) s1 hp hr h'
          refine ⟨_, .agg cells', k1.1, fun w => ?_, ?_⟩
          · apply run_build
            simp only [Program.built, hf, hd, hz, hpl1]
            simpa using k2
          · simp only [RepV]
            exact ⟨_, rfl, repL_of_cells segs' cells' k3 k4 (by rw [k1.2, s2, k5])⟩
        · rename_i m e hdd
          rw [hdd] at hdo
          have hdo' : d = .array m e := hdo
          subst hdo'
          obtain ⟨fe, hfe, hpl⟩ := s4
          have hp : PlaceOk (fun i => some (i * fe.size, fe.size)) (g :: r) := fun k g' hg' => by
            obtain ⟨e1, e2⟩ := hpl k g' hg'
            simp [e1, e2]
          obtain ⟨segs', cells', k1, k2, k3, k4, k5⟩ := segsP_sound hη ps vs (g :: r) z.cells 0 (s3 E) s1 hp hr h'
          refine ⟨_, .agg cells', k1.1, fun w => ?_, ?_⟩
          · have hse : ∀ w, (sizeOf e).run P w = .ok fe.size w := fun w => by simp [sizeOf, typeInfo, hfe]
            simp [Instr.build, hzv, run_underlying hd, hse, k2]
          · simp only [RepV]
            exact ⟨_, rfl, repL_of_cells segs' cells' k3 k4 (by rw [k1.2, s2, k5])⟩
        · exact s4.elim
  · exact h.elim

end Go.Proofs.Ytaefmhdpfmpijaa.Abs
