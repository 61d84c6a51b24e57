/- Operations that may be taken first in a region whose order is drawn. -/
import Derived.Test.YtaefmhdpfmpijaaFW
import Derived.OrdersHeld
set_option linter.unusedVariables false
set_option linter.unusedSimpArgs false
namespace Go.Proofs.Ytaefmhdpfmpijaa.Abs
open Go

def intT (T : Types) (t : TypeId) : Bool :=
  match T t with
  | some i => match i.d with
    | .int _ => true
    | _ => false
  | none => false

def pureOp (T : Types) : Op → Bool
  | .move _ | .assign _ | .pick .. | .build .. | .nilCheck _ | .binOp .. | .unOp .. | .sliceToArrayPointer .. | .slice .. | .fieldAddr .. | .field .. | .indexAddr .. | .index .. | .extract .. => true
  | .convert src dst _ => intT T dst
  | .call c => match c.callee with
    | .builtin .len => true
    | .builtin .min => true
    | _ => false
  | _ => false

theorem run_of_value {P : Program} {s : Sem Value} {v : Value} (h : ∀ w, s.run P w = .ok v w) : ∀ w, (do Pure.pure (Next.value (← s)) : Sem Next).run P w = .ok (.value v) w := by
  intro w
  simp [h]

set_option maxHeartbeats 1000000 in
theorem opP_yields {P : Program} {T : Types} (hT : TOK P T) {M : FuncId → List Mode} {Z : Nat → Prop} {E : Env} {st : St} {a : Act} (S : Sim Z E st a) {o : Oper} {K : AV → Heap → Nat → Prop}
    (hp : pureOp T o.op = true) (h : opP P T M st.env st.heap st.nx o.op K) :
    ∃ x v, K x st.heap st.nx ∧ RepV E x v ∧ ∀ w, (execOp a.eval o).run P w = .ok (.value v) w := by
  have hE := fun x => rep_evalO S x
  unfold opP at h
  split at h
  · rename_i x ho; rw [force_eq] at h; exact ⟨_, _, h, hE x, fun w => by simp [execOp, ho]⟩
  · rename_i x ho; rw [force_eq] at h; exact ⟨_, _, h, hE x, fun w => by simp [execOp, ho]⟩
  · rename_i c x y ho
    split at h
    · rename_i t hc
      have hcv := hE c
      rw [hc] at hcv
      simp only [RepV] at hcv
      simp only [force_eq] at h
      cases t with
      | true => exact ⟨_, _, h.1 rfl, hE x, fun w => by simp [execOp, ho, hcv, asBool]⟩
      | false => exact ⟨_, _, h.2 rfl, hE y, fun w => by simp [execOp, ho, hcv, asBool]⟩
    · exact h.elim
  · rename_i ho; rw [ho] at hp; simp [pureOp] at hp
  · rename_i ho; rw [ho] at hp; simp [pureOp] at hp
  · rename_i t ps ho
    obtain ⟨x', r, h1, h2, h3⟩ := buildP_sound hT S.heap.one (rep_evalPs S ps.toList) h
    rw [toArray_map] at h2
    exact ⟨x', r, h1, h3, by simp only [execOp, ho]; exact run_of_value h2⟩
  · rename_i ho; rw [ho] at hp; simp [pureOp] at hp
  · rename_i ho; rw [ho] at hp; simp [pureOp] at hp
  · rename_i ho; rw [ho] at hp; simp [pureOp] at hp
  · rename_i x ho
    split at h
    · rename_i id off hc
      have hv := hE x
      rw [hc] at hv
      have hv' := hv
      simp only [RepV] at hv'
      obtain ⟨n, hn, hv'⟩ := hv'
      exact ⟨_, _, h, hv, fun w => by simp [execOp, ho, hv']⟩
    · rename_i cs hc
      have hv := hE x
      rw [hc] at hv
      have hv' := hv
      simp only [RepV] at hv'
      obtain ⟨b, off, hv', _⟩ := hv'
      exact ⟨_, _, h, hv, fun w => by simp [execOp, ho, hv']⟩
    · exact h.elim
  · rename_i op t x y ty ho
    split at h
    · obtain ⟨x', r, h1, h2, h3⟩ := binP_sound (P := P) (hE x) (hE y) h
      exact ⟨x', r, h1, h2, by simp only [execOp, ho]; exact run_of_value (h3 t x y)⟩
    · split at h
      · obtain ⟨x', b, h1, h2, h3, h4⟩ := eqP_sound (g := fun b => b) hT (fun _ => rfl) (hE x) (hE y) h
        refine ⟨x', .bool b, h1, h2, ?_⟩
        simp only [execOp, ho]
        refine run_of_value fun w => ?_
        simp only [Sem.run_bind, h4, Result.andThen_ok]
        rw [(eq_binOp (hE x) h).1, Sem.run_bind, h3]
        rfl
      · obtain ⟨x', b, h1, h2, h3, h4⟩ := eqP_sound (g := fun b => !b) hT (fun _ => rfl) (hE x) (hE y) h
        refine ⟨x', .bool (!b), h1, h2, ?_⟩
        simp only [execOp, ho]
        refine run_of_value fun w => ?_
        simp only [Sem.run_bind, h4, Result.andThen_ok]
        rw [(eq_binOp (hE x) h).2, Sem.run_bind, h3]
        rfl
      · exact h.elim
  · rename_i op t x ho
    obtain ⟨x', r, h1, h2, h3⟩ := unP_sound (P := P) (hE x) h
    exact ⟨x', r, h1, h2, by simp only [execOp, ho]; exact run_of_value h3⟩
  · rename_i src dst x ho
    rw [ho] at hp
    simp only [pureOp, intT] at hp
    unfold convP at h
    split at h
    case h_2 => exact h.elim
    rename_i si di hs hd
    obtain ⟨ds, hds, hso, _⟩ := (hT src _ hs).und
    obtain ⟨dd, hdd, hdo, _⟩ := (hT dst _ hd).und
    rw [hd] at hp
    simp only at hp
    split at hp
    case h_2 => cases hp
    rename_i k hdk
    rw [hdk] at hdo
    have ho' : dd = .int k := hdo
    subst ho'
    simp only [hdk] at h
    split at h
    · rename_i k1 k2 n hk hxv
      injection hk with hk
      subst hk
      have hv := hE x
      rw [hxv] at hv
      simp only [RepV] at hv
      refine ⟨_, _, h.elim, rep_int E _ _, ?_⟩
      simp only [execOp, ho]
      exact run_of_value fun w => by simp [hv, convert, run_underlying hds, run_underlying hdd, Conv.intToInt]
    all_goals first | exact h.elim | (rename_i hk _; cases hk) | (rename_i hk _ _; cases hk) | (rename_i hk; cases hk)
  · rename_i t x ho
    obtain ⟨x', r, h1, h2, h3⟩ := arrayAtP_sound hT (hE x) h
    exact ⟨x', r, h1, h3, by simp only [execOp, ho]; exact run_of_value h2⟩
  · rename_i ho; rw [ho] at hp; simp [pureOp] at hp
  · rename_i t x lo hi mx ho
    split at h
    · obtain ⟨x', r, h1, h2, h3⟩ := sliceP_sound hT S.heap (hE x) (rep_evalOpt S lo) (rep_evalOpt S hi) h
      exact ⟨x', r, h1, h3, by simp only [execOp, ho, Option.map_none]; exact run_of_value h2⟩
    · exact h.elim
  · rename_i t x f ho
    obtain ⟨x', r, h1, h2, h3⟩ := fieldAddrP_sound hT (hE x) h
    exact ⟨x', r, h1, h3, by simp only [execOp, ho]; exact run_of_value h2⟩
  · rename_i t x f ho
    obtain ⟨x', r, h1, h2, h3⟩ := fieldP_sound hT (hE x) h
    exact ⟨x', r, h1, h3, by simp only [execOp, ho]; exact run_of_value h2⟩
  · rename_i t x i ho
    obtain ⟨x', r, h1, h2, h3⟩ := indexAddrP_sound hT (hE x) (hE i) h
    exact ⟨x', r, h1, h3, by simp only [execOp, ho]; exact run_of_value h2⟩
  · rename_i t x i ho
    obtain ⟨x', r, h1, h2, h3⟩ := indexP_sound hT (hE x) (hE i) h
    exact ⟨x', r, h1, h3, by simp only [execOp, ho]; exact run_of_value h2⟩
  · rename_i x i ho
    simp only [force_eq] at h
    obtain ⟨x', r, h1, h2, h3⟩ := extractP_sound (P := P) (hE x) h
    exact ⟨x', r, h1, h3, by simp only [execOp, ho]; exact run_of_value h2⟩
  · rename_i ho; rw [ho] at hp; simp [pureOp] at hp
  · rename_i c ho
    rw [ho] at hp
    split at h
    · rename_i b hcal
      simp only [pureOp, hcal] at hp
      have hargs := rep_evalL S c.args.toList
      simp only [execOp, ho, resolve, hcal, Sem.run_bind, Sem.run_pure, Result.andThen_ok, invoke]
      have e1 : (c.args.toList.map a.eval).toArray = c.args.map a.eval := toArray_map _ _
      have e2 : c.argTypes.toList.toArray = c.argTypes := Array.toArray_toList
      rw [← e1, ← e2]
      revert h hargs
      generalize c.args.toList.map a.eval = vs
      generalize evalL st.env c.args.toList = xs
      generalize c.argTypes.toList = ts
      intro h hargs
      unfold builtinP at h
      split at h
      · rename_i t x
        obtain ⟨u, rfl, hu⟩ := repL1 hargs rfl
        obtain ⟨y, r, h1, h2, h3⟩ := lenP_sound (ty := o.type) hT hu h
        exact ⟨y, r, h1, h3, run_of_value h2⟩
      · simp at hp
      · simp at hp
      · unfold minP at h
        split at h
        · rename_i k a' k' b'
          obtain ⟨u, v, rfl, hu, hv⟩ := repL2 hargs rfl
          simp only [RepV] at hu hv
          subst hu; subst hv
          exact ⟨_, _, h, rep_int E _ _, run_of_value fun w => run_min_int2 w _ _ k k' a' b'⟩
        · exact h.elim
      · exact h.elim
    · rename_i f hcal
      simp [pureOp, hcal] at hp
    · exact h.elim
  · exact h.elim

theorem hids_det {E : Env} : ∀ (ns : List Nat) (vs : List Value), RepL E (ns.map AV.hid) vs → vs = ns.map E.η
  | [], vs, h => by simpa [RepL] using h
  | n :: ns, vs, h => by
    simp only [List.map_cons, RepL, RepV] at h
    obtain ⟨u, us, rfl, rfl, h⟩ := h
    rw [hids_det ns us h, List.map_cons]

/-- A load yields the same wherever its block is the same. -/
theorem load_cong {P : Program} {T : Types} (hT : TOK P T) {E : Env} {t : TypeId} {b off : Nat} {cs : List AV} {K : AV → Prop} {v : Value}
    (hm : ∀ (j : Nat) x, cs[j]? = some x → ∃ u, E.w.cell? ⟨b, off + j, none⟩ = some u ∧ RepV E x u) (h : getP T t cs K) (hv : (loadVar t ⟨b, off, none⟩).run P E.w = .ok v E.w)
    {w' : World} (hs : w'.heap[b]? = E.w.heap[b]?) : (loadVar t ⟨b, off, none⟩).run P w' = .ok v w' := by
  let η : Nat → Value := fun j => (E.w.cell? ⟨b, off + j, none⟩).getD undef
  let ds : List AV := (List.range cs.length).map AV.hid
  have hlen : ds.length = cs.length := by simp [ds]
  have hds : ∀ (w : World) (hw : ∀ j, w.cell? ⟨b, off + j, none⟩ = E.w.cell? ⟨b, off + j, none⟩) (j : Nat) x, ds[j]? = some x →
      ∃ u, w.cell? ⟨b, off + j, none⟩ = some u ∧ RepV { E with η := η, w := w } x u := by
    intro w hw j x hx
    have hj : j < cs.length := by
      rcases Nat.lt_or_ge j ds.length with h' | h'
      · omega
      · rw [List.getElem?_eq_none h'] at hx; cases hx
    obtain ⟨u, hu, _⟩ := hm j cs[j] (by simp)
    refine ⟨u, by rw [hw]; exact hu, ?_⟩
    simp only [ds, List.getElem?_map, List.getElem?_range hj, Option.map_some] at hx
    injection hx with hx
    subst hx
    simp only [RepV, η, hu, Option.getD_some]
  have hg : ∃ y : AV, getP T t ds (fun x => x = y) ∧ ∀ (w1 w2 : World) v1 v2, RepV { E with η := η, w := w1 } y v1 → RepV { E with η := η, w := w2 } y v2 → v1 = v2 := by
    unfold getP at h ⊢
    split at h
    · rename_i i hi
      cases ha : i.d.agg
      case true =>
        simp only [ha] at h
        obtain ⟨r, hr, h⟩ := h
        obtain ⟨hl, rfl⟩ := takeN_spec _ _ _ hr
        refine ⟨_, ⟨_, takeN_eq i.size ds (by omega), rfl⟩, fun w1 w2 v1 v2 h1 h2 => ?_⟩
        simp only [RepV] at h1 h2
        obtain ⟨a1, rfl, h1⟩ := h1
        obtain ⟨a2, rfl, h2⟩ := h2
        have hd : ds.take i.size = (List.range (min i.size cs.length)).map AV.hid := by
          simp only [ds, ← List.map_take, List.take_range]
        rw [hd] at h1 h2
        have e1 := hids_det _ _ h1
        have e2 := hids_det _ _ h2
        congr 1
        exact Array.toList_inj.1 (e1.trans e2.symm)
      case false =>
        simp only [ha] at h
        obtain ⟨x, hx, h⟩ := h
        have hc : 0 < cs.length := by
          rcases Nat.lt_or_ge 0 cs.length with h' | h'
          · exact h'
          · rw [List.getElem?_eq_none h'] at hx; cases hx
        have : ds[0]? = some (.hid 0) := by simp [ds, List.getElem?_range hc]
        refine ⟨_, ⟨_, this, rfl⟩, fun w1 w2 v1 v2 h1 h2 => ?_⟩
        simp only [RepV] at h1 h2
        rw [h1, h2]
    · exact h.elim
  obtain ⟨y, hg, hdet⟩ := hg
  obtain ⟨x1, v1, rfl, r1, p1⟩ := getP_sound (P := P) hT (E := { E with η := η }) (b := b) (off := off) (hds E.w fun _ => rfl) hg
  obtain ⟨x2, v2, rfl, r2, p2⟩ := getP_sound (P := P) hT (E := { E with η := η, w := w' }) (b := b) (off := off) (hds w' fun j => cell_of_same (a := ⟨b, off + j, none⟩) hs) hg
  have hv1 : v1 = v := by
    have := r1.symm.trans hv
    injection this
  have := hdet _ _ _ _ p1 p2
  rw [← hv1, this]
  exact r2

/-- The load at a place. -/
theorem loadP_at {P : Program} {T : Types} (hT : TOK P T) {Z : Nat → Prop} {E : Env} {H : Heap} {nx : Nat} (hr : HeapRep Z E H nx) {t : TypeId} {A : AV} {va : Value} {K : AV → Prop}
    (ha : RepV E A va) (h : loadP T H t A K) : ∃ x v b, K x ∧ RepV E x v ∧ (∀ w', w'.heap[b]? = E.w.heap[b]? → (Instr.loadAt t va).run P w' = .ok v w') ∧
      (∀ c cs, A = .rop (c :: cs) → ¬ E.V b ∧ b < E.w.heap.size) := by
  unfold loadP at h
  split at h
  · rename_i id off
    simp only [RepV] at ha
    obtain ⟨n, hn, rfl⟩ := ha
    split at h
    · rename_i cs hcs
      have hm : ∀ (j : Nat) x, (cs.drop off)[j]? = some x → ∃ u, E.w.cell? ⟨n, off + j, none⟩ = some u ∧ RepV E x u := fun j x hx => blk_cells hr hcs hn (off + j) x (by simpa using hx)
      obtain ⟨x, v, h1, h2, h3⟩ := getP_sound (P := P) hT (b := n) (off := off) (E := E) hm h
      exact ⟨x, v, n, h1, h3, fun w' hs => by simp [Instr.loadAt, Instr.sureAddr, load_cong hT hm h h2 hs], nofun⟩
    · exact h.elim
  · rename_i cs
    simp only [RepV] at ha
    obtain ⟨b, off, rfl, hc⟩ := ha
    rcases hc with rfl | ⟨hV, hm⟩
    · have hm : ∀ (j : Nat) x, ([] : List AV)[j]? = some x → ∃ u, E.w.cell? ⟨b, off + j, none⟩ = some u ∧ RepV E x u := fun j x hx => by simp at hx
      obtain ⟨x, v, h1, h2, h3⟩ := getP_sound (P := P) hT (b := b) (off := off) (E := E) hm h
      exact ⟨x, v, b, h1, h3, fun w' hs => by simp [Instr.loadAt, Instr.sureAddr, load_cong hT hm h h2 hs], nofun⟩
    · have hm' := repM_get cs b off hm
      obtain ⟨x, v, h1, h2, h3⟩ := getP_sound (P := P) hT (b := b) (off := off) (E := E) hm' h
      refine ⟨x, v, b, h1, h3, fun w' hs => by simp [Instr.loadAt, Instr.sureAddr, load_cong hT hm' h h2 hs], fun c ds he => ⟨hV, ?_⟩⟩
      injection he with he
      subst he
      obtain ⟨u, hu, _⟩ := hm' 0 c rfl
      exact World.block_lt_of_cell? _ _ hu
  · exact h.elim

end Go.Proofs.Ytaefmhdpfmpijaa.Abs
