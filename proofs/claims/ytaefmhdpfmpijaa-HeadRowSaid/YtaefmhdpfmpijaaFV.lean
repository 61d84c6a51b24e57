/- A call by its contract, in a caller's state: sound. -/
import Derived.Test.YtaefmhdpfmpijaaFU
set_option linter.unusedVariables false
set_option linter.unusedSimpArgs false
namespace Go.Proofs.Ytaefmhdpfmpijaa.Abs
open Go

def PtrL (E : Env) : List Nat → List Value → Prop
  | [], [] => True
  | i :: is, v :: vs => (∃ n, E.ρ i = some n ∧ v = .pointer (some ⟨n, 0, none⟩)) ∧ PtrL E is vs
  | _, _ => False

theorem ptrs_ok {E : Env} {H : Heap} {xs ys : List AV} {ids bs : List Nat} (h : PassedL H xs ys ids bs) : ∀ {vals : List Value}, RepL E xs vals →
    PtrL E (refIds ys xs) (refVals ys vals) ∧ (refIds ys xs).Sublist ids := by
  induction h with
  | nil => intro vals hr; simp only [RepL] at hr; subst hr; simp [refIds, refVals, PtrL]
  | cons h1 t ih =>
    rename_i x y xs ys i is b bs
    intro vals hr
    simp only [RepL] at hr
    obtain ⟨u, us, rfl, hu, hr⟩ := hr
    obtain ⟨p1, p2⟩ := ih hr
    by_cases hy : ∃ cs, y = .ref cs
    · obtain ⟨cs, rfl⟩ := hy
      cases h1 with
      | dem hd =>
        simp only [Dem] at hd
        obtain ⟨id, zs, is', rfl, hi, _, rfl⟩ := hd
        simp only [RepV] at hu
        obtain ⟨n, hn, rfl⟩ := hu
        simp only [refIds, refVals, isRef, cond_true, PtrL]
        refine ⟨⟨⟨n, hn, rfl⟩, p1⟩, ?_⟩
        rw [List.append_assoc]
        exact (List.Sublist.cons_cons id p2).trans (List.sublist_append_right _ _)
    · have e1 : refIds (y :: ys) (x :: xs) = refIds ys xs := by
        cases y <;> first | rfl | exact absurd ⟨_, rfl⟩ hy
      have e2 : refVals (y :: ys) (u :: us) = refVals ys us := by
        cases y <;> first | rfl | exact absurd ⟨_, rfl⟩ hy
      rw [e1, e2]
      exact ⟨p1, p2.trans (List.sublist_append_right _ _)⟩

theorem RepBL_append {E : Env} : ∀ (a b : List AV) (vs : List Value) (X : List Nat), RepBL E (a ++ b) vs X →
    ∃ vs1 vs2 Y Y', vs = vs1 ++ vs2 ∧ vs1.length = a.length ∧ X = Y ++ Y' ∧ RepBL E a vs1 Y ∧ RepBL E b vs2 Y'
  | [], b, vs, X, h => ⟨[], vs, [], X, rfl, rfl, rfl, by simp [RepBL], h⟩
  | c :: a, b, vs, X, h => by
    simp only [List.cons_append, RepBL] at h
    obtain ⟨u, us, Y, Y', rfl, rfl, h1, h2⟩ := h
    obtain ⟨vs1, vs2, W, W', rfl, e2, rfl, e4, e5⟩ := RepBL_append a b us Y' h2
    refine ⟨u :: vs1, vs2, Y ++ W, W', rfl, by simp [e2], by simp, ?_, e5⟩
    simp only [RepBL]
    exact ⟨u, vs1, Y, W, rfl, rfl, h1, e4⟩

theorem takeRefs_ok : ∀ (is : List Nat) (outs : List AV) (vs : List Value) (X : List Nat) (Z : Nat → Prop) (E : Env) (H : Heap) (nx : Nat) (s : Heap × Nat), HeapRep Z E H nx → RepBL E outs vs X → PtrL E is vs →
    X.Nodup → (∀ b ∈ X, Z b) → (∀ i ∈ is, H i = none) → is.Nodup → takeRefs (H, nx) is outs = some s →
    ∃ E', SameMem E E' ∧ (∀ b, E'.V b → E.V b) ∧ (∀ i, i < nx → E'.ρ i = E.ρ i) ∧ nx ≤ s.2 ∧ HeapRep (fun b => Z b ∧ b ∉ X) E' s.1 s.2
  | [], outs, vs, X, Z, E, H, nx, s, h, hb, hp, hnd, hz, hi, hin, ht => by
    cases outs with
    | cons o os => simp [takeRefs] at ht
    | nil =>
      simp only [takeRefs] at ht
      injection ht with ht
      subst ht
      simp only [RepBL] at hb
      obtain ⟨rfl, rfl⟩ := hb
      exact ⟨E, ⟨rfl, rfl⟩, fun _ h => h, fun _ _ => rfl, Nat.le_refl _, h.congrZ fun b => by simp⟩
  | i :: is, outs, vs, X, Z, E, H, nx, s, h, hb, hp, hnd, hz, hi, hin, ht => by
    cases outs with
    | nil => simp [takeRefs] at ht
    | cons o os =>
      by_cases ho : ∃ cs, o = .ref cs
      · obtain ⟨cs, rfl⟩ := ho
        simp only [RepBL] at hb
        obtain ⟨u, us, Y, Y', rfl, rfl, h1, h2⟩ := hb
        simp only [PtrL] at hp
        obtain ⟨⟨n, hn, rfl⟩, hp⟩ := hp
        simp only [RepB] at h1
        obtain ⟨n', W, c, e, fr, hnn, rfl, k1, k2, k3, k4⟩ := h1
        obtain rfl : n = n' := by injection hnn with hnn; injection hnn with hnn; injection hnn
        obtain ⟨hy1, hy2, hy3⟩ := List.nodup_append.1 hnd
        obtain ⟨hw1, hw2, hw3⟩ := List.nodup_append.1 hy1
        obtain ⟨E1, t1, r1⟩ := matL_ok cs _ W Z E H nx h k4 hw1 (fun b hb => hz b (by simp [hb]))
        have hlen := repL_length _ _ r1
        have hblk : BlkOk E1 n (matL cs (H, nx)).1 := ⟨c, e, fr, by rw [t1.mem.w]; exact k1, k2, by rw [hlen]; simp; omega, fun j x hx => by
          obtain ⟨u, hu, hr⟩ := repL_get _ _ r1 j x hx
          have hj : j < cs.length := by
            rcases Nat.lt_or_ge j (c.toList.take cs.length).length with h' | h'
            · simp at h'; omega
            · rw [List.getElem?_eq_none h'] at hu; cases hu
          rw [List.getElem?_take_of_lt hj] at hu
          exact ⟨u, by simpa using hu, hr⟩⟩
        have hinx : i < nx := by
          rcases Nat.lt_or_ge i nx with h' | h'
          · exact h'
          · rw [(h.fresh i h').1] at hn; cases hn
        have hread := t1.heap.readopt (id := i) (n := n) (by rw [t1.H i hinx]; exact hi i (by simp)) (by rw [t1.ρ i hinx]; exact hn) ⟨hz n (by simp), fun hm => hw3 n hm n (by simp) rfl⟩ hblk
        simp only [takeRefs] at ht
        have hptr : PtrL E1 is us := by
          have : ∀ (is : List Nat) (us : List Value), PtrL E is us → PtrL E1 is us := by
            intro is
            induction is with
            | nil => intro us hp; cases us <;> simp_all [PtrL]
            | cons j js ih =>
              intro us hp
              cases us with
              | nil => simp [PtrL] at hp
              | cons w ws =>
                simp only [PtrL] at hp ⊢
                obtain ⟨⟨m, hm, rfl⟩, hp⟩ := hp
                refine ⟨⟨m, (Taken.later h t1).ρ j m hm, rfl⟩, ih ws hp⟩
          exact this is us hp
        obtain ⟨hii, hin'⟩ := List.nodup_cons.1 hin
        have hlt : ∀ (is : List Nat) (us : List Value), PtrL E is us → ∀ j ∈ is, j < nx := by
          intro is
          induction is with
          | nil => intro us _ j hj; simp at hj
          | cons k ks ih =>
            intro us hp j hj
            cases us with
            | nil => simp [PtrL] at hp
            | cons w ws =>
              simp only [PtrL] at hp
              obtain ⟨⟨m, hm, rfl⟩, hp⟩ := hp
              rcases List.mem_cons.1 hj with rfl | hj
              · rcases Nat.lt_or_ge j nx with h' | h'
                · exact h'
                · rw [(h.fresh j h').1] at hm; cases hm
              · exact ih ws hp j hj
        have hne : ∀ j ∈ is, setH (matL cs (H, nx)).2.1 i (some (matL cs (H, nx)).1) j = none := by
          intro j hj
          have : j ≠ i := fun e => hii (e ▸ hj)
          rw [setH_ne _ _ this, t1.H j (hlt is us hp j hj)]
          exact hi j (by simp [hj])
        have h2' := RepBL.mono t1.mem t1.V os us Y' h2
        obtain ⟨E2, q1, q2, q3, q4, q5⟩ := takeRefs_ok is os us Y' _ E1 _ _ s hread h2' hptr hy2 (fun b hb => ⟨⟨hz b (by simp [hb]), fun hw => hy3 b (by simp [hw]) b hb rfl⟩, fun e => hy3 n (by simp) b hb e.symm⟩) hne hin' ht
        have hnx1 := t1.nx
        refine ⟨E2, ⟨q1.η.trans t1.mem.η, q1.w.trans t1.mem.w⟩, fun b hb => t1.V b (q2 b hb), fun j hj => (q3 j (by omega)).trans (t1.ρ j hj), by omega, q5.congrZ fun b => ?_⟩
        simp only [List.mem_append, List.mem_singleton, not_or]
        constructor
        · rintro ⟨⟨⟨a1, a2⟩, a3⟩, a4⟩; exact ⟨a1, ⟨a2, a3⟩, a4⟩
        · rintro ⟨a1, ⟨a2, a3⟩, a4⟩; exact ⟨⟨⟨a1, a2⟩, a3⟩, a4⟩
      · exfalso
        cases o <;> simp [takeRefs] at ht
        exact ho ⟨_, rfl⟩

theorem remH_none : ∀ (ids : List Nat) (H : Heap) (i : Nat), (i ∈ ids ∨ H i = none) → remH H ids i = none
  | [], H, i, h => by rcases h with h | h
                      · simp at h
                      · exact h
  | j :: r, H, i, h => by
    simp only [remH]
    refine remH_none r _ i ?_
    by_cases hij : i = j
    · subst hij; exact .inr (setH_same _ _ _)
    · rw [setH_ne _ _ hij]
      rcases h with h | h
      · rcases List.mem_cons.1 h with h | h
        · exact absurd h hij
        · exact .inl h
      · exact .inr h

set_option maxHeartbeats 1000000 in
theorem callP_sound {P : Program} {Z : Nat → Prop} {E : Env} {H : Heap} {nx : Nat} (hr : HeapRep Z E H nx) {M : List Mode} {f : FuncId} {xs : List AV} {vals : List Value} {K : AV → Heap → Nat → Prop}
    (hx : RepL E xs vals) (h : callP P M f H nx xs K) :
    Calls P f vals.toArray E.w fun e w' => ∃ x H' nx' E' v, e = .returned v ∧ K x H' nx' ∧ E'.w = w' ∧ After Z E H x H' nx' v E' := by
  unfold callP at h
  obtain ⟨ys, ids, bs, ⟨hnd, r, outs, hcall, hnoro, hk⟩, hp⟩ := passAll_ok M xs _ h
  simp only [Bool.and_eq_true] at hnd
  have hids := nodupB_ok hnd.1
  have hdisj := disjB_ok hnd.2
  obtain ⟨hrem, hXnd, hX, hwr⟩ := remH_ok ids Z H hr hids (PassedL_mem hp)
  -- what the callee keeps clear of
  let Zc : Nat → Prop := fun b => match bs with
    | [] => Z b ∨ Wr E.ρ (remH H ids) b
    | _ :: _ => Z b
  have hZc : ∀ b, Zc b → Z b ∨ Wr E.ρ (remH H ids) b := by
    intro b hb
    cases bs with
    | nil => exact hb
    | cons _ _ => exact .inl hb
  have hZc0 : ∀ b, Z b → Zc b := by
    intro b hb
    cases bs with
    | nil => exact .inl hb
    | cons _ _ => exact hb
  let Eb : Env := { η := E.η, ρ := fun _ => none, V := fun b => Zc b ∨ b ∈ ids.filterMap E.ρ, w := E.w }
  have hEV : ∀ b, Eb.V b → E.V b := by
    rintro b (hb | hb)
    · rcases hZc b hb with hz | hw
      · exact (hr.V b).2 (.inl hz)
      · exact (hr.V b).2 (.inr (hwr b hw))
    · exact (hr.V b).2 (.inr (hX b hb).1)
  have hold : ∀ b, Wr E.ρ H b → b < E.w.heap.size := by
    rintro b ⟨i, es, h1, h2⟩; exact hr.old i b h2
  have hb0 : HeapRep (fun b => Zc b ∨ b ∈ ids.filterMap E.ρ) Eb noHeap 0 := by
    refine ⟨fun id cs hh => by simp [noHeap] at hh, fun id id' n h1 => by simp [noHeap] at h1, fun b => ?_, fun id n h1 => by simp [noHeap] at h1, fun id _ => ⟨rfl, rfl⟩, hr.one, (fun id n hn => nomatch hn), fun b hb => ?_, hr.tab.same rfl hEV⟩
    · constructor
      · exact fun hb => .inl hb
      · rintro (hb | ⟨i, es, h1, _⟩)
        · exact hb
        · simp [noHeap] at h1
    · rcases hb with hb | hb
      · rcases hZc b hb with hz | hw
        · exact hr.zold b hz
        · exact hold b (hwr b hw)
      · exact hold b (hX b hb).1
  have hXZ : ∀ b ∈ ids.filterMap E.ρ, ¬ Zc b := by
    intro b hb hz
    rcases hZc b hz with hz | ⟨i, es, h1, h2⟩
    · exact (hX b hb).2 hz
    · exact hrem.apart i b (by rw [h1]; simp) h2 (.inr hb)
  have hargs : RepBL Eb ys vals (ids.filterMap E.ρ) := by
    refine passL_ok (E' := Eb) hr ⟨rfl, rfl⟩ hEV hp (fun id hid n hn hv => ?_) hx
    have hnot := hdisj id hid
    have hHid : H id ≠ none := by
      have : ∀ {xs ys : List AV} {ids bs : List Nat}, PassedL H xs ys ids bs → ∀ id ∈ bs, H id ≠ none := by
        intro xs ys ids bs hp
        induction hp with
        | nil => simp
        | cons h1 t ih =>
          intro id hid
          rcases List.mem_append.1 hid with hid | hid
          · cases h1 with
            | dem => simp at hid
            | bor hc => simp at hid; subst hid; rw [hc]; simp
          · exact ih id hid
      exact this hp id hid
    have hmem : ¬ n ∈ ids.filterMap E.ρ := by
      intro hm
      obtain ⟨j, hj, hjn⟩ := List.mem_filterMap.1 hm
      exact hnot ((hr.inj id j n hHid (PassedL_mem hp j hj) hn hjn) ▸ hj)
    rcases hv with hv | hv
    · cases bs with
      | nil => simp at hid
      | cons _ _ => exact hr.apart id n hHid hn hv
    · exact hmem hv
  refine (hcall.2 Zc Eb vals (ids.filterMap E.ρ) hb0 hargs hXnd hXZ).mono ?_
  rintro e w' ⟨v, E1, Xr, rfl, hw1, hη1, hev, hV1, hres, hXr, hXrp⟩
  -- the rest of the caller's memory, behind the call
  have hevE : Evo (· ∈ ids.filterMap E.ρ) E.w w' := hev
  obtain ⟨Em, m1, m2, m3, m4, m5⟩ := hrem.evolve (Z2 := fun b => Z b ∨ b ∈ Xr) hevE (fun b hb => .inr hb)
    (fun b hb => by
      rcases hb with hb | hb
      · exact Nat.lt_of_lt_of_le (hr.zold b hb) hev.size
      · exact (hXrp b hb).2.2)
    (fun b hb hlt => by
      rcases hb with hb | hb
      · exact .inl hb
      · exact .inr ((hXrp b hb).2.1 hlt))
  have hsame : SameMem E1 Em := ⟨m2.trans hη1.symm, m1.trans hw1.symm⟩
  have hres' : RepBL Em (outs ++ [r]) (refVals ys vals ++ [v]) Xr := by
    cases bs with
    | nil =>
      refine RepBL.mono hsame (fun b hb => ?_) _ _ _ hres
      rw [hV1]
      rcases (m5.V b).1 hb with (hz | hx) | hw
      · exact .inl (.inl hz)
      · exact .inr hx
      · rw [m3] at hw; exact .inl (.inr hw)
    | cons _ _ => exact RepBL.noRo hsame _ _ _ hnoro hres
  obtain ⟨p1, p2⟩ := ptrs_ok hp hx
  cases ht : takeRefs (remH H ids, nx) (refIds ys xs) outs with
  | none => rw [ht] at hk; exact hk.elim
  | some s =>
  rw [ht] at hk
  simp only at hk
  obtain ⟨vs1, vs2, Y, Y', q1, q2, rfl, q4, q5⟩ := RepBL_append outs [r] _ Xr hres'
  have hlen : (refVals ys vals).length = outs.length := by
    have := congrArg List.length q1
    simp only [RepBL] at q5
    obtain ⟨u, us, W, W', rfl, _, _, rfl, _⟩ := q5
    simp at this
    omega
  obtain ⟨e1, e2⟩ := List.append_inj q1 (by omega)
  subst e1; subst e2
  simp only [RepBL] at q5
  obtain ⟨u, us, W, W', e3, rfl, q5, rfl, rfl⟩ := q5
  injection e3 with e3 _
  subst e3
  rw [List.append_nil] at hXr hXrp m5
  obtain ⟨n1, n2, n3⟩ := List.nodup_append.1 hXr
  have hpm : PtrL Em (refIds ys xs) (refVals ys vals) := by
    have : ∀ (is : List Nat) (us : List Value), PtrL E is us → PtrL Em is us := by
      intro is
      induction is with
      | nil => intro us hp; cases us <;> simp_all [PtrL]
      | cons j js ih =>
        intro us hp
        cases us with
        | nil => simp [PtrL] at hp
        | cons w ws =>
          simp only [PtrL] at hp ⊢
          obtain ⟨⟨m, hm, rfl⟩, hp⟩ := hp
          exact ⟨⟨m, by rw [m3]; exact hm, rfl⟩, ih ws hp⟩
    exact this _ _ p1
  obtain ⟨E2, t1, t2, t3, t4, t5⟩ := takeRefs_ok _ _ _ Y _ Em _ _ s m5 q4 hpm n1 (fun b hb => .inr (by simp [hb])) (fun i hi => remH_none ids H i (.inl (p2.subset hi))) (p2.nodup hids) ht
  have q5' := RepB.mono t1 t2 r v W q5
  obtain ⟨E3, k1, k2⟩ := matV_ok r v W _ E2 s.1 s.2 t5 q5' n2 (fun b hb => ⟨.inr (by simp [hb]), fun hy => n3 b hy b hb rfl⟩)
  have hL : Later E E3 := by
    refine m4.trans (Later.trans (B := E2) (t1.later (fun id n hn => ?_) t2) (Taken.later t5 k1))
    rcases Nat.lt_or_ge id nx with hi | hi
    · rw [t3 id hi]; exact hn
    · rw [(m5.fresh id hi).1] at hn; cases hn
  refine ⟨(matV r s).1, (matV r s).2.1, (matV r s).2.2, E3, v, rfl, hk, ?_, ⟨hL, ?_, k2, k1.heap.congrZ fun b => ?_⟩⟩
  · rw [k1.mem.w, t1.w, m1]
  · rw [k1.mem.w, t1.w, m1]
    exact hevE.mono fun b hb => (hX b hb).1
  · constructor
    · rintro ⟨⟨hz | hx, hny⟩, hnw⟩
      · exact hz
      · rcases List.mem_append.1 hx with hx | hx
        · exact absurd hx hny
        · exact absurd hx hnw
    · intro hz
      refine ⟨⟨.inl hz, fun hy => ?_⟩, fun hw => ?_⟩
      · exact (hXrp b (by simp [hy])).1 (hZc0 b hz)
      · exact (hXrp b (by simp [hw])).1 (hZc0 b hz)

end Go.Proofs.Ytaefmhdpfmpijaa.Abs
