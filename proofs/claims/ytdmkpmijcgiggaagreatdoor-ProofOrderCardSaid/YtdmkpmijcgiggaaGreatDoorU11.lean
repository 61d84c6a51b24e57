/- Texts EE to FA5, merged. -/
import Derived.Test.YtdmkpmijcgiggaaGreatDoorU10
set_option linter.unusedVariables false
set_option linter.unusedSimpArgs false
namespace Go.Proofs.YtdmkpmijcgiggaaGreatDoor.Abs
open Go
section
--KR
attribute [local irreducible] ifB fitP Does Weaker
theorem write7_ok (e : Ent) (he : EntS e) : ACall Tryz.prog 50 [.agg (entC e), .int .i64 7] (.tuple [.own (entB e).1.length 1 (bys (entB e).1), .int .i64 (entB e).2]) [] := by
 have hc := check_entry_ok e he
 unfold entB
 refine ACall.of_does TTok Tryz.func50 rfl Tryz.call50 rfl (wpc_sound (M := ME) (PL := PL0) (CU := noCut) TTok mixed _ _ _ ?_)
 cases c1 : entR e <;> rw [c1] at hc
 ·conv => whnf
  repeat ((first | refine ⟨entC_pure _, ?_⟩ | refine ⟨rfl, ?_⟩ | refine ⟨_, rfl, ?_⟩); conv => whnf)
  refine ⟨_, _, hc, by first | rfl | simp [noRoIf, noRoL, noRoV, noRoL_bys], ?_⟩
  conv => whnf
  repeat ((first | refine ifB_t ?_ | refine ⟨⟨rfl, rfl⟩, ?_⟩); conv => whnf)
  rfl
 ·have hr := row7_ok e he
  have ht := entTs_ok e he
  have hb := encode_ok (entTs e) ht.1 (fun t h => by have := ht.2 t h; omega)
  have hl : (entTs e).length = 11 := rfl
  clear ht
  generalize entTs e = l at hr hb hl
  conv => whnf
  repeat ((first | refine ⟨entC_pure _, ?_⟩ | refine ⟨rfl, ?_⟩ | refine ⟨_, rfl, ?_⟩); conv => whnf)
  refine ⟨_, _, hc, by first | rfl | simp [noRoIf, noRoL, noRoV, noRoL_bys], ?_⟩
  conv => whnf
  repeat ((first | refine ifB_f ?_ | refine ⟨entC_pure _, ?_⟩ | refine ⟨rfl, ?_⟩ | refine ⟨_, rfl, ?_⟩); conv => whnf)
  refine ⟨_, _, hr, by first | rfl | simp [noRoIf, noRoL, noRoV, noRoL_bys], ?_⟩
  conv => whnf
  repeat ((first | (refine Or.inl ⟨⟨rfl, ?_⟩, ?_⟩; (focus (first | rfl | (simp; done) | (rw [toksC_length]; omega)))) | refine ⟨rfl, ?_⟩ | (refine And.intro ?_ ?_; (focus (first | (simp only [pureL, pureV, pureL_bys, Bool.and_true, Bool.and_self]; done) | (simp only [pureL, pureV, pureL_bys, pureL_toks, Bool.and_true, Bool.and_self]; done))))); conv => whnf)
  refine ⟨_, _, hb.arg1 hl.symm rfl, by first | rfl | simp [noRoIf, noRoL, noRoV, noRoL_bys], ?_⟩
  conv => whnf
  repeat ((first | refine ⟨⟨rfl, rfl⟩, ?_⟩ | (refine ⟨⟨rfl, rfl, rfl, ?_, pureL_bys _⟩, ?_⟩; (focus (simp; done)))); conv => whnf)
  rfl
theorem write6_ok (e : Ent) (he : EntS e) : ACall Tryz.prog 50 [.agg (entC e), .int .i64 6] (.tuple [.own (entBody e).1.length 1 (bys (entBody e).1), .int .i64 (entBody e).2]) [] := by
 have hc := check_entry_ok e he
 unfold entBody
 refine ACall.of_does TTok Tryz.func50 rfl Tryz.call50 rfl (wpc_sound (M := ME) (PL := PL0) (CU := noCut) TTok mixed _ _ _ ?_)
 cases c1 : entR e <;> rw [c1] at hc
 ·conv => whnf
  repeat ((first | refine ⟨entC_pure _, ?_⟩ | refine ⟨rfl, ?_⟩ | refine ⟨_, rfl, ?_⟩); conv => whnf)
  refine ⟨_, _, hc, by first | rfl | simp [noRoIf, noRoL, noRoV, noRoL_bys], ?_⟩
  conv => whnf
  repeat ((first | refine ifB_t ?_ | refine ⟨⟨rfl, rfl⟩, ?_⟩); conv => whnf)
  rfl
 ·have hr := row6_ok e he
  have ht := entT_ok 6 (by omega) e he
  have hb := encode_ok (entT 6 e) ht.1 (fun t h => by have := ht.2 t h; omega)
  have hl : (entT 6 e).length = 10 := rfl
  clear ht
  generalize entT 6 e = l at hr hb hl
  conv => whnf
  repeat ((first | refine ⟨entC_pure _, ?_⟩ | refine ⟨rfl, ?_⟩ | refine ⟨_, rfl, ?_⟩); conv => whnf)
  refine ⟨_, _, hc, by first | rfl | simp [noRoIf, noRoL, noRoV, noRoL_bys], ?_⟩
  conv => whnf
  repeat ((first | refine ifB_f ?_ | refine ⟨entC_pure _, ?_⟩ | refine ⟨rfl, ?_⟩ | refine ⟨_, rfl, ?_⟩); conv => whnf)
  refine ⟨_, _, hr, by first | rfl | simp [noRoIf, noRoL, noRoV, noRoL_bys], ?_⟩
  conv => whnf
  repeat ((first | (refine Or.inl ⟨⟨rfl, ?_⟩, ?_⟩; (focus (first | rfl | (simp; done) | (rw [toksC_length]; omega)))) | refine ⟨rfl, ?_⟩ | (refine And.intro ?_ ?_; (focus (first | (simp only [pureL, pureV, pureL_bys, Bool.and_true, Bool.and_self]; done) | (simp only [pureL, pureV, pureL_bys, pureL_toks, Bool.and_true, Bool.and_self]; done))))); conv => whnf)
  refine ⟨_, _, hb.arg1 hl.symm rfl, by first | rfl | simp [noRoIf, noRoL, noRoV, noRoL_bys], ?_⟩
  conv => whnf
  repeat ((first | refine ⟨⟨rfl, rfl⟩, ?_⟩ | (refine ⟨⟨rfl, rfl, rfl, ?_, pureL_bys _⟩, ?_⟩; (focus (simp; done)))); conv => whnf)
  rfl
theorem ebytes_ok (e : Ent) (he : EntS e) : ACall Tryz.prog 24 [.agg (entC e)] (.tuple [.own (entB e).1.length 1 (bys (entB e).1), .int .i64 (entB e).2]) [] := by
 have h := write7_ok e he
 generalize entB e = q at h
 refine ACall.of_does TTok Tryz.func24 rfl Tryz.call24 rfl (wpc_sound (M := ME) (PL := PL0) (CU := noCut) TTok mixed _ _ _ ?_)
 conv => whnf
 repeat ((first | refine ⟨entC_pure _, ?_⟩ | refine ⟨rfl, ?_⟩ | refine ⟨_, rfl, ?_⟩); conv => whnf)
 refine ⟨_, _, h, by first | rfl | simp [noRoIf, noRoL, noRoV, noRoL_bys], ?_⟩
 conv => whnf
 repeat ((first | refine ⟨⟨rfl, rfl⟩, ?_⟩ | (refine ⟨⟨rfl, rfl, rfl, ?_, pureL_bys _⟩, ?_⟩; (focus (simp; done)))); conv => whnf)
 rfl
theorem ebody_ok (e : Ent) (he : EntS e) : ACall Tryz.prog 33 [.agg (entC e)] (.tuple [.own (entBody e).1.length 1 (bys (entBody e).1), .int .i64 (entBody e).2]) [] := by
 have h := write6_ok e he
 generalize entBody e = q at h
 refine ACall.of_does TTok Tryz.func33 rfl Tryz.call33 rfl (wpc_sound (M := ME) (PL := PL0) (CU := noCut) TTok mixed _ _ _ ?_)
 conv => whnf
 repeat ((first | refine ⟨entC_pure _, ?_⟩ | refine ⟨rfl, ?_⟩ | refine ⟨_, rfl, ?_⟩); conv => whnf)
 refine ⟨_, _, h, by first | rfl | simp [noRoIf, noRoL, noRoV, noRoL_bys], ?_⟩
 conv => whnf
 repeat ((first | refine ⟨⟨rfl, rfl⟩, ?_⟩ | (refine ⟨⟨rfl, rfl, rfl, ?_, pureL_bys _⟩, ?_⟩; (focus (simp; done)))); conv => whnf)
 rfl
end
section

theorem envL_tidy {f : Nat → AV} : ∀ (env : List (Nat × AV)), env.map (fun p => f p.1) = env.map (fun p => p.2) → ∀ t, envL env t = f t ∨ envL env t = .top
 | [], _, t => .inr rfl
 | (d, x) :: r, h, t => by
  simp only [List.map_cons, List.cons.injEq] at h
  unfold envL
  cases hb : Nat.beq t d with
  | true =>
   obtain rfl : t = d := Nat.eq_of_beq_eq_true hb
   exact .inl h.1.symm
  | false => exact envL_tidy r h.2 t
theorem heapL_none {m : Nat} : ∀ (heap : List (Nat × List AV)), heap.all (fun p => Nat.blt p.1 m) = true → ∀ i, m ≤ i → heapL heap i = none
 | [], _, _, _ => rfl
 | (d, x) :: r, h, i, hi => by
  simp only [List.all_cons, Bool.and_eq_true] at h
  unfold heapL
  cases hb : Nat.beq i d with
  | true =>
   obtain rfl : i = d := Nat.eq_of_beq_eq_true hb
   have := h.1
   rw [Nat.blt_eq] at this
   omega
  | false => exact heapL_none r h.2 i hi
theorem Weaker.tidy {k : Nat} {st : St} (env : List (Nat × AV)) (heap : List (Nat × List AV)) (nx n : Nat) (hn : st.n = n) (hx : st.nx = nx) (hb : heap.all (fun p => Nat.blt p.1 nx) = true)
  (he : env.map (fun p => st.env p.1) = env.map (fun p => p.2)) (hh : (List.range nx).map st.heap = (List.range nx).map (heapL heap)) : Weaker k st (mkSt env heap nx n) := by
 intro Z E a S
 have hH : heapL heap = st.heap := by
  funext i
  rcases Nat.lt_or_ge i nx with hi | hi
  ·have h1 : ((List.range nx).map st.heap)[i]? = some (st.heap i) := by simp [hi]
   have h2 : ((List.range nx).map (heapL heap))[i]? = some (heapL heap i) := by simp [hi]
   rw [hh, h2] at h1
   exact Option.some.inj h1
  ·rw [heapL_none heap hb i hi, (S.heap.fresh i (by omega)).2]
 refine ⟨E, ⟨?_, ?_, S.dfr, ?_⟩, rfl, ?_⟩
 ·intro t
  change RepV E (envL env t) _
  rcases envL_tidy env he t with h | h
  ·rw [h]; exact S.env t
  ·rw [h]; simp [RepV]
 ·exact S.sz.trans hn
 ·change HeapRep Z E (heapL heap) nx
  rw [hH, ← hx]
  exact S.heap
 ·change Flow k E st.heap E (heapL heap)
  rw [hH]
  exact Flow.refl _ _
theorem Does.tidy {P : Program} {k : Nat} {c : Code} {Q : AX → St → Prop} {st : St} (env : List (Nat × AV)) (heap : List (Nat × List AV)) (nx n : Nat) (hn : st.n = n) (hx : st.nx = nx) (hb : heap.all (fun p => Nat.blt p.1 nx) = true)
  (he : env.map (fun p => st.env p.1) = env.map (fun p => p.2)) (hh : (List.range nx).map st.heap = (List.range nx).map (heapL heap)) (h : Does P k c Q (mkSt env heap nx n)) : Does P k c Q st :=
 Does.weaker (Weaker.tidy env heap nx n hn hx hb he hh) h
theorem ACall.args {P : Program} {f : FuncId} {xs ys : List AV} {r : AV} {outs : List AV} (h : ACall P f ys r outs) (e : xs = ys) : ACall P f xs r outs := by
 subst e; exact h
end
section
--KR
attribute [local irreducible] ifB fitP Does Weaker demsP
def RwOk (r : Rw) : Prop := ToksOk r.l ∧ ∀ t ∈ r.l, t.b.length ≤ 1000000000
theorem rNext_rok {r : Rw} (h : RwOk r) (k : Int) : RwOk (rNext k r).2 ∧ TokOk (rNext k r).1 ∧ (rNext k r).1.b.length ≤ 1000000000 := by
 have z : TokOk ⟨0, 0, []⟩ := ⟨by dsimp only; omega, by dsimp only; omega, fun x hx => absurd hx (List.not_mem_nil)⟩
 obtain ⟨l, bad⟩ := r
 unfold rNext
 split
 ·exact ⟨h, z, by simp⟩
 ·cases l with
  | nil => exact ⟨h, z, by simp⟩
  | cons t q =>
   dsimp only
   split
   ·exact ⟨⟨fun x hx => h.1 x (List.mem_cons_of_mem _ hx), fun x hx => h.2 x (List.mem_cons_of_mem _ hx)⟩, h.1 t List.mem_cons_self, h.2 t List.mem_cons_self⟩
   ·exact ⟨h, z, by simp⟩
theorem rArr_rok {r : Rw} (h : RwOk r) (m : Nat) : RwOk (rArr m r).2 ∧ Byt (rArr m r).1 ∧ (rArr m r).1.length = m := by
 refine ⟨?_, ?_, rArr_len m r⟩
 ·unfold rArr
  split
  ·exact (rNext_rok h 3).1
  ·exact (rNext_rok h 3).1
 ·unfold rArr
  split
  ·exact (rNext_rok h 3).2.1.2.2
  ·intro x hx
   rw [List.mem_replicate] at hx
   omega
theorem rWant_rok {r : Rw} (h : RwOk r) (m f : Int) : RwOk (rWant m f r) := by
 have h1 := (rNext_rok h 5).1
 have h2 := (rNext_rok h1 1).1
 unfold rWant
 split
 ·exact h1
 ·split
  ·exact h2
  ·exact h2
theorem rOpen_rok {b : List Int} (hb : Byt b) (hl : b.length ≤ 1000000000) : RwOk (rOpen b) := by
 unfold rOpen RwOk
 rcases decR_or validR b with h | ⟨l, h, _, hp⟩
 ·rw [h]
  exact ⟨fun t ht => absurd ht (List.not_mem_nil), fun t ht => absurd ht (List.not_mem_nil)⟩
 ·rw [h]
  have := pItem_toks b hb 7 ⟨0, [], false⟩ ⟨by simp [ToksOk], by simp⟩
  rw [hp] at this
  exact ⟨this.1, fun t ht => Nat.le_trans (this.2 t ht) hl⟩
theorem entV_whole (e : Ent) : entV e (.ro e.val.length (List.take (e.val.length * 1) (List.drop 0 (bys e.val)))) = entC e := by rw [whole_bys]; rfl
def rdE (r : Rw) : Ent × Int :=
 match rArr 32 r with
 | (au, r1) => match rNext 1 r1 with
  | (s, r2) => match rArr 32 r2 with
   | (prev, r3) => match rNext 1 r3 with
    | (st, r4) => match rNext 5 r4 with
     | (li, r5) => if li.n ≠ 3 then (ent0, 3) else match rNext 1 r5 with
      | (ki, r6) => match rNext 4 r6 with
       | (ke, r7) => match rNext 3 r7 with
        | (va, r8) => match rArr 64 r8 with
         | (sig, r9) => if (!r9.bad && decide (r9.l = [])) = true then (if entR ⟨au, s.n, prev, st.n, ki.n, ke.b, va.b, sig⟩ = true then (⟨au, s.n, prev, st.n, ki.n, ke.b, va.b, sig⟩, 0) else (ent0, 3)) else (ent0, 3)
def rdEnt (b : List Int) : Ent × Int := rdE (rWant 7 1 (rOpen b))
set_option maxRecDepth 20000 in
set_option maxHeartbeats 1500000 in
theorem eread_ok (b : List Int) (hb : Byt b) (hl : b.length ≤ 1000000000) : ACall Tryz.prog 27 [.ro b.length (bys b)] (.tuple [.agg (entC (rdEnt b).1), .int .i64 (rdEnt b).2]) [] := by
 have k0 := rOpen_rok hb hl
 have h0 := open_ok b hb (by omega)
 unfold rdEnt
 generalize rOpen b = r0 at k0 h0 ⊢
 have h1 := rwant_ok r0 7 1
 have k1 := rWant_rok k0 7 1
 generalize rWant 7 1 r0 = r1 at h1 k1 ⊢
 unfold rdE
 have h2 := rid_ok' r1
 have k2 := rArr_rok k1 32
 generalize rArr 32 r1 = q at h2 k2 ⊢
 obtain ⟨au, r2⟩ := q
 dsimp only at h2 k2 ⊢
 have h3 := rnum_ok r2
 have k3 := rNext_rok k2.1 1
 generalize rNext 1 r2 = q at h3 k3 ⊢
 obtain ⟨s, r3⟩ := q
 dsimp only at h3 k3 ⊢
 have h4 := rid_ok' r3
 have k4 := rArr_rok k3.1 32
 generalize rArr 32 r3 = q at h4 k4 ⊢
 obtain ⟨prev, r4⟩ := q
 dsimp only at h4 k4 ⊢
 have h5 := rnum_ok r4
 have k5 := rNext_rok k4.1 1
 generalize rNext 1 r4 = q at h5 k5 ⊢
 obtain ⟨st, r5⟩ := q
 dsimp only at h5 k5 ⊢
 have h6 := rlist_ok r5
 have k6 := rNext_rok k5.1 5
 generalize rNext 5 r5 = q at h6 k6 ⊢
 obtain ⟨li, r6⟩ := q
 dsimp only at h6 k6 ⊢
 have h7 := rnum_ok r6
 have k7 := rNext_rok k6.1 1
 generalize rNext 1 r6 = q at h7 k7 ⊢
 obtain ⟨ki, r7⟩ := q
 dsimp only at h7 k7 ⊢
 have k8 := rNext_rok k7.1 4
 have h8 := rtext_ok r7 k8.2.1.2.2
 generalize rNext 4 r7 = q at h8 k8 ⊢
 obtain ⟨ke, r8⟩ := q
 dsimp only at h8 k8 ⊢
 have h9 := rstr_ok r8
 have k9 := rNext_rok k8.1 3
 generalize rNext 3 r8 = q at h9 k9 ⊢
 obtain ⟨va, r9⟩ := q
 dsimp only at h9 k9 ⊢
 have h10 := rsig_ok' r9
 have k10 := rArr_rok k9.1 64
 generalize rArr 64 r9 = q at h10 k10 ⊢
 obtain ⟨sig, r10⟩ := q
 dsimp only at h10 k10 ⊢
 have h11 := rdone_ok r10
 generalize (!r10.bad && decide (r10.l = [])) = dn at h11 ⊢
 have hcl := bclone_ok va.b (by have := k9.2.2; omega)
 have he : EntS ⟨au, s.n, prev, st.n, ki.n, ke.b, va.b, sig⟩ :=
  { au := k2.2, seq := k3.2.1.2.1, prev := k4.2, stamp := k5.2.1.2.1, kind := k7.2.1.2.1, key := ⟨k8.2.1.2.2, by have := k8.2.2; dsimp only; omega⟩, val := ⟨k9.2.1.2.2, by have := k9.2.2; dsimp only; omega⟩, sig := k10.2, key' := k8.2.2, val' := k9.2.2 }
 have h12 := check_entry_ok _ he
 refine ACall.of_does TTok Tryz.func27 rfl Tryz.call27 rfl (wpc_sound (M := ME) (PL := PL0) (CU := cutAt [100004, 100007, 100008, 100010]) TTok mixed _ _ _ ?_)
 conv => whnf
 repeat ((first | refine ⟨pureL_bys _, ?_⟩ | refine ⟨rfl, ?_⟩); conv => whnf)
 refine ⟨_, _, h0, by first | rfl | simp [noRoIf, noRoL, noRoV, noRoL_bys], ?_⟩
 conv => whnf
 repeat ((first | refine ⟨rfl, ?_⟩ | (refine And.intro ?_ ?_; (focus (first | (simp only [pureL, pureV, pureL_bys, Bool.and_true, Bool.and_self]; done) | (simp only [pureL, pureV, pureL_bys, pureL_toks, Bool.and_true, Bool.and_self]; done))))); conv => whnf)
 refine ⟨_, _, h1, by first | rfl | simp [noRoIf, noRoL, noRoV, noRoL_bys], ?_⟩
 conv => whnf
 repeat ((first | refine ⟨rfl, ?_⟩ | (refine And.intro ?_ ?_; (focus (first | (simp only [pureL, pureV, pureL_bys, Bool.and_true, Bool.and_self]; done) | (simp only [pureL, pureV, pureL_bys, pureL_toks, Bool.and_true, Bool.and_self]; done))))); conv => whnf)
 refine ⟨_, _, h2, by first | rfl | simp [noRoIf, noRoL, noRoV, noRoL_bys], ?_⟩
 conv => whnf
 repeat ((first | refine ⟨rfl, ?_⟩ | (refine And.intro ?_ ?_; (focus (first | (simp only [pureL, pureV, pureL_bys, Bool.and_true, Bool.and_self]; done) | (simp only [pureL, pureV, pureL_bys, pureL_toks, Bool.and_true, Bool.and_self]; done))))); conv => whnf)
 refine ⟨_, _, h3, by first | rfl | simp [noRoIf, noRoL, noRoV, noRoL_bys], ?_⟩
 conv => whnf
 repeat ((first | refine ⟨rfl, ?_⟩ | (refine And.intro ?_ ?_; (focus (first | (simp only [pureL, pureV, pureL_bys, Bool.and_true, Bool.and_self]; done) | (simp only [pureL, pureV, pureL_bys, pureL_toks, Bool.and_true, Bool.and_self]; done))))); conv => whnf)
 refine ⟨_, _, h4, by first | rfl | simp [noRoIf, noRoL, noRoV, noRoL_bys], ?_⟩
 conv => whnf
 repeat ((first | refine ⟨rfl, ?_⟩ | (refine And.intro ?_ ?_; (focus (first | (simp only [pureL, pureV, pureL_bys, Bool.and_true, Bool.and_self]; done) | (simp only [pureL, pureV, pureL_bys, pureL_toks, Bool.and_true, Bool.and_self]; done))))); conv => whnf)
 refine ⟨_, _, h5, by first | rfl | simp [noRoIf, noRoL, noRoV, noRoL_bys], ?_⟩
 conv => whnf
 repeat ((first | refine ⟨(⟨by kernel_rfl, by kernel_rfl, Nat.le_of_ble_eq_true (by kernel_rfl)⟩ : AV.ones _ = true ∧ _ ∧ _), ?_⟩ | refine ⟨rfl, ?_⟩ | refine ⟨⟨rfl, rfl⟩, ?_⟩); conv => whnf)
 refine Does.tidy [(2, .ptr 0 0), (4, .ptr 1 0), (5, .ptr 2 0)] [(0, zeroE), (1, rowC r5), (2, c32 au (.int .i64 s.n :: c32 prev (.int .i64 st.n :: .int .i64 0 :: .str [] :: .nil :: c64 z64 [])))] 3 45 rfl rfl rfl (by kernel_rfl) (by kernel_rfl) ?_
 clear h0 h1 h2 h3 h4 h5
 refine wpc_sound (M := ME) (PL := PL0) (CU := noCut) TTok mixed _ _ _ ?_
 conv => whnf
 repeat ((first | refine ⟨rfl, ?_⟩ | (refine And.intro ?_ ?_; (focus (first | (simp only [pureL, pureV, pureL_bys, Bool.and_true, Bool.and_self]; done) | (simp only [pureL, pureV, pureL_bys, pureL_toks, Bool.and_true, Bool.and_self]; done))))); conv => whnf)
 refine ⟨_, _, h6, by first | rfl | simp [noRoIf, noRoL, noRoV, noRoL_bys], ?_⟩
 conv => whnf
 by_cases c1 : li.n ≠ 3
 ·rw [if_pos c1]
  refine ifB_pos (dt c1) ?_
  conv => whnf
  repeat ((first | refine ⟨(⟨by kernel_rfl, by kernel_rfl, Nat.le_of_ble_eq_true (by kernel_rfl)⟩ : AV.ones _ = true ∧ _ ∧ _), ?_⟩ | refine ⟨_, rfl, ?_⟩); conv => whnf)
  refine ent0_int_dems (by kernel_rfl) ?_
  rfl
 rw [if_neg c1]
 refine ifB_neg (df c1) ?_
 conv => whnf
 repeat ((first | refine ⟨rfl, ?_⟩ | (refine And.intro ?_ ?_; (focus (first | (simp only [pureL, pureV, pureL_bys, Bool.and_true, Bool.and_self]; done) | (simp only [pureL, pureV, pureL_bys, pureL_toks, Bool.and_true, Bool.and_self]; done))))); conv => whnf)
 refine ⟨_, _, h7, by first | rfl | simp [noRoIf, noRoL, noRoV, noRoL_bys], ?_⟩
 conv => whnf
 repeat ((first | refine ⟨rfl, ?_⟩ | (refine And.intro ?_ ?_; (focus (first | (simp only [pureL, pureV, pureL_bys, Bool.and_true, Bool.and_self]; done) | (simp only [pureL, pureV, pureL_bys, pureL_toks, Bool.and_true, Bool.and_self]; done))))); conv => whnf)
 refine ⟨_, _, h8, by first | rfl | simp [noRoIf, noRoL, noRoV, noRoL_bys], ?_⟩
 conv => whnf
 repeat ((first | refine ⟨rfl, ?_⟩ | (refine And.intro ?_ ?_; (focus (first | (simp only [pureL, pureV, pureL_bys, Bool.and_true, Bool.and_self]; done) | (simp only [pureL, pureV, pureL_bys, pureL_toks, Bool.and_true, Bool.and_self]; done))))); conv => whnf)
 refine ⟨_, _, h9, by first | rfl | simp [noRoIf, noRoL, noRoV, noRoL_bys], ?_⟩
 conv => whnf
 repeat ((first | refine ⟨pureL_bys _, ?_⟩ | refine ⟨rfl, ?_⟩); conv => whnf)
 refine ⟨_, _, hcl, by first | rfl | simp [noRoIf, noRoL, noRoV, noRoL_bys], ?_⟩
 conv => whnf
 repeat ((refine ⟨(⟨by kernel_rfl, by kernel_rfl, Nat.le_of_ble_eq_true (by kernel_rfl)⟩ : AV.ones _ = true ∧ _ ∧ _), ?_⟩); conv => whnf)
 refine Does.tidy [(2, .ptr 0 0), (4, .ptr 1 0), (5, .ptr 2 0)] [(0, zeroE), (1, rowC r9), (2, entV ⟨au, s.n, prev, st.n, ki.n, ke.b, va.b, z64⟩ (.sl 3 0 va.b.length 1 false)), (3, bys va.b)] 4 45 rfl rfl rfl (by kernel_rfl) (by kernel_rfl) ?_
 clear h6 h7 h8 h9 hcl
 refine wpc_sound (M := ME) (PL := PL0) (CU := noCut) TTok mixed _ _ _ ?_
 conv => whnf
 repeat ((first | refine ⟨rfl, ?_⟩ | (refine And.intro ?_ ?_; (focus (first | (simp only [pureL, pureV, pureL_bys, Bool.and_true, Bool.and_self]; done) | (simp only [pureL, pureV, pureL_bys, pureL_toks, Bool.and_true, Bool.and_self]; done))))); conv => whnf)
 refine ⟨_, _, h10, by first | rfl | simp [noRoIf, noRoL, noRoV, noRoL_bys], ?_⟩
 conv => whnf
 repeat ((refine ⟨(⟨by kernel_rfl, by kernel_rfl, Nat.le_of_ble_eq_true (by kernel_rfl)⟩ : AV.ones _ = true ∧ _ ∧ _), ?_⟩); conv => whnf)
 refine Does.freeze 3 rfl (Does.tidy [(2, .ptr 0 0), (4, .ptr 1 0), (5, .ptr 2 0)] [(0, zeroE), (1, rowC r10), (2, entC ⟨au, s.n, prev, st.n, ki.n, ke.b, va.b, sig⟩)] 4 45 rfl rfl rfl (by kernel_rfl) (by rw [← entV_whole]; kernel_rfl) ?_)
 clear h10
 generalize (⟨au, s.n, prev, st.n, ki.n, ke.b, va.b, sig⟩ : Ent) = e at h12 ⊢
 refine wpc_sound (M := ME) (PL := PL0) (CU := noCut) TTok mixed _ _ _ ?_
 conv => whnf
 repeat ((first | refine ⟨rfl, ?_⟩ | (refine And.intro ?_ ?_; (focus (first | (simp only [pureL, pureV, pureL_bys, Bool.and_true, Bool.and_self]; done) | (simp only [pureL, pureV, pureL_bys, pureL_toks, Bool.and_true, Bool.and_self]; done))))); conv => whnf)
 refine ⟨_, _, h11, by first | rfl | simp [noRoIf, noRoL, noRoV, noRoL_bys], ?_⟩
 conv => whnf
 cases dn
 ·conv => whnf
  repeat ((first | refine ifB_t ?_ | refine ⟨(⟨by kernel_rfl, by kernel_rfl, Nat.le_of_ble_eq_true (by kernel_rfl)⟩ : AV.ones _ = true ∧ _ ∧ _), ?_⟩ | refine ⟨_, rfl, ?_⟩); conv => whnf)
  refine ent0_int_dems (by kernel_rfl) ?_
  rfl
 simp only [if_true]
 cases c2 : entR e <;> rw [c2] at h12
 ·conv => whnf
  repeat ((first | refine ifB_f ?_ | refine ⟨entC_pure _, ?_⟩ | refine ⟨rfl, ?_⟩ | refine ⟨_, rfl, ?_⟩); conv => whnf)
  refine ⟨_, _, h12, by first | rfl | simp [noRoIf, noRoL, noRoV, noRoL_bys], ?_⟩
  conv => whnf
  repeat ((first | refine ifB_t ?_ | refine ifB_f ?_ | refine ⟨(⟨by kernel_rfl, by kernel_rfl, Nat.le_of_ble_eq_true (by kernel_rfl)⟩ : AV.ones _ = true ∧ _ ∧ _), ?_⟩ | refine ⟨_, rfl, ?_⟩); conv => whnf)
  refine ent0_int_dems (by kernel_rfl) ?_
  rfl
 ·conv => whnf
  repeat ((first | refine ifB_f ?_ | refine ⟨entC_pure _, ?_⟩ | refine ⟨rfl, ?_⟩ | refine ⟨_, rfl, ?_⟩); conv => whnf)
  refine ⟨_, _, h12, by first | rfl | simp [noRoIf, noRoL, noRoV, noRoL_bys], ?_⟩
  conv => whnf
  repeat ((refine ifB_f ?_); conv => whnf)
  refine Does.tidy [(2, .ptr 0 0), (5, .ptr 2 0)] [(0, zeroE), (1, rowC r10), (2, entC e)] 4 45 rfl rfl rfl (by kernel_rfl) (by kernel_rfl) ?_
  refine wpc_sound (M := ME) (PL := PL0) (CU := noCut) TTok mixed _ _ _ ?_
  conv => whnf
  refine ⟨entC e, by kernel_rfl, ?_⟩
  conv => whnf
  refine ⟨(⟨by kernel_rfl, by kernel_rfl, Nat.le_of_ble_eq_true (by kernel_rfl)⟩ : AV.ones _ = true ∧ _ ∧ _), ?_⟩
  conv => whnf
  refine ⟨entC e, by kernel_rfl, ?_⟩
  conv => whnf
  refine ent_int_dems (by kernel_rfl) ?_
  rfl
theorem rdE_entS {r : Rw} (h : RwOk r) : EntS (rdE r).1 ∧ ((rdE r).2 = 0 → entR (rdE r).1 = true) := by
 have z : EntS ent0 := by
  have hz : Byt z32 := fun x hx => by simp only [z32, List.mem_replicate] at hx; omega
  have hz' : Byt z64 := fun x hx => by simp only [z64, List.mem_replicate] at hx; omega
  have hn : Byt [] := fun x hx => absurd hx (List.not_mem_nil)
  exact { au := ⟨hz, rfl⟩, seq := by decide, prev := ⟨hz, rfl⟩, stamp := by decide, kind := by decide, key := ⟨hn, by decide⟩, val := ⟨hn, by decide⟩, sig := ⟨hz', rfl⟩, key' := by decide, val' := by decide }
 unfold rdE
 have k2 := rArr_rok h 32
 generalize rArr 32 r = q at k2 ⊢
 obtain ⟨au, r2⟩ := q
 dsimp only at k2 ⊢
 have k3 := rNext_rok k2.1 1
 generalize rNext 1 r2 = q at k3 ⊢
 obtain ⟨s, r3⟩ := q
 dsimp only at k3 ⊢
 have k4 := rArr_rok k3.1 32
 generalize rArr 32 r3 = q at k4 ⊢
 obtain ⟨prev, r4⟩ := q
 dsimp only at k4 ⊢
 have k5 := rNext_rok k4.1 1
 generalize rNext 1 r4 = q at k5 ⊢
 obtain ⟨st, r5⟩ := q
 dsimp only at k5 ⊢
 have k6 := rNext_rok k5.1 5
 generalize rNext 5 r5 = q at k6 ⊢
 obtain ⟨li, r6⟩ := q
 dsimp only at k6 ⊢
 have k7 := rNext_rok k6.1 1
 generalize rNext 1 r6 = q at k7 ⊢
 obtain ⟨ki, r7⟩ := q
 dsimp only at k7 ⊢
 have k8 := rNext_rok k7.1 4
 generalize rNext 4 r7 = q at k8 ⊢
 obtain ⟨ke, r8⟩ := q
 dsimp only at k8 ⊢
 have k9 := rNext_rok k8.1 3
 generalize rNext 3 r8 = q at k9 ⊢
 obtain ⟨va, r9⟩ := q
 dsimp only at k9 ⊢
 have k10 := rArr_rok k9.1 64
 generalize rArr 64 r9 = q at k10 ⊢
 obtain ⟨sig, r10⟩ := q
 dsimp only at k10 ⊢
 split
 ·exact ⟨z, fun e => by cases e⟩
 ·split
  ·split
   ·rename_i c
    exact ⟨{ au := k2.2, seq := k3.2.1.2.1, prev := k4.2, stamp := k5.2.1.2.1, kind := k7.2.1.2.1, key := ⟨k8.2.1.2.2, by have := k8.2.2; dsimp only; omega⟩, val := ⟨k9.2.1.2.2, by have := k9.2.2; dsimp only; omega⟩, sig := k10.2, key' := k8.2.2, val' := k9.2.2 }, fun _ => c⟩
   ·exact ⟨z, fun e => by cases e⟩
  ·exact ⟨z, fun e => by cases e⟩
theorem rdEnt_entS {b : List Int} (hb : Byt b) (hl : b.length ≤ 1000000000) : EntS (rdEnt b).1 ∧ ((rdEnt b).2 = 0 → entR (rdEnt b).1 = true) := rdE_entS (rWant_rok (rOpen_rok hb hl) 7 1)
end
section
--KR
attribute [local irreducible] ifB fitP Does Weaker
structure Prf where
 a : Ent
 b : Ent
 deriving DecidableEq
def prfC (p : Prf) : List AV := entC p.a ++ entC p.b
structure PrfS (p : Prf) : Prop where
 a : EntS p.a
 b : EntS p.b
def prf0 : Prf := ⟨ent0, ent0⟩
theorem entB_byt {e : Ent} (he : EntS e) : Byt (entB e).1 ∧ (entB e).1.length ≤ 32768 := by
 unfold entB
 split
 ·refine ⟨encR_byt _ (entTs_ok e he).1, ?_⟩
  rcases encR_or validR (entTs e) with h | ⟨a, h⟩
  ·rw [h]; simp
  ·have := encR_len h
   rw [h]; exact this
 ·exact ⟨fun x hx => absurd hx (List.not_mem_nil), by simp⟩
theorem ent_dems' {H : Heap} (e : Ent) {r q : List AV} {K : List Nat → Prop} (h : demsP H r q K) : demsP H (entC e ++ r) (entC e ++ q) K := by
 unfold entC
 simp only [c32_app, List.cons_append]
 refine c32_dems ?_
 simp only [demsP, demP, and_self, true_and, List.nil_append]
 refine c32_dems ?_
 simp only [demsP, demP, and_self, true_and, List.nil_append]
 refine ⟨pureL_bys _, ?_⟩
 simp only [c64_app]
 exact c64_dems h
theorem ent0_dems' {H : Heap} {r q : List AV} {K : List Nat → Prop} (h : demsP H r q K) : demsP H (entC ent0 ++ r) (zeroE ++ q) K := by
 unfold entC zeroE entV
 simp only [c32_app, List.cons_append]
 refine c32_dems ?_
 simp only [demsP, demP, and_self, true_and, List.nil_append]
 refine c32_dems ?_
 simp only [demsP, demP, and_self, true_and, List.nil_append]
 refine ⟨⟨rfl, rfl⟩, ?_⟩
 simp only [c64_app]
 exact c64_dems h
theorem prf_int_dems {H : Heap} {p : Prf} {n : Int} {zs : List AV} {K : List Nat → Prop} (hz : zs = prfC p) (h : K []) : demsP H [.tuple [.agg (prfC p), .int .i64 n]] [.tuple [.agg zs, .int .i64 n]] K := by
 subst hz
 simp only [demsP, demP]
 refine ent_dems' p.a ?_
 refine ent_dems p.b ?_
 simpa only [and_self, true_and, List.nil_append] using h
theorem prf0_int_dems {H : Heap} {n : Int} {zs : List AV} {K : List Nat → Prop} (hz : zs = zeroE ++ zeroE) (h : K []) : demsP H [.tuple [.agg (prfC prf0), .int .i64 n]] [.tuple [.agg zs, .int .i64 n]] K := by
 subst hz
 simp only [demsP, demP]
 refine ent0_dems' ?_
 refine ent0_dems ?_
 simpa only [and_self, true_and, List.nil_append] using h
def ordR (a b : Ent) : Int := if (entB a).2 ≠ 0 then 0 else if (entB b).2 ≠ 0 then 0 else if a.au ≠ b.au then 0 else if a.seq ≠ b.seq then 0 else cmpI (entB a).1 (entB b).1
def prfR (p : Prf) : Bool := decide (ordR p.a p.b < 0)
set_option maxHeartbeats 1000000 in
theorem order_ok (a b : Ent) (ha : EntS a) (hb : EntS b) : ACall Tryz.prog 43 [.agg (entC a), .agg (entC b)] (.int .i64 (ordR a b)) [] := by
 have h1 := ebytes_ok a ha
 have h2 := ebytes_ok b hb
 have b1 := entB_byt ha
 have b2 := entB_byt hb
 unfold ordR
 generalize entB a = p at h1 b1 ⊢
 generalize entB b = q at h2 b2 ⊢
 obtain ⟨x, e⟩ := p
 obtain ⟨y, f⟩ := q
 dsimp only at h1 b1 h2 b2 ⊢
 have hc := compare_ok x y b1.1 b2.1
 refine ACall.of_does TTok Tryz.func43 rfl Tryz.call43 rfl (wpc_sound (M := ME) (PL := PL0) (CU := cutAt [100003]) TTok mixed _ _ _ ?_)
 conv => whnf
 repeat ((first | refine ⟨entC_pure _, ?_⟩ | refine ⟨rfl, ?_⟩ | refine ⟨_, rfl, ?_⟩); conv => whnf)
 refine ⟨_, _, h1, by first | rfl | simp [noRoIf, noRoL, noRoV, noRoL_bys], ?_⟩
 conv => whnf
 repeat ((first | refine ⟨entC_pure _, ?_⟩ | refine ⟨rfl, ?_⟩ | refine ⟨_, rfl, ?_⟩); conv => whnf)
 refine ⟨_, _, h2, by first | rfl | simp [noRoIf, noRoL, noRoV, noRoL_bys], ?_⟩
 conv => whnf
 refine Does.tidy [(2, .ptr 0 0), (3, .ptr 1 0), (5, .sl 2 0 x.length 1 false), (6, .int .i64 e), (7, .sl 3 0 y.length 1 false), (8, .int .i64 f)] [(0, entC a), (1, entC b), (2, bys x), (3, bys y)] 4 42 rfl rfl rfl (by kernel_rfl) (by kernel_rfl) ?_
 refine wpc_sound (M := ME) (PL := PL0) (CU := noCut) TTok mixed _ _ _ ?_
 by_cases c1 : e ≠ 0
 ·rw [if_pos c1]
  conv => whnf
  repeat ((first | refine ifB_t ?_ | (refine ifB_pos (decide_eq_true (by first | omega | rfl | (dsimp only; omega))) ?_) | refine ⟨⟨rfl, rfl⟩, ?_⟩); conv => whnf)
  rfl
 rw [if_neg c1]
 by_cases c2 : f ≠ 0
 ·rw [if_pos c2]
  conv => whnf
  repeat ((first | refine ifB_t ?_ | refine ifB_f ?_ | (refine ifB_neg (decide_eq_false (by first | omega | rfl | (dsimp only; omega))) ?_) | (refine ifB_pos (decide_eq_true (by first | omega | rfl | (dsimp only; omega))) ?_) | refine ⟨⟨rfl, rfl⟩, ?_⟩); conv => whnf)
  rfl
 rw [if_neg c2]
 by_cases c3 : a.au ≠ b.au
 ·rw [if_pos c3]
  conv => whnf
  repeat ((first | refine ifB_f ?_ | (refine ifB_neg (decide_eq_false (by first | omega | rfl | (dsimp only; omega))) ?_) | refine ⟨_, rfl, ?_⟩); conv => whnf)
  refine ⟨a.au, b.au, ⟨rfl, c32_map ha.au.2, c32_map hb.au.2, ha.au.2, hb.au.2⟩, ?_⟩
  conv => whnf
  repeat ((refine ifB_f ?_); conv => whnf)
  rw [df (show ¬ a.au = b.au from c3)]
  conv => whnf
  repeat ((first | refine ifB_t ?_ | refine ⟨⟨rfl, rfl⟩, ?_⟩); conv => whnf)
  rfl
 rw [if_neg c3]
 by_cases c4 : a.seq ≠ b.seq
 ·rw [if_pos c4]
  conv => whnf
  repeat ((first | refine ifB_f ?_ | (refine ifB_neg (decide_eq_false (by first | omega | rfl | (dsimp only; omega))) ?_) | refine ⟨_, rfl, ?_⟩); conv => whnf)
  refine ⟨a.au, b.au, ⟨rfl, c32_map ha.au.2, c32_map hb.au.2, ha.au.2, hb.au.2⟩, ?_⟩
  conv => whnf
  repeat ((refine ifB_f ?_); conv => whnf)
  rw [dt (show a.au = b.au from Classical.not_not.1 c3)]
  conv => whnf
  repeat ((first | refine ifB_f ?_ | (refine ifB_pos (decide_eq_true (by first | omega | rfl | (dsimp only; omega))) ?_) | refine ⟨_, rfl, ?_⟩ | refine ⟨⟨rfl, rfl⟩, ?_⟩); conv => whnf)
  rfl
 rw [if_neg c4]
 conv => whnf
 repeat ((first | refine ifB_f ?_ | (refine ifB_neg (decide_eq_false (by first | omega | rfl | (dsimp only; omega))) ?_) | refine ⟨_, rfl, ?_⟩); conv => whnf)
 refine ⟨a.au, b.au, ⟨rfl, c32_map ha.au.2, c32_map hb.au.2, ha.au.2, hb.au.2⟩, ?_⟩
 conv => whnf
 repeat ((refine ifB_f ?_); conv => whnf)
 rw [dt (show a.au = b.au from Classical.not_not.1 c3)]
 conv => whnf
 repeat ((first | refine ifB_f ?_ | (refine ifB_neg (decide_eq_false (by first | omega | rfl | (dsimp only; omega))) ?_) | refine ⟨pureL_bys _, ?_⟩ | (refine Or.inl ⟨⟨rfl, ?_⟩, ?_⟩; (focus (first | rfl | (simp; done) | (rw [toksC_length]; omega)))) | refine ⟨rfl, ?_⟩ | refine ⟨_, rfl, ?_⟩); conv => whnf)
 refine ⟨_, _, hc, by first | rfl | simp [noRoIf, noRoL, noRoV, noRoL_bys], ?_⟩
 conv => whnf
 repeat ((refine ⟨⟨rfl, rfl⟩, ?_⟩); conv => whnf)
 rfl
def prfB (p : Prf) : List Int × Int := if prfR p then encR validR [⟨5, 3, []⟩, ⟨1, 2, []⟩, ⟨3, 0, (entB p.a).1⟩, ⟨3, 0, (entB p.b).1⟩] else ([], 1)
set_option maxRecDepth 20000 in
set_option maxHeartbeats 1000000 in
theorem check_proof_ok (p : Prf) (hp : PrfS p) : ACall Tryz.prog 23 [.agg (prfC p)] (.int .i64 (if prfR p then 0 else 1)) [] := by
 have h := order_ok p.a p.b hp.a hp.b
 unfold prfR
 refine ACall.of_does TTok Tryz.func23 rfl Tryz.call23 rfl (wpc_sound (M := ME) (PL := PL0) (CU := noCut) TTok mixed _ _ _ ?_)
 conv => whnf
 repeat ((first | refine ⟨entC_pure _, ?_⟩ | refine ⟨rfl, ?_⟩ | refine ⟨_, rfl, ?_⟩); conv => whnf)
 refine ⟨_, _, h, by first | rfl | simp [noRoIf, noRoL, noRoV, noRoL_bys], ?_⟩
 conv => whnf
 refine ifB_dec (fun c => ?_) (fun c => ?_)
 ·rw [df (show ¬ ordR p.a p.b < 0 by omega)]
  conv => whnf
  repeat ((refine ⟨⟨rfl, rfl⟩, ?_⟩); conv => whnf)
  rfl
 ·rw [dt (show ordR p.a p.b < 0 by omega)]
  conv => whnf
  repeat ((refine ⟨⟨rfl, rfl⟩, ?_⟩); conv => whnf)
  rfl
set_option maxRecDepth 20000 in
set_option maxHeartbeats 1000000 in
theorem pbytes_ok (p : Prf) (hp : PrfS p) : ACall Tryz.prog 25 [.agg (prfC p)] (.tuple [.own (prfB p).1.length 1 (bys (prfB p).1), .int .i64 (prfB p).2]) [] := by
 have hc := check_proof_ok p hp
 have h1 := ebytes_ok p.a hp.a
 have h2 := ebytes_ok p.b hp.b
 have b1 := entB_byt hp.a
 have b2 := entB_byt hp.b
 unfold prfB
 generalize entB p.a = x at h1 b1 ⊢
 generalize entB p.b = y at h2 b2 ⊢
 obtain ⟨x, e⟩ := x
 obtain ⟨y, f⟩ := y
 dsimp only at h1 b1 h2 b2 ⊢
 refine ACall.of_does TTok Tryz.func25 rfl Tryz.call25 rfl (wpc_sound (M := ME) (PL := PL0) (CU := cutAt [100006]) TTok mixed _ _ _ ?_)
 cases c1 : prfR p <;> rw [c1] at hc
 ·conv => whnf
  repeat ((first | refine ⟨rfl, ?_⟩ | refine ⟨_, rfl, ?_⟩ | (refine And.intro ?_ ?_; (focus (first | (simp only [pureL, pureV, pureL_bys, Bool.and_true, Bool.and_self]; done) | (simp only [pureL, pureV, pureL_bys, pureL_toks, Bool.and_true, Bool.and_self]; done))))); conv => whnf)
  refine ⟨_, _, hc, by first | rfl | simp [noRoIf, noRoL, noRoV, noRoL_bys], ?_⟩
  conv => whnf
  repeat ((first | refine ifB_t ?_ | refine ⟨⟨rfl, rfl⟩, ?_⟩); conv => whnf)
  rfl
 have hb := encode_ok [⟨5, 3, []⟩, ⟨1, 2, []⟩, ⟨3, 0, x⟩, ⟨3, 0, y⟩] (by
  intro t ht
  simp only [List.mem_cons, List.not_mem_nil, or_false] at ht
  rcases ht with rfl | rfl | rfl | rfl
  all_goals refine ⟨by dsimp only; omega, by dsimp only; omega, ?_⟩
  all_goals first | exact fun x hx => absurd hx (List.not_mem_nil) | exact b1.1 | exact b2.1) (by
  intro t ht
  simp only [List.mem_cons, List.not_mem_nil, or_false] at ht
  have := b1.2
  have := b2.2
  rcases ht with rfl | rfl | rfl | rfl
  all_goals dsimp only
  all_goals first | omega | (simp; done))
 conv => whnf
 repeat ((first | refine ⟨rfl, ?_⟩ | refine ⟨_, rfl, ?_⟩ | (refine And.intro ?_ ?_; (focus (first | (simp only [pureL, pureV, pureL_bys, Bool.and_true, Bool.and_self]; done) | (simp only [pureL, pureV, pureL_bys, pureL_toks, Bool.and_true, Bool.and_self]; done))))); conv => whnf)
 refine ⟨_, _, hc, by first | rfl | simp [noRoIf, noRoL, noRoV, noRoL_bys], ?_⟩
 conv => whnf
 repeat ((first | refine ifB_f ?_ | refine ⟨entC_pure _, ?_⟩ | refine ⟨rfl, ?_⟩ | refine ⟨_, rfl, ?_⟩); conv => whnf)
 refine ⟨_, _, h1, by first | rfl | simp [noRoIf, noRoL, noRoV, noRoL_bys], ?_⟩
 conv => whnf
 repeat ((first | refine ⟨entC_pure _, ?_⟩ | refine ⟨rfl, ?_⟩ | refine ⟨_, rfl, ?_⟩); conv => whnf)
 refine ⟨_, _, h2, by first | rfl | simp [noRoIf, noRoL, noRoV, noRoL_bys], ?_⟩
 conv => whnf
 refine Does.freeze 1 rfl (Does.freeze 2 (zs := bys y) (by show some (frzL 1 _ (bys y)) = _; rw [frzL_bys]) (Does.tidy [(5, roW x), (7, roW y)] [(0, prfC p)] 3 36 rfl rfl rfl (by kernel_rfl) (by kernel_rfl) ?_))
 rw [roW_eq, roW_eq]
 clear hc h1 h2
 refine wpc_sound (M := ME) (PL := PL0) (CU := noCut) TTok mixed _ _ _ ?_
 conv => whnf
 repeat ((refine ⟨rfl, ?_⟩); conv => whnf)
 refine ⟨_, _, list_ok 3, by first | rfl | simp [noRoIf, noRoL, noRoV, noRoL_bys], ?_⟩
 conv => whnf
 repeat ((refine ⟨rfl, ?_⟩); conv => whnf)
 refine ⟨_, _, num_ok 2, by first | rfl | simp [noRoIf, noRoL, noRoV, noRoL_bys], ?_⟩
 conv => whnf
 repeat ((first | refine ⟨pureL_bys _, ?_⟩ | refine ⟨rfl, ?_⟩); conv => whnf)
 refine ⟨_, _, cstr_ok x, by first | rfl | simp [noRoIf, noRoL, noRoV, noRoL_bys], ?_⟩
 conv => whnf
 repeat ((first | refine ⟨pureL_bys _, ?_⟩ | refine ⟨rfl, ?_⟩); conv => whnf)
 refine ⟨_, _, cstr_ok y, by first | rfl | simp [noRoIf, noRoL, noRoV, noRoL_bys], ?_⟩
 conv => whnf
 repeat ((first | (refine Or.inl ⟨⟨rfl, ?_⟩, ?_⟩; (focus (first | rfl | (simp; done) | (rw [toksC_length]; omega)))) | refine ⟨rfl, ?_⟩ | refine ⟨⟨rfl, rfl⟩, ?_⟩ | (refine And.intro ?_ ?_; (focus (first | (simp only [pureL, pureV, pureL_bys, Bool.and_true, Bool.and_self]; done) | (simp only [pureL, pureV, pureL_bys, pureL_toks, Bool.and_true, Bool.and_self]; done))))); conv => whnf)
 refine ⟨_, _, hb, by first | rfl | simp [noRoIf, noRoL, noRoV, noRoL_bys], ?_⟩
 conv => whnf
 repeat ((first | refine ⟨⟨rfl, rfl⟩, ?_⟩ | (refine ⟨⟨rfl, rfl, rfl, ?_, pureL_bys _⟩, ?_⟩; (focus (simp; done)))); conv => whnf)
 rfl
end
section
--KR
attribute [local irreducible] ifB fitP Does Weaker demsP
def rdP (r : Rw) : Prf × Int :=
 match rNext 3 r with
 | (x, r1) => match rNext 3 r1 with
  | (y, r2) => if (!r2.bad && decide (r2.l = [])) = true then (if (rdEnt x.b).2 ≠ 0 then (prf0, 3) else if (rdEnt y.b).2 ≠ 0 then (prf0, 3) else if prfR ⟨(rdEnt x.b).1, (rdEnt y.b).1⟩ = true then (⟨(rdEnt x.b).1, (rdEnt y.b).1⟩, 0) else (prf0, 3)) else (prf0, 3)
def rdPrf (b : List Int) : Prf × Int := rdP (rWant 3 2 (rOpen b))
set_option maxRecDepth 20000 in
set_option maxHeartbeats 2000000 in
theorem pread_ok (b : List Int) (hb : Byt b) (hl : b.length ≤ 1000000000) : ACall Tryz.prog 39 [.ro b.length (bys b)] (.tuple [.agg (prfC (rdPrf b).1), .int .i64 (rdPrf b).2]) [] := by
 have k0 := rOpen_rok hb hl
 have h0 := open_ok b hb (by omega)
 unfold rdPrf
 generalize rOpen b = r0 at k0 h0 ⊢
 have h1 := rwant_ok r0 3 2
 have k1 := rWant_rok k0 3 2
 generalize rWant 3 2 r0 = r1 at h1 k1 ⊢
 unfold rdP
 have h2 := rstr_ok r1
 have k2 := rNext_rok k1 3
 generalize rNext 3 r1 = q at h2 k2 ⊢
 obtain ⟨x, r2⟩ := q
 dsimp only at h2 k2 ⊢
 have h3 := rstr_ok r2
 have k3 := rNext_rok k2.1 3
 generalize rNext 3 r2 = q at h3 k3 ⊢
 obtain ⟨y, r3⟩ := q
 dsimp only at h3 k3 ⊢
 have h4 := rdone_ok r3
 generalize (!r3.bad && decide (r3.l = [])) = dn at h4 ⊢
 obtain ⟨_, _, x⟩ := x
 obtain ⟨_, _, y⟩ := y
 dsimp only at k2 k3 h2 h3 ⊢
 have h5 := eread_ok x k2.2.1.2.2 k2.2.2
 have e5 := (rdEnt_entS k2.2.1.2.2 k2.2.2).1
 generalize rdEnt x = q at h5 e5 ⊢
 obtain ⟨a, e⟩ := q
 have h6 := eread_ok y k3.2.1.2.2 k3.2.2
 have e6 := (rdEnt_entS k3.2.1.2.2 k3.2.2).1
 generalize rdEnt y = q at h6 e6 ⊢
 obtain ⟨c, f⟩ := q
 dsimp only at h5 e5 h6 e6 ⊢
 have h7 := check_proof_ok ⟨a, c⟩ ⟨e5, e6⟩
 refine ACall.of_does TTok Tryz.func39 rfl Tryz.call39 rfl (wpc_sound (M := ME) (PL := PL0) (CU := cutAt [100006, 100007, 100008, 100009, 100011]) TTok mixed _ _ _ ?_)
 conv => whnf
 repeat ((first | refine ⟨pureL_bys _, ?_⟩ | refine ⟨rfl, ?_⟩); conv => whnf)
 refine ⟨_, _, h0, by first | rfl | simp [noRoIf, noRoL, noRoV, noRoL_bys], ?_⟩
 conv => whnf
 repeat ((first | refine ⟨rfl, ?_⟩ | (refine And.intro ?_ ?_; (focus (first | (simp only [pureL, pureV, pureL_bys, Bool.and_true, Bool.and_self]; done) | (simp only [pureL, pureV, pureL_bys, pureL_toks, Bool.and_true, Bool.and_self]; done))))); conv => whnf)
 refine ⟨_, _, h1, by first | rfl | simp [noRoIf, noRoL, noRoV, noRoL_bys], ?_⟩
 conv => whnf
 repeat ((first | refine ⟨rfl, ?_⟩ | (refine And.intro ?_ ?_; (focus (first | (simp only [pureL, pureV, pureL_bys, Bool.and_true, Bool.and_self]; done) | (simp only [pureL, pureV, pureL_bys, pureL_toks, Bool.and_true, Bool.and_self]; done))))); conv => whnf)
 refine ⟨_, _, h2, by first | rfl | simp [noRoIf, noRoL, noRoV, noRoL_bys], ?_⟩
 conv => whnf
 repeat ((first | refine ⟨rfl, ?_⟩ | (refine And.intro ?_ ?_; (focus (first | (simp only [pureL, pureV, pureL_bys, Bool.and_true, Bool.and_self]; done) | (simp only [pureL, pureV, pureL_bys, pureL_toks, Bool.and_true, Bool.and_self]; done))))); conv => whnf)
 refine ⟨_, _, h3, by first | rfl | simp [noRoIf, noRoL, noRoV, noRoL_bys], ?_⟩
 conv => whnf
 repeat ((first | refine ⟨rfl, ?_⟩ | (refine And.intro ?_ ?_; (focus (first | (simp only [pureL, pureV, pureL_bys, Bool.and_true, Bool.and_self]; done) | (simp only [pureL, pureV, pureL_bys, pureL_toks, Bool.and_true, Bool.and_self]; done))))); conv => whnf)
 refine ⟨_, _, h4, by first | rfl | simp [noRoIf, noRoL, noRoV, noRoL_bys], ?_⟩
 conv => whnf
 cases dn
 ·conv => whnf
  repeat ((first | refine ifB_t ?_ | refine ⟨(⟨by kernel_rfl, by kernel_rfl, Nat.le_of_ble_eq_true (by kernel_rfl)⟩ : AV.ones _ = true ∧ _ ∧ _), ?_⟩ | refine ⟨_, rfl, ?_⟩); conv => whnf)
  refine prf0_int_dems (by kernel_rfl) ?_
  rfl
 simp only [if_true]
 conv => whnf
 repeat ((refine ifB_f ?_); conv => whnf)
 refine Does.tidy [(2, .ptr 0 0), (5, .ro x.length (bys x)), (6, .ro y.length (bys y))] [(0, zeroE ++ zeroE), (1, rowC r3)] 2 50 rfl rfl rfl (by kernel_rfl) (by kernel_rfl) ?_
 clear h0 h1 h2 h3 h4
 refine wpc_sound (M := ME) (PL := PL0) (CU := noCut) TTok mixed _ _ _ ?_
 conv => whnf
 repeat ((first | refine ⟨pureL_bys _, ?_⟩ | refine ⟨rfl, ?_⟩); conv => whnf)
 refine ⟨_, _, h5, by first | rfl | simp [noRoIf, noRoL, noRoV, noRoL_bys], ?_⟩
 conv => whnf
 repeat ((first | refine ⟨(⟨by kernel_rfl, by kernel_rfl, Nat.le_of_ble_eq_true (by kernel_rfl)⟩ : AV.ones _ = true ∧ _ ∧ _), ?_⟩ | refine ⟨rfl, ?_⟩); conv => whnf)
 refine Does.tidy [(2, .ptr 0 0), (6, .ro y.length (bys y)), (7, .ptr 2 0), (8, .int .i64 e)] [(0, zeroE ++ zeroE), (1, rowC r3), (2, entC a)] 3 50 rfl rfl rfl (by kernel_rfl) (by kernel_rfl) ?_
 clear h5
 refine wpc_sound (M := ME) (PL := PL0) (CU := noCut) TTok mixed _ _ _ ?_
 conv => whnf
 repeat ((first | refine ⟨pureL_bys _, ?_⟩ | refine ⟨rfl, ?_⟩); conv => whnf)
 refine ⟨_, _, h6, by first | rfl | simp [noRoIf, noRoL, noRoV, noRoL_bys], ?_⟩
 conv => whnf
 repeat ((first | refine ⟨(⟨by kernel_rfl, by kernel_rfl, Nat.le_of_ble_eq_true (by kernel_rfl)⟩ : AV.ones _ = true ∧ _ ∧ _), ?_⟩ | refine ⟨rfl, ?_⟩); conv => whnf)
 refine Does.tidy [(2, .ptr 0 0), (7, .ptr 2 0), (8, .int .i64 e), (9, .ptr 3 0), (10, .int .i64 f)] [(0, zeroE ++ zeroE), (1, rowC r3), (2, entC a), (3, entC c)] 4 50 rfl rfl rfl (by kernel_rfl) (by kernel_rfl) ?_
 clear h6
 refine wpc_sound (M := ME) (PL := PL0) (CU := noCut) TTok mixed _ _ _ ?_
 conv => whnf
 repeat ((first | refine ⟨(⟨by kernel_rfl, by kernel_rfl, Nat.le_of_ble_eq_true (by kernel_rfl)⟩ : AV.ones _ = true ∧ _ ∧ _), ?_⟩ | refine ⟨rfl, ?_⟩ | refine ⟨_, rfl, ?_⟩ | refine ⟨⟨rfl, rfl⟩, ?_⟩); conv => whnf)
 refine Does.tidy [(2, .ptr 0 0), (8, .int .i64 e), (10, .int .i64 f), (11, .ptr 4 0)] [(0, zeroE ++ zeroE), (1, rowC r3), (2, entC a), (3, entC c), (4, prfC ⟨a, c⟩)] 5 50 rfl rfl rfl (by kernel_rfl) (by kernel_rfl) ?_
 refine wpc_sound (M := ME) (PL := PL0) (CU := noCut) TTok mixed _ _ _ ?_
 by_cases c1 : e ≠ 0
 ·rw [if_pos c1]
  conv => whnf
  repeat ((first | refine ifB_t ?_ | (refine ifB_pos (decide_eq_true (by first | omega | rfl | (dsimp only; omega))) ?_) | refine ⟨(⟨by kernel_rfl, by kernel_rfl, Nat.le_of_ble_eq_true (by kernel_rfl)⟩ : AV.ones _ = true ∧ _ ∧ _), ?_⟩ | refine ⟨_, rfl, ?_⟩); conv => whnf)
  refine prf0_int_dems (by kernel_rfl) ?_
  rfl
 rw [if_neg c1]
 by_cases c2 : f ≠ 0
 ·rw [if_pos c2]
  conv => whnf
  repeat ((first | refine ifB_t ?_ | refine ifB_f ?_ | (refine ifB_neg (decide_eq_false (by first | omega | rfl | (dsimp only; omega))) ?_) | (refine ifB_pos (decide_eq_true (by first | omega | rfl | (dsimp only; omega))) ?_) | refine ⟨(⟨by kernel_rfl, by kernel_rfl, Nat.le_of_ble_eq_true (by kernel_rfl)⟩ : AV.ones _ = true ∧ _ ∧ _), ?_⟩ | refine ⟨_, rfl, ?_⟩); conv => whnf)
  refine prf0_int_dems (by kernel_rfl) ?_
  rfl
 rw [if_neg c2]
 generalize (⟨a, c⟩ : Prf) = p at h7 ⊢
 conv => whnf
 repeat ((first | refine ifB_f ?_ | (refine ifB_neg (decide_eq_false (by first | omega | rfl | (dsimp only; omega))) ?_) | refine ⟨rfl, ?_⟩ | refine ⟨_, rfl, ?_⟩ | (refine And.intro ?_ ?_; (focus (first | (simp only [pureL, pureV, pureL_bys, Bool.and_true, Bool.and_self]; done) | (simp only [pureL, pureV, pureL_bys, pureL_toks, Bool.and_true, Bool.and_self]; done))))); conv => whnf)
 cases c3 : prfR p <;> rw [c3] at h7
 ·refine ⟨_, _, h7, by first | rfl | simp [noRoIf, noRoL, noRoV, noRoL_bys], ?_⟩
  conv => whnf
  repeat ((first | refine ifB_t ?_ | refine ifB_f ?_ | refine ⟨(⟨by kernel_rfl, by kernel_rfl, Nat.le_of_ble_eq_true (by kernel_rfl)⟩ : AV.ones _ = true ∧ _ ∧ _), ?_⟩ | refine ⟨_, rfl, ?_⟩); conv => whnf)
  refine prf0_int_dems (by kernel_rfl) ?_
  rfl
 ·refine ⟨_, _, h7, by first | rfl | simp [noRoIf, noRoL, noRoV, noRoL_bys], ?_⟩
  conv => whnf
  repeat ((refine ifB_f ?_); conv => whnf)
  refine Does.tidy [(2, .ptr 0 0), (11, .ptr 4 0)] [(0, zeroE ++ zeroE), (1, rowC r3), (2, entC a), (3, entC c), (4, prfC p)] 5 50 rfl rfl rfl (by kernel_rfl) (by kernel_rfl) ?_
  refine wpc_sound (M := ME) (PL := PL0) (CU := noCut) TTok mixed _ _ _ ?_
  conv => whnf
  refine ⟨prfC p, by kernel_rfl, ?_⟩
  conv => whnf
  refine ⟨(⟨by kernel_rfl, by kernel_rfl, Nat.le_of_ble_eq_true (by kernel_rfl)⟩ : AV.ones _ = true ∧ _ ∧ _), ?_⟩
  conv => whnf
  refine ⟨prfC p, by kernel_rfl, ?_⟩
  conv => whnf
  refine prf_int_dems (by kernel_rfl) ?_
  rfl
end
section
--KR
section rows
variable {α : Type}
def rowsC (f : α → List AV) : List α → List AV
 | [] => []
 | x :: r => f x ++ rowsC f r
theorem rowsC_length {f : α → List AV} {n : Nat} (hf : ∀ x, (f x).length = n) : ∀ l : List α, (rowsC f l).length = n * l.length
 | [] => rfl
 | e :: r => by simp only [rowsC, List.length_append, hf, rowsC_length hf r, List.length_cons, Nat.mul_add]; omega
theorem rowsC_pure {f : α → List AV} (hf : ∀ x, pureL (f x) = true) : ∀ l : List α, pureL (rowsC f l) = true
 | [] => rfl
 | e :: r => by simp only [rowsC, pureL_app, hf, rowsC_pure hf r, Bool.and_self]
theorem rowsC_drop {f : α → List AV} {n : Nat} (hf : ∀ x, (f x).length = n) : ∀ (l : List α) (j : Nat), (rowsC f l).drop (n * j) = rowsC f (l.drop j)
 | [], j => by simp [rowsC]
 | e :: r, 0 => by simp [rowsC]
 | e :: r, j + 1 => by
  simp only [rowsC, List.drop_succ_cons, ← rowsC_drop hf r j]
  rw [show n * (j + 1) = (f e).length + n * j by rw [hf, Nat.mul_add]; omega, List.drop_append]
  simp
theorem rowsC_at {f : α → List AV} {n : Nat} (hf : ∀ x, (f x).length = n) {l : List α} {j m : Nat} (h : j < l.length) (hm : m = n * j) : (rowsC f l).drop m = f l[j] ++ rowsC f (l.drop (j + 1)) := by
 subst hm
 rw [rowsC_drop hf, List.drop_eq_getElem_cons h]
 rfl
end rows
theorem prfC_length (p : Prf) : (prfC p).length = 266 := by simp [prfC, entC_length]
theorem prfC_pure (p : Prf) : pureL (prfC p) = true := by simp [prfC, pureL_app, entC_pure]
structure Hd where
 au : List Int
 len : Int
 id : List Int
 shut : Bool
 deriving DecidableEq
def hdC (h : Hd) : List AV := c32 h.au (.int .i64 h.len :: c32 h.id [.bool h.shut])
structure HdS (h : Hd) : Prop where
 au : Byt h.au ∧ h.au.length = 32
 len : -9223372036854775808 ≤ h.len ∧ h.len < 9223372036854775808
 id : Byt h.id ∧ h.id.length = 32
theorem hdC_length (h : Hd) : (hdC h).length = 66 := by simp [hdC, c32_len]
theorem hdC_pure (h : Hd) : pureL (hdC h) = true := by simp [hdC, c32_pure, pureL, pureV]
structure Msg where
 kind : Int
 frm : Int
 to : Int
 hs : List Hd
 ps : List Prf
 es : List Ent
 deriving DecidableEq
def msgC (m : Msg) : List AV := [.int .i64 m.kind, .int .i64 m.frm, .int .i64 m.to, .ro m.hs.length (rowsC hdC m.hs), .ro m.ps.length (rowsC prfC m.ps), .ro m.es.length (rowsC entC m.es)]
structure MsgS (m : Msg) : Prop where
 kind : -9223372036854775808 ≤ m.kind ∧ m.kind < 9223372036854775808
 frm : -9223372036854775808 ≤ m.frm ∧ m.frm < 9223372036854775808
 to : -9223372036854775808 ≤ m.to ∧ m.to < 9223372036854775808
 hs : ∀ h ∈ m.hs, HdS h
 ps : ∀ p ∈ m.ps, PrfS p
 es : ∀ e ∈ m.es, EntS e
 hl : m.hs.length ≤ 1000000000
 pl : m.ps.length ≤ 1000000000
 el : m.es.length ≤ 1000000000
theorem hds_len (l : List Hd) : (rowsC hdC l).length = 66 * l.length := rowsC_length hdC_length l
theorem prfs_len (l : List Prf) : (rowsC prfC l).length = 266 * l.length := rowsC_length prfC_length l
theorem ents_len (l : List Ent) : (rowsC entC l).length = 133 * l.length := rowsC_length entC_length l
theorem hds_pure (l : List Hd) : pureL (rowsC hdC l) = true := rowsC_pure hdC_pure l
theorem prfs_pure (l : List Prf) : pureL (rowsC prfC l) = true := rowsC_pure prfC_pure l
theorem ents_pure (l : List Ent) : pureL (rowsC entC l) = true := rowsC_pure entC_pure l
theorem msgC_pure (m : Msg) : pureL (msgC m) = true := by simp [msgC, pureL, pureV, hds_pure, prfs_pure, ents_pure]
end
section
--KR
attribute [local irreducible] ifB fitP Does Weaker
def MW : FuncId → List Mode := orElse [(999999, [.rd]), (999999, [.rd]), (999999, [.rd]), (999999, [.rd]), (999999, [.rd]), (999999, [rowM]), (999999, [rowM]),
 (999999, [.rd, .rd]), (999999, [.rd, .rd]), (999999, [.rd, .rd]),
 (999999, [.rd, .rd]), (999999, [.rd]), (999999, [.rd])] ME
end
section
--KR
attribute [local irreducible] ifB fitP Does Weaker
end
section
--KR
attribute [local irreducible] ifB fitP Does Weaker
def TokB (t : Tok) : Prop := TokOk t ∧ t.b.length ≤ 1099511627776
theorem tokB_num {k n : Int} (hk : 0 ≤ k ∧ k ≤ 100) (hn : -9223372036854775808 ≤ n ∧ n < 9223372036854775808) : TokB ⟨k, n, []⟩ := ⟨⟨by dsimp only; omega, hn, fun x hx => absurd hx (List.not_mem_nil)⟩, by simp⟩
theorem tokB_str {b : List Int} (hb : Byt b) (hl : b.length ≤ 1000000000) : TokB ⟨3, 0, b⟩ := ⟨⟨by dsimp only; omega, by dsimp only; omega, hb⟩, by dsimp only; omega⟩
theorem prf_toks {p : Prf} (hp : PrfS p) : ToksOk [⟨5, 3, []⟩, ⟨1, 2, []⟩, ⟨3, 0, (entB p.a).1⟩, ⟨3, 0, (entB p.b).1⟩] := by
 have b1 := entB_byt hp.a
 have b2 := entB_byt hp.b
 intro t ht
 simp only [List.mem_cons, List.not_mem_nil, or_false] at ht
 rcases ht with rfl | rfl | rfl | rfl
 ·exact (tokB_num (by omega) (by omega)).1
 ·exact (tokB_num (by omega) (by omega)).1
 ·exact (tokB_str b1.1 (by omega)).1
 ·exact (tokB_str b2.1 (by omega)).1
theorem prfB_byt {p : Prf} (hp : PrfS p) : Byt (prfB p).1 ∧ (prfB p).1.length ≤ 32768 := by
 unfold prfB
 split
 ·refine ⟨encR_byt _ (prf_toks hp), ?_⟩
  rcases encR_or validR [⟨5, 3, []⟩, ⟨1, 2, []⟩, ⟨3, 0, (entB p.a).1⟩, ⟨3, 0, (entB p.b).1⟩] with h | ⟨a, h⟩
  ·rw [h]; simp
  ·have := encR_len h
   rw [h]; exact this
 ·exact ⟨fun x hx => absurd hx (List.not_mem_nil), by simp⟩
end
section
--KR
attribute [local irreducible] ifB fitP Does Weaker
end
section
--KR
attribute [local irreducible] ifB fitP Does Weaker
theorem rdP_prfS {r : Rw} (h : RwOk r) : PrfS (rdP r).1 ∧ ((rdP r).2 = 0 → prfR (rdP r).1 = true) := by
 have z : EntS ent0 := by
  have hz : Byt z32 := fun x hx => by simp only [z32, List.mem_replicate] at hx; omega
  have hz' : Byt z64 := fun x hx => by simp only [z64, List.mem_replicate] at hx; omega
  have hn : Byt [] := fun x hx => absurd hx (List.not_mem_nil)
  exact { au := ⟨hz, rfl⟩, seq := by decide, prev := ⟨hz, rfl⟩, stamp := by decide, kind := by decide, key := ⟨hn, by decide⟩, val := ⟨hn, by decide⟩, sig := ⟨hz', rfl⟩, key' := by decide, val' := by decide }
 have k2 := rNext_rok h 3
 unfold rdP
 generalize rNext 3 r = q at k2 ⊢
 obtain ⟨x, r2⟩ := q
 dsimp only at k2 ⊢
 have k3 := rNext_rok k2.1 3
 generalize rNext 3 r2 = q at k3 ⊢
 obtain ⟨y, r3⟩ := q
 dsimp only at k3 ⊢
 split
 ·split
  ·exact ⟨⟨z, z⟩, fun e => by cases e⟩
  ·split
   ·exact ⟨⟨z, z⟩, fun e => by cases e⟩
   ·split
    ·rename_i c
     exact ⟨⟨(rdEnt_entS k2.2.1.2.2 k2.2.2).1, (rdEnt_entS k3.2.1.2.2 k3.2.2).1⟩, fun _ => c⟩
    ·exact ⟨⟨z, z⟩, fun e => by cases e⟩
 ·exact ⟨⟨z, z⟩, fun e => by cases e⟩
theorem rdPrf_prfS {b : List Int} (hb : Byt b) (hl : b.length ≤ 1000000000) : PrfS (rdPrf b).1 ∧ ((rdPrf b).2 = 0 → prfR (rdPrf b).1 = true) := rdP_prfS (rWant_rok (rOpen_rok hb hl) 3 2)
end
section
--KR
attribute [local irreducible] ifB fitP Does Weaker
theorem rOpen_len (b : List Int) : (rOpen b).l.length ≤ 600 := by
 unfold rOpen
 rcases decR_or validR b with h | ⟨l, h, he, _⟩
 ·rw [h]; simp
 ·rw [h]; exact (encR_yes he).1
end
section

theorem roOf_own {E' : Env} {Z : Nat → Prop} {len esz : Nat} {cs : List AV} {u : Value} {Y : List Nat} (hV : ∀ b, Z b → E'.V b) (hZ : ∀ b ∈ Y, ¬ Z b) (h : RepB E' (.own len esz cs) u Y) :
  RepB ⟨E'.η, E'.ρ, Z, E'.w⟩ (.ro len cs) u [] := by
 simp only [RepB] at h ⊢
 obtain ⟨hp, a, cap, rfl, hl, hc⟩ := h
 refine ⟨by simpa [pureV] using hp, ?_, trivial⟩
 simp only [RepV]
 refine ⟨a, cap, rfl, hl, ?_⟩
 rcases hc with ⟨_, hcs, _⟩ | ⟨n, c, e, fr, rfl, rfl, hh, _, _, hcl, hr⟩
 ·exact .inl hcs
 ·refine .inr ⟨n, 0, rfl, hZ n (by simp), ?_⟩
  refine repM_of_get _ _ _ fun j x hx => ?_
  have hr' := pureL_rep (E := E') (E' := ⟨E'.η, E'.ρ, Z, E'.w⟩) ⟨rfl, rfl⟩ hV cs _ hp hr
  obtain ⟨u, hu, hru⟩ := repL_get _ _ hr' j x hx
  have hj : j < cs.length := by
   rcases Nat.lt_or_ge j cs.length with h' | h'
   ·exact h'
   ·rw [List.getElem?_eq_none h'] at hx; cases hx
  rw [List.getElem?_take_of_lt hj, Array.getElem?_toList] at hu
  exact ⟨u, by simp [World.cell?, hh, hu], hru⟩
theorem ACall.roRes {P : Program} {f : FuncId} {args : List AV} {len esz : Nat} {cs : List AV} (h : ACall P f args (.own len esz cs) []) : ACall P f args (.ro len cs) [] := by
 refine ⟨h.1, fun Z E vals X hh hr hn hz => ?_⟩
 refine (h.2 Z E vals X hh hr hn hz).mono ?_
 rintro e w' ⟨v, E', Xr, he, hw, hη, hev, hV, hB, hnd, hX⟩
 refine ⟨v, ⟨E'.η, E'.ρ, Z, E'.w⟩, [], he, hw, hη, hev, fun b => by simp, ?_, List.nodup_nil, fun b hb => absurd hb (List.not_mem_nil)⟩
 simp only [List.nil_append, RepBL] at hB ⊢
 obtain ⟨u, us, Y, Y', e1, e2, h1, h2, h3⟩ := hB
 refine ⟨u, us, [], [], e1, rfl, ?_, h2, rfl⟩
 exact roOf_own (fun b hb => (hV b).2 (.inl hb)) (fun b hb => (hX b (by rw [e2]; exact List.mem_append_left _ hb)).1) h1
theorem ACall.roRes2 {P : Program} {f : FuncId} {args : List AV} {len esz : Nat} {cs : List AV} {y : AV} (hy : (∃ k n, y = .int k n) ∨ ∃ b, y = .bool b) (h : ACall P f args (.tuple [.own len esz cs, y]) []) : ACall P f args (.tuple [.ro len cs, y]) [] := by
 refine ⟨h.1, fun Z E vals X hh hr hn hz => ?_⟩
 refine (h.2 Z E vals X hh hr hn hz).mono ?_
 rintro e w' ⟨v, E', Xr, he, hw, hη, hev, hV, hB, hnd, hX⟩
 refine ⟨v, ⟨E'.η, E'.ρ, Z, E'.w⟩, [], he, hw, hη, hev, fun b => by simp, ?_, List.nodup_nil, fun b hb => absurd hb (List.not_mem_nil)⟩
 simp only [List.nil_append, RepBL] at hB ⊢
 obtain ⟨u, us, Y, Y', e1, e2, h1, h2, h3⟩ := hB
 refine ⟨u, us, [], [], e1, rfl, ?_, h2, rfl⟩
 simp only [RepB, RepBL] at h1 ⊢
 obtain ⟨vs, rfl, u1, us1, Y1, Y2, f1, f2, k1, u2, us2, Y3, Y4, f3, f4, k2, k3, k4⟩ := h1
 refine ⟨vs, rfl, u1, us1, [], [], f1, rfl, ?_, u2, us2, [], [], f3, rfl, ?_, k3, rfl⟩
 ·exact roOf_own (fun b hb => (hV b).2 (.inl hb)) (fun b hb => (hX b (by rw [e2, f2]; exact List.mem_append_left _ (List.mem_append_left _ hb))).1) k1
 ·rcases hy with ⟨k, n, rfl⟩ | ⟨b, rfl⟩
  ·simp only [RepB, pureV, RepV] at k2 ⊢
   exact ⟨trivial, k2.2.1, trivial⟩
  ·simp only [RepB, pureV, RepV] at k2 ⊢
   exact ⟨trivial, k2.2.1, trivial⟩
end
section
--KR
attribute [local irreducible] ifB fitP Does Weaker
def MK : FuncId → List Mode := orElse [(45, [.rd, .rd]), (18, [.rd, .rd]), (19, [.rd, .rd]), (999999, [.rd, .rd]), (999999, [.rd, .rd]), (999999, [.rd, .rd]), (999999, [.rd, .rd]), (999999, [.rd, .rd]), (29, [.rd, .rd]),
 (16, [.rd]), (999999, [.rd]), (999999, [.rd]), (999999, [.rd])] MW
def opEq (a b : Ent) : Bool := decide (a.kind = b.kind) && decide (a.key = b.key) && decide (a.val = b.val)
theorem kop_ok (a b : Ent) (ha : EntS a) : ACall Tryz.prog 45 [.agg (opC a), .agg (opC b)] (.bool (opEq a b)) [] := by
 have h := bytes_ok a.val b.val (by have := ha.val'; omega)
 unfold opEq
 refine ACall.of_does TTok Tryz.func45 rfl Tryz.call45 rfl (wpc_sound (M := MK) (PL := PL0) (CU := noCut) TTok mixed _ _ _ ?_)
 by_cases c1 : a.kind = b.kind
 ·rw [dt c1]
  by_cases c2 : a.key = b.key
  ·rw [dt c2]
   conv => whnf
   repeat ((first | refine ifB_t ?_ | (refine ifB_pos (decide_eq_true (by first | omega | rfl | (dsimp only; omega))) ?_) | refine ⟨pureL_bys _, ?_⟩ | refine ⟨rfl, ?_⟩ | refine ⟨_, rfl, ?_⟩); conv => whnf)
   refine ⟨_, _, h, by first | rfl | simp [noRoIf, noRoL, noRoV, noRoL_bys], ?_⟩
   conv => whnf
   repeat ((first | refine ifB_t ?_ | refine ⟨rfl, ?_⟩); conv => whnf)
   rfl
  ·rw [df c2]
   conv => whnf
   repeat ((first | refine ifB_t ?_ | refine ifB_f ?_ | (refine ifB_neg (decide_eq_false (by first | omega | rfl | (dsimp only; omega))) ?_) | (refine ifB_pos (decide_eq_true (by first | omega | rfl | (dsimp only; omega))) ?_) | refine ⟨rfl, ?_⟩ | refine ⟨_, rfl, ?_⟩); conv => whnf)
   rfl
 ·rw [df c1]
  conv => whnf
  repeat ((first | refine ifB_f ?_ | (refine ifB_neg (decide_eq_false (by first | omega | rfl | (dsimp only; omega))) ?_) | refine ⟨rfl, ?_⟩ | refine ⟨_, rfl, ?_⟩); conv => whnf)
  rfl
theorem ent_eq (a b : Ent) : decide (a = b) = (decide (a.au = b.au) && decide (a.seq = b.seq) && decide (a.prev = b.prev) && decide (a.stamp = b.stamp) && opEq a b && decide (a.sig = b.sig)) := by
 unfold opEq
 obtain ⟨a1, a2, a3, a4, a5, a6, a7, a8⟩ := a
 obtain ⟨b1, b2, b3, b4, b5, b6, b7, b8⟩ := b
 rw [Bool.eq_iff_iff]
 simp only [Bool.and_eq_true, decide_eq_true_eq, Ent.mk.injEq]
 constructor
 ·rintro ⟨rfl, rfl, rfl, rfl, rfl, rfl, rfl, rfl⟩; simp
 ·rintro ⟨⟨⟨⟨⟨rfl, rfl⟩, rfl⟩, rfl⟩, ⟨⟨rfl, rfl⟩, rfl⟩⟩, rfl⟩; simp
set_option maxRecDepth 20000 in
set_option maxHeartbeats 4000000 in
theorem kent_ok (a b : Ent) (ha : EntS a) (hb : EntS b) : ACall Tryz.prog 18 [.agg (entC a), .agg (entC b)] (.bool (decide (a = b))) [] := by
 have h := kop_ok a b ha
 rw [ent_eq]
 refine ACall.of_does TTok Tryz.func18 rfl Tryz.call18 rfl (wpc_sound (M := MK) (PL := PL0) (CU := cutAt [100001]) TTok mixed _ _ _ ?_)
 conv => whnf
 repeat ((refine ⟨rfl, ?_⟩); conv => whnf)
 refine Does.freeze 0 rfl (Does.freeze 1 (zs := entC b) (by show some (frzL 0 _ (entC b)) = _; rw [entC_frz]) (Does.tidy [(2, .rop (entC a)), (3, .rop (entC b))] [] 2 45 rfl rfl rfl (by kernel_rfl) (by kernel_rfl) ?_))
 refine wpc_sound (M := MK) (PL := PL0) (CU := noCut) TTok mixed _ _ _ ?_
 conv => whnf
 repeat ((refine ⟨_, rfl, ?_⟩); conv => whnf)
 refine ⟨a.au, b.au, ⟨rfl, c32_map ha.au.2, c32_map hb.au.2, ha.au.2, hb.au.2⟩, ?_⟩
 conv => whnf
 by_cases c1 : a.au = b.au
 ·rw [dt c1]
  conv => whnf
  repeat ((first | refine ifB_t ?_ | refine ⟨_, rfl, ?_⟩); conv => whnf)
  by_cases c2 : a.seq = b.seq
  ·rw [dt c2]
   conv => whnf
   repeat ((first | refine ifB_t ?_ | refine ⟨_, rfl, ?_⟩); conv => whnf)
   refine ⟨a.prev, b.prev, ⟨rfl, c32_map ha.prev.2, c32_map hb.prev.2, ha.prev.2, hb.prev.2⟩, ?_⟩
   conv => whnf
   repeat ((refine ifB_t ?_); conv => whnf)
   by_cases c3 : a.prev = b.prev
   ·rw [dt c3]
    conv => whnf
    repeat ((first | refine ifB_t ?_ | refine ⟨_, rfl, ?_⟩); conv => whnf)
    by_cases c4 : a.stamp = b.stamp
    ·rw [dt c4]
     conv => whnf
     repeat ((first | refine ifB_t ?_ | refine ⟨entC_pure _, ?_⟩ | refine ⟨rfl, ?_⟩ | refine ⟨_, rfl, ?_⟩); conv => whnf)
     cases c5 : opEq a b <;> rw [c5] at h
     ·refine ⟨_, _, h, by first | rfl | simp [noRoIf, noRoL, noRoV, noRoL_bys], ?_⟩
      conv => whnf
      repeat ((first | refine ifB_t ?_ | refine ifB_f ?_ | refine ⟨rfl, ?_⟩); conv => whnf)
      rfl
     ·refine ⟨_, _, h, by first | rfl | simp [noRoIf, noRoL, noRoV, noRoL_bys], ?_⟩
      conv => whnf
      repeat ((first | refine ifB_t ?_ | refine ⟨_, rfl, ?_⟩); conv => whnf)
      refine ⟨a.sig, b.sig, ⟨rfl, c64_map ha.sig.2, c64_map hb.sig.2, ha.sig.2, hb.sig.2⟩, ?_⟩
      conv => whnf
      repeat ((first | refine ifB_t ?_ | refine ⟨rfl, ?_⟩); conv => whnf)
      rfl
    ·rw [df c4]
     conv => whnf
     repeat ((first | refine ifB_f ?_ | refine ⟨rfl, ?_⟩); conv => whnf)
     rfl
   ·rw [df c3]
    conv => whnf
    repeat ((first | refine ifB_f ?_ | refine ⟨rfl, ?_⟩); conv => whnf)
    rfl
  ·rw [df c2]
   conv => whnf
   repeat ((first | refine ifB_f ?_ | refine ⟨rfl, ?_⟩); conv => whnf)
   rfl
 ·rw [df c1]
  conv => whnf
  repeat ((first | refine ifB_f ?_ | refine ⟨rfl, ?_⟩); conv => whnf)
  rfl
end
section
--KR
attribute [local irreducible] ifB fitP Does Weaker
set_option maxRecDepth 20000 in
set_option maxHeartbeats 4000000 in
theorem kprf_ok (a b : Prf) (ha : PrfS a) (hb : PrfS b) : ACall Tryz.prog 19 [.agg (prfC a), .agg (prfC b)] (.bool (decide (a = b))) [] := by
 have h1 := kent_ok a.a b.a ha.a hb.a
 have h2 := kent_ok a.b b.b ha.b hb.b
 have e : decide (a = b) = (decide (a.a = b.a) && decide (a.b = b.b)) := by
  obtain ⟨x, y⟩ := a
  obtain ⟨z, w⟩ := b
  rw [Bool.eq_iff_iff]
  simp
 rw [e]
 refine ACall.of_does TTok Tryz.func19 rfl Tryz.call19 rfl (wpc_sound (M := MK) (PL := PL0) (CU := cutAt [100001]) TTok mixed _ _ _ ?_)
 conv => whnf
 repeat (first | (refine ifB_t ?_; conv => whnf) | (refine ifB_f ?_; conv => whnf) | (refine ifB_neg (decide_eq_false (by first | omega | rfl | (dsimp only; omega))) ?_; conv => whnf) | (refine ifB_pos (decide_eq_true (by first | omega | rfl | (dsimp only; omega))) ?_; conv => whnf) | (refine fit_i64 ⟨by first | omega | rfl | (dsimp only; omega), by first | omega | rfl | (dsimp only; omega)⟩ ?_; conv => whnf) | (refine fit_u64 ⟨by first | omega | rfl | (dsimp only; omega), by first | omega | rfl | (dsimp only; omega)⟩ ?_; conv => whnf) | (refine fit_u8 ⟨by first | omega | rfl | (dsimp only; omega), by first | omega | rfl | (dsimp only; omega)⟩ ?_; conv => whnf) | (refine ⟨pureL_bys _, ?_⟩; conv => whnf) | (refine ⟨ones_bys _, ?_⟩; conv => whnf) | (refine ⟨pureL_cutB _ _ _ _, ?_⟩; conv => whnf) | (refine ⟨(⟨by kernel_rfl, by kernel_rfl, Nat.le_of_ble_eq_true (by kernel_rfl)⟩ : AV.ones _ = true ∧ _ ∧ _), ?_⟩; conv => whnf) | (refine ⟨⟨by first | (simp only [List.drop_zero, List.length_drop, hds_len]; omega) | exact Nat.le_of_ble_eq_true (by kernel_rfl), okB_none _⟩, ?_⟩; conv => whnf) | (refine ⟨entC_pure _, ?_⟩; conv => whnf) | (refine Or.inl ⟨⟨rfl, ?_⟩, ?_⟩; (focus (first | rfl | (simp; done) | (rw [toksC_length]; omega))); conv => whnf) | (refine ⟨rfl, ?_⟩; conv => whnf) | (refine ⟨_, rfl, ?_⟩; conv => whnf) | (refine ⟨⟨rfl, rfl⟩, ?_⟩; conv => whnf) | (refine ⟨⟨rfl, rfl, rfl, ?_, pureL_bys _⟩, ?_⟩; (focus (simp; done)); conv => whnf) | (refine ⟨⟨rfl, rfl, ?_, pureL_bys _⟩, ?_⟩; (focus (simp; done)); conv => whnf) | (refine ⟨⟨rfl, rfl, rfl, ?_, pureL_toks _⟩, ?_⟩; (focus (rw [toksC_length]; omega)); conv => whnf) | (refine ⟨⟨rfl, rfl, ?_, pureL_toks _⟩, ?_⟩; (focus (rw [toksC_length]; omega)); conv => whnf) | (refine ⟨⟨rfl, rfl, ?_⟩, ?_⟩; (focus (first | assumption | exact pureL_bys _ | exact pureL_toks _)); conv => whnf) | (refine ⟨⟨rfl, rfl, ?_⟩, ?_⟩; (focus (first | exact Nat.le_of_ble_eq_true rfl | (simp; done))); conv => whnf) | (refine And.intro (by first | omega | rfl | (dsimp only; omega)) ?_; conv => whnf) | (refine ⟨⟨rfl, ?_⟩, ?_⟩; (focus (first | (simp only [okB]; omega) | (simp [okB]; omega))); conv => whnf) | (refine ⟨⟨?_, ?_, ?_⟩, ?_⟩; (focus omega); (focus (first | omega | (simp; done) | (simp; omega))); (focus (first | (simp; done) | (simp; omega) | (rw [toksC_length]; simp; omega))); conv => whnf) | (refine ⟨roLoad_ok rfl ?_, ?_⟩; (focus (simp [toksC_length]; omega)); conv => whnf) | (refine ⟨⟨?_, ?_⟩, ?_⟩; (focus (simp; done)); (focus (first | (simp only [okB]; omega) | (simp [okB]; omega))); conv => whnf) | (refine And.intro ?_ ?_; (focus (first | (simp only [pureL, pureV, pureL_bys, Bool.and_true, Bool.and_self]; done) | (simp only [pureL, pureV, pureL_bys, pureL_toks, Bool.and_true, Bool.and_self]; done))); conv => whnf) | (refine ⟨⟨rfl, rfl, ?_, ?_⟩, ?_⟩; (focus (first | (simp [lenB, offB]; done) | (simp [lenB, offB]; omega))); (focus (first | (simp [limB, lenB, offB]; done) | (simp [limB, lenB, offB]; omega))); conv => whnf) | (refine ⟨⟨rfl, ?_, ?_, ?_⟩, ?_⟩; (focus (first | (simp; done) | (simp; omega))); (focus (first | exact Or.inl rfl | exact Or.inr (by omega))); (focus (first | (simp [limB, lenB, offB]; done) | (simp [limB, lenB, offB]; omega))); conv => whnf) | (refine And.intro ?_ ?_; (focus (first | (simp [limB, lenB, offB]; done) | (simp [limB, lenB, offB]; omega))); conv => whnf) | (refine ⟨ones_toks _, ?_⟩; conv => whnf) | (refine And.intro ?_ ?_; (focus (simp [pureL, pureV, pureL_bys, pureL_toks, pureL_app]; done)); conv => whnf) | (refine fit_i64 ⟨by first | (simp; done) | (simp; omega), by first | (simp; done) | (simp; omega)⟩ ?_; conv => whnf) | (refine ifB_neg (decide_eq_false (by first | (simp; done) | (simp; omega))) ?_; conv => whnf) | (refine ifB_pos (decide_eq_true (by first | (simp; done) | (simp; omega))) ?_; conv => whnf) | (refine Or.inl ⟨⟨rfl, ?_⟩, ?_⟩; (focus (first | (simp [toksC_length]; done) | (simp [toksC_length]; omega))); conv => whnf) | (refine ⟨⟨rfl, rfl, ?_, ?_⟩, ?_⟩; (focus (first | (simp [toksC_length]; done) | (simp [toksC_length]; omega))); (focus (first | (simp [limB, lenB, offB]; done) | (simp [limB, lenB, offB]; omega))); conv => whnf) | (refine ⟨⟨rfl, ?_, ?_, ?_⟩, ?_⟩; (focus (first | (simp [toksC_length]; done) | (simp [toksC_length]; omega))); (focus (first | exact Or.inl rfl | exact Or.inr (by omega))); (focus (first | (simp [limB, lenB, offB]; done) | (simp [limB, lenB, offB]; omega))); conv => whnf) | (refine And.intro ?_ ?_; (focus (first | (simp [toksC_length]; done) | (simp [toksC_length]; omega))); conv => whnf) | (refine ⟨pureL_take (pureL_drop (pureL_bys _) _) _, ?_⟩; conv => whnf) | (refine ⟨pureL_take (pureL_drop (pureL_toks _) _) _, ?_⟩; conv => whnf) | (refine ⟨pureL_ints _, ?_⟩; conv => whnf) | (refine ⟨ones_ints _, ?_⟩; conv => whnf) | (refine ⟨ones_part (ones_ints _) _ _, ?_⟩; conv => whnf) | (refine ⟨ones_part (ones_toks _) _ _, ?_⟩; conv => whnf) | (refine ⟨ones_part (ones_bys _) _ _, ?_⟩; conv => whnf) | (refine ⟨⟨?_, ?_, ?_⟩, ?_⟩; (focus omega); (focus (first | omega | (simp; done) | (simp; omega))); (focus (first | (rw [prfs_len]; simp; omega) | (rw [ents_len]; simp; omega) | (rw [hds_len]; simp; omega) | (rw [lets_len]; simp; omega))); conv => whnf) | (refine ⟨(show pureL (rowsC _ _) = true from by first | exact prfs_pure _ | exact ents_pure _ | exact hds_pure _ | exact lets_pure _), ?_⟩; conv => whnf) | (refine ⟨(show pureL _ = true from by first | exact prfC_pure _ | exact hdC_pure _ | exact msgC_pure _ | exact letC_pure _), ?_⟩; conv => whnf))
 refine Does.tidy [(2, .ptr 0 0), (3, .ptr 1 0)] [(0, prfC a), (1, prfC b)] 2 17 rfl rfl rfl (by kernel_rfl) (by kernel_rfl) ?_
 refine wpc_sound (M := MK) (PL := PL0) (CU := noCut) TTok mixed _ _ _ ?_
 by_cases c1 : a.a = b.a
 ·rw [dt c1] at h1 ⊢
  conv => whnf
  repeat (first | (refine ifB_t ?_; conv => whnf) | (refine ifB_f ?_; conv => whnf) | (refine ifB_neg (decide_eq_false (by first | omega | rfl | (dsimp only; omega))) ?_; conv => whnf) | (refine ifB_pos (decide_eq_true (by first | omega | rfl | (dsimp only; omega))) ?_; conv => whnf) | (refine fit_i64 ⟨by first | omega | rfl | (dsimp only; omega), by first | omega | rfl | (dsimp only; omega)⟩ ?_; conv => whnf) | (refine fit_u64 ⟨by first | omega | rfl | (dsimp only; omega), by first | omega | rfl | (dsimp only; omega)⟩ ?_; conv => whnf) | (refine fit_u8 ⟨by first | omega | rfl | (dsimp only; omega), by first | omega | rfl | (dsimp only; omega)⟩ ?_; conv => whnf) | (refine ⟨pureL_bys _, ?_⟩; conv => whnf) | (refine ⟨ones_bys _, ?_⟩; conv => whnf) | (refine ⟨pureL_cutB _ _ _ _, ?_⟩; conv => whnf) | (refine ⟨(⟨by kernel_rfl, by kernel_rfl, Nat.le_of_ble_eq_true (by kernel_rfl)⟩ : AV.ones _ = true ∧ _ ∧ _), ?_⟩; conv => whnf) | (refine ⟨⟨by first | (simp only [List.drop_zero, List.length_drop, hds_len]; omega) | exact Nat.le_of_ble_eq_true (by kernel_rfl), okB_none _⟩, ?_⟩; conv => whnf) | (refine ⟨entC_pure _, ?_⟩; conv => whnf) | (refine Or.inl ⟨⟨rfl, ?_⟩, ?_⟩; (focus (first | rfl | (simp; done) | (rw [toksC_length]; omega))); conv => whnf) | (refine ⟨rfl, ?_⟩; conv => whnf) | (refine ⟨_, rfl, ?_⟩; conv => whnf) | (refine ⟨⟨rfl, rfl⟩, ?_⟩; conv => whnf) | (refine ⟨⟨rfl, rfl, rfl, ?_, pureL_bys _⟩, ?_⟩; (focus (simp; done)); conv => whnf) | (refine ⟨⟨rfl, rfl, ?_, pureL_bys _⟩, ?_⟩; (focus (simp; done)); conv => whnf) | (refine ⟨⟨rfl, rfl, rfl, ?_, pureL_toks _⟩, ?_⟩; (focus (rw [toksC_length]; omega)); conv => whnf) | (refine ⟨⟨rfl, rfl, ?_, pureL_toks _⟩, ?_⟩; (focus (rw [toksC_length]; omega)); conv => whnf) | (refine ⟨⟨rfl, rfl, ?_⟩, ?_⟩; (focus (first | assumption | exact pureL_bys _ | exact pureL_toks _)); conv => whnf) | (refine ⟨⟨rfl, rfl, ?_⟩, ?_⟩; (focus (first | exact Nat.le_of_ble_eq_true rfl | (simp; done))); conv => whnf) | (refine And.intro (by first | omega | rfl | (dsimp only; omega)) ?_; conv => whnf) | (refine ⟨⟨rfl, ?_⟩, ?_⟩; (focus (first | (simp only [okB]; omega) | (simp [okB]; omega))); conv => whnf) | (refine ⟨⟨?_, ?_, ?_⟩, ?_⟩; (focus omega); (focus (first | omega | (simp; done) | (simp; omega))); (focus (first | (simp; done) | (simp; omega) | (rw [toksC_length]; simp; omega))); conv => whnf) | (refine ⟨roLoad_ok rfl ?_, ?_⟩; (focus (simp [toksC_length]; omega)); conv => whnf) | (refine ⟨⟨?_, ?_⟩, ?_⟩; (focus (simp; done)); (focus (first | (simp only [okB]; omega) | (simp [okB]; omega))); conv => whnf) | (refine And.intro ?_ ?_; (focus (first | (simp only [pureL, pureV, pureL_bys, Bool.and_true, Bool.and_self]; done) | (simp only [pureL, pureV, pureL_bys, pureL_toks, Bool.and_true, Bool.and_self]; done))); conv => whnf) | (refine ⟨⟨rfl, rfl, ?_, ?_⟩, ?_⟩; (focus (first | (simp [lenB, offB]; done) | (simp [lenB, offB]; omega))); (focus (first | (simp [limB, lenB, offB]; done) | (simp [limB, lenB, offB]; omega))); conv => whnf) | (refine ⟨⟨rfl, ?_, ?_, ?_⟩, ?_⟩; (focus (first | (simp; done) | (simp; omega))); (focus (first | exact Or.inl rfl | exact Or.inr (by omega))); (focus (first | (simp [limB, lenB, offB]; done) | (simp [limB, lenB, offB]; omega))); conv => whnf) | (refine And.intro ?_ ?_; (focus (first | (simp [limB, lenB, offB]; done) | (simp [limB, lenB, offB]; omega))); conv => whnf) | (refine ⟨ones_toks _, ?_⟩; conv => whnf) | (refine And.intro ?_ ?_; (focus (simp [pureL, pureV, pureL_bys, pureL_toks, pureL_app]; done)); conv => whnf) | (refine fit_i64 ⟨by first | (simp; done) | (simp; omega), by first | (simp; done) | (simp; omega)⟩ ?_; conv => whnf) | (refine ifB_neg (decide_eq_false (by first | (simp; done) | (simp; omega))) ?_; conv => whnf) | (refine ifB_pos (decide_eq_true (by first | (simp; done) | (simp; omega))) ?_; conv => whnf) | (refine Or.inl ⟨⟨rfl, ?_⟩, ?_⟩; (focus (first | (simp [toksC_length]; done) | (simp [toksC_length]; omega))); conv => whnf) | (refine ⟨⟨rfl, rfl, ?_, ?_⟩, ?_⟩; (focus (first | (simp [toksC_length]; done) | (simp [toksC_length]; omega))); (focus (first | (simp [limB, lenB, offB]; done) | (simp [limB, lenB, offB]; omega))); conv => whnf) | (refine ⟨⟨rfl, ?_, ?_, ?_⟩, ?_⟩; (focus (first | (simp [toksC_length]; done) | (simp [toksC_length]; omega))); (focus (first | exact Or.inl rfl | exact Or.inr (by omega))); (focus (first | (simp [limB, lenB, offB]; done) | (simp [limB, lenB, offB]; omega))); conv => whnf) | (refine And.intro ?_ ?_; (focus (first | (simp [toksC_length]; done) | (simp [toksC_length]; omega))); conv => whnf) | (refine ⟨pureL_take (pureL_drop (pureL_bys _) _) _, ?_⟩; conv => whnf) | (refine ⟨pureL_take (pureL_drop (pureL_toks _) _) _, ?_⟩; conv => whnf) | (refine ⟨pureL_ints _, ?_⟩; conv => whnf) | (refine ⟨ones_ints _, ?_⟩; conv => whnf) | (refine ⟨ones_part (ones_ints _) _ _, ?_⟩; conv => whnf) | (refine ⟨ones_part (ones_toks _) _ _, ?_⟩; conv => whnf) | (refine ⟨ones_part (ones_bys _) _ _, ?_⟩; conv => whnf) | (refine ⟨⟨?_, ?_, ?_⟩, ?_⟩; (focus omega); (focus (first | omega | (simp; done) | (simp; omega))); (focus (first | (rw [prfs_len]; simp; omega) | (rw [ents_len]; simp; omega) | (rw [hds_len]; simp; omega) | (rw [lets_len]; simp; omega))); conv => whnf) | (refine ⟨(show pureL (rowsC _ _) = true from by first | exact prfs_pure _ | exact ents_pure _ | exact hds_pure _ | exact lets_pure _), ?_⟩; conv => whnf) | (refine ⟨(show pureL _ = true from by first | exact prfC_pure _ | exact hdC_pure _ | exact msgC_pure _ | exact letC_pure _), ?_⟩; conv => whnf))
  refine ⟨_, _, h1, by first | rfl | simp [noRoIf, noRoL, noRoV, noRoL_bys], ?_⟩
  conv => whnf
  repeat (first | (refine ifB_t ?_; conv => whnf) | (refine ifB_f ?_; conv => whnf) | (refine ifB_neg (decide_eq_false (by first | omega | rfl | (dsimp only; omega))) ?_; conv => whnf) | (refine ifB_pos (decide_eq_true (by first | omega | rfl | (dsimp only; omega))) ?_; conv => whnf) | (refine fit_i64 ⟨by first | omega | rfl | (dsimp only; omega), by first | omega | rfl | (dsimp only; omega)⟩ ?_; conv => whnf) | (refine fit_u64 ⟨by first | omega | rfl | (dsimp only; omega), by first | omega | rfl | (dsimp only; omega)⟩ ?_; conv => whnf) | (refine fit_u8 ⟨by first | omega | rfl | (dsimp only; omega), by first | omega | rfl | (dsimp only; omega)⟩ ?_; conv => whnf) | (refine ⟨pureL_bys _, ?_⟩; conv => whnf) | (refine ⟨ones_bys _, ?_⟩; conv => whnf) | (refine ⟨pureL_cutB _ _ _ _, ?_⟩; conv => whnf) | (refine ⟨(⟨by kernel_rfl, by kernel_rfl, Nat.le_of_ble_eq_true (by kernel_rfl)⟩ : AV.ones _ = true ∧ _ ∧ _), ?_⟩; conv => whnf) | (refine ⟨⟨by first | (simp only [List.drop_zero, List.length_drop, hds_len]; omega) | exact Nat.le_of_ble_eq_true (by kernel_rfl), okB_none _⟩, ?_⟩; conv => whnf) | (refine ⟨entC_pure _, ?_⟩; conv => whnf) | (refine Or.inl ⟨⟨rfl, ?_⟩, ?_⟩; (focus (first | rfl | (simp; done) | (rw [toksC_length]; omega))); conv => whnf) | (refine ⟨rfl, ?_⟩; conv => whnf) | (refine ⟨_, rfl, ?_⟩; conv => whnf) | (refine ⟨⟨rfl, rfl⟩, ?_⟩; conv => whnf) | (refine ⟨⟨rfl, rfl, rfl, ?_, pureL_bys _⟩, ?_⟩; (focus (simp; done)); conv => whnf) | (refine ⟨⟨rfl, rfl, ?_, pureL_bys _⟩, ?_⟩; (focus (simp; done)); conv => whnf) | (refine ⟨⟨rfl, rfl, rfl, ?_, pureL_toks _⟩, ?_⟩; (focus (rw [toksC_length]; omega)); conv => whnf) | (refine ⟨⟨rfl, rfl, ?_, pureL_toks _⟩, ?_⟩; (focus (rw [toksC_length]; omega)); conv => whnf) | (refine ⟨⟨rfl, rfl, ?_⟩, ?_⟩; (focus (first | assumption | exact pureL_bys _ | exact pureL_toks _)); conv => whnf) | (refine ⟨⟨rfl, rfl, ?_⟩, ?_⟩; (focus (first | exact Nat.le_of_ble_eq_true rfl | (simp; done))); conv => whnf) | (refine And.intro (by first | omega | rfl | (dsimp only; omega)) ?_; conv => whnf) | (refine ⟨⟨rfl, ?_⟩, ?_⟩; (focus (first | (simp only [okB]; omega) | (simp [okB]; omega))); conv => whnf) | (refine ⟨⟨?_, ?_, ?_⟩, ?_⟩; (focus omega); (focus (first | omega | (simp; done) | (simp; omega))); (focus (first | (simp; done) | (simp; omega) | (rw [toksC_length]; simp; omega))); conv => whnf) | (refine ⟨roLoad_ok rfl ?_, ?_⟩; (focus (simp [toksC_length]; omega)); conv => whnf) | (refine ⟨⟨?_, ?_⟩, ?_⟩; (focus (simp; done)); (focus (first | (simp only [okB]; omega) | (simp [okB]; omega))); conv => whnf) | (refine And.intro ?_ ?_; (focus (first | (simp only [pureL, pureV, pureL_bys, Bool.and_true, Bool.and_self]; done) | (simp only [pureL, pureV, pureL_bys, pureL_toks, Bool.and_true, Bool.and_self]; done))); conv => whnf) | (refine ⟨⟨rfl, rfl, ?_, ?_⟩, ?_⟩; (focus (first | (simp [lenB, offB]; done) | (simp [lenB, offB]; omega))); (focus (first | (simp [limB, lenB, offB]; done) | (simp [limB, lenB, offB]; omega))); conv => whnf) | (refine ⟨⟨rfl, ?_, ?_, ?_⟩, ?_⟩; (focus (first | (simp; done) | (simp; omega))); (focus (first | exact Or.inl rfl | exact Or.inr (by omega))); (focus (first | (simp [limB, lenB, offB]; done) | (simp [limB, lenB, offB]; omega))); conv => whnf) | (refine And.intro ?_ ?_; (focus (first | (simp [limB, lenB, offB]; done) | (simp [limB, lenB, offB]; omega))); conv => whnf) | (refine ⟨ones_toks _, ?_⟩; conv => whnf) | (refine And.intro ?_ ?_; (focus (simp [pureL, pureV, pureL_bys, pureL_toks, pureL_app]; done)); conv => whnf) | (refine fit_i64 ⟨by first | (simp; done) | (simp; omega), by first | (simp; done) | (simp; omega)⟩ ?_; conv => whnf) | (refine ifB_neg (decide_eq_false (by first | (simp; done) | (simp; omega))) ?_; conv => whnf) | (refine ifB_pos (decide_eq_true (by first | (simp; done) | (simp; omega))) ?_; conv => whnf) | (refine Or.inl ⟨⟨rfl, ?_⟩, ?_⟩; (focus (first | (simp [toksC_length]; done) | (simp [toksC_length]; omega))); conv => whnf) | (refine ⟨⟨rfl, rfl, ?_, ?_⟩, ?_⟩; (focus (first | (simp [toksC_length]; done) | (simp [toksC_length]; omega))); (focus (first | (simp [limB, lenB, offB]; done) | (simp [limB, lenB, offB]; omega))); conv => whnf) | (refine ⟨⟨rfl, ?_, ?_, ?_⟩, ?_⟩; (focus (first | (simp [toksC_length]; done) | (simp [toksC_length]; omega))); (focus (first | exact Or.inl rfl | exact Or.inr (by omega))); (focus (first | (simp [limB, lenB, offB]; done) | (simp [limB, lenB, offB]; omega))); conv => whnf) | (refine And.intro ?_ ?_; (focus (first | (simp [toksC_length]; done) | (simp [toksC_length]; omega))); conv => whnf) | (refine ⟨pureL_take (pureL_drop (pureL_bys _) _) _, ?_⟩; conv => whnf) | (refine ⟨pureL_take (pureL_drop (pureL_toks _) _) _, ?_⟩; conv => whnf) | (refine ⟨pureL_ints _, ?_⟩; conv => whnf) | (refine ⟨ones_ints _, ?_⟩; conv => whnf) | (refine ⟨ones_part (ones_ints _) _ _, ?_⟩; conv => whnf) | (refine ⟨ones_part (ones_toks _) _ _, ?_⟩; conv => whnf) | (refine ⟨ones_part (ones_bys _) _ _, ?_⟩; conv => whnf) | (refine ⟨⟨?_, ?_, ?_⟩, ?_⟩; (focus omega); (focus (first | omega | (simp; done) | (simp; omega))); (focus (first | (rw [prfs_len]; simp; omega) | (rw [ents_len]; simp; omega) | (rw [hds_len]; simp; omega) | (rw [lets_len]; simp; omega))); conv => whnf) | (refine ⟨(show pureL (rowsC _ _) = true from by first | exact prfs_pure _ | exact ents_pure _ | exact hds_pure _ | exact lets_pure _), ?_⟩; conv => whnf) | (refine ⟨(show pureL _ = true from by first | exact prfC_pure _ | exact hdC_pure _ | exact msgC_pure _ | exact letC_pure _), ?_⟩; conv => whnf))
  refine ⟨_, _, h2, by first | rfl | simp [noRoIf, noRoL, noRoV, noRoL_bys], ?_⟩
  conv => whnf
  repeat (first | (refine ifB_t ?_; conv => whnf) | (refine ifB_f ?_; conv => whnf) | (refine ifB_neg (decide_eq_false (by first | omega | rfl | (dsimp only; omega))) ?_; conv => whnf) | (refine ifB_pos (decide_eq_true (by first | omega | rfl | (dsimp only; omega))) ?_; conv => whnf) | (refine fit_i64 ⟨by first | omega | rfl | (dsimp only; omega), by first | omega | rfl | (dsimp only; omega)⟩ ?_; conv => whnf) | (refine fit_u64 ⟨by first | omega | rfl | (dsimp only; omega), by first | omega | rfl | (dsimp only; omega)⟩ ?_; conv => whnf) | (refine fit_u8 ⟨by first | omega | rfl | (dsimp only; omega), by first | omega | rfl | (dsimp only; omega)⟩ ?_; conv => whnf) | (refine ⟨pureL_bys _, ?_⟩; conv => whnf) | (refine ⟨ones_bys _, ?_⟩; conv => whnf) | (refine ⟨pureL_cutB _ _ _ _, ?_⟩; conv => whnf) | (refine ⟨(⟨by kernel_rfl, by kernel_rfl, Nat.le_of_ble_eq_true (by kernel_rfl)⟩ : AV.ones _ = true ∧ _ ∧ _), ?_⟩; conv => whnf) | (refine ⟨⟨by first | (simp only [List.drop_zero, List.length_drop, hds_len]; omega) | exact Nat.le_of_ble_eq_true (by kernel_rfl), okB_none _⟩, ?_⟩; conv => whnf) | (refine ⟨entC_pure _, ?_⟩; conv => whnf) | (refine Or.inl ⟨⟨rfl, ?_⟩, ?_⟩; (focus (first | rfl | (simp; done) | (rw [toksC_length]; omega))); conv => whnf) | (refine ⟨rfl, ?_⟩; conv => whnf) | (refine ⟨_, rfl, ?_⟩; conv => whnf) | (refine ⟨⟨rfl, rfl⟩, ?_⟩; conv => whnf) | (refine ⟨⟨rfl, rfl, rfl, ?_, pureL_bys _⟩, ?_⟩; (focus (simp; done)); conv => whnf) | (refine ⟨⟨rfl, rfl, ?_, pureL_bys _⟩, ?_⟩; (focus (simp; done)); conv => whnf) | (refine ⟨⟨rfl, rfl, rfl, ?_, pureL_toks _⟩, ?_⟩; (focus (rw [toksC_length]; omega)); conv => whnf) | (refine ⟨⟨rfl, rfl, ?_, pureL_toks _⟩, ?_⟩; (focus (rw [toksC_length]; omega)); conv => whnf) | (refine ⟨⟨rfl, rfl, ?_⟩, ?_⟩; (focus (first | assumption | exact pureL_bys _ | exact pureL_toks _)); conv => whnf) | (refine ⟨⟨rfl, rfl, ?_⟩, ?_⟩; (focus (first | exact Nat.le_of_ble_eq_true rfl | (simp; done))); conv => whnf) | (refine And.intro (by first | omega | rfl | (dsimp only; omega)) ?_; conv => whnf) | (refine ⟨⟨rfl, ?_⟩, ?_⟩; (focus (first | (simp only [okB]; omega) | (simp [okB]; omega))); conv => whnf) | (refine ⟨⟨?_, ?_, ?_⟩, ?_⟩; (focus omega); (focus (first | omega | (simp; done) | (simp; omega))); (focus (first | (simp; done) | (simp; omega) | (rw [toksC_length]; simp; omega))); conv => whnf) | (refine ⟨roLoad_ok rfl ?_, ?_⟩; (focus (simp [toksC_length]; omega)); conv => whnf) | (refine ⟨⟨?_, ?_⟩, ?_⟩; (focus (simp; done)); (focus (first | (simp only [okB]; omega) | (simp [okB]; omega))); conv => whnf) | (refine And.intro ?_ ?_; (focus (first | (simp only [pureL, pureV, pureL_bys, Bool.and_true, Bool.and_self]; done) | (simp only [pureL, pureV, pureL_bys, pureL_toks, Bool.and_true, Bool.and_self]; done))); conv => whnf) | (refine ⟨⟨rfl, rfl, ?_, ?_⟩, ?_⟩; (focus (first | (simp [lenB, offB]; done) | (simp [lenB, offB]; omega))); (focus (first | (simp [limB, lenB, offB]; done) | (simp [limB, lenB, offB]; omega))); conv => whnf) | (refine ⟨⟨rfl, ?_, ?_, ?_⟩, ?_⟩; (focus (first | (simp; done) | (simp; omega))); (focus (first | exact Or.inl rfl | exact Or.inr (by omega))); (focus (first | (simp [limB, lenB, offB]; done) | (simp [limB, lenB, offB]; omega))); conv => whnf) | (refine And.intro ?_ ?_; (focus (first | (simp [limB, lenB, offB]; done) | (simp [limB, lenB, offB]; omega))); conv => whnf) | (refine ⟨ones_toks _, ?_⟩; conv => whnf) | (refine And.intro ?_ ?_; (focus (simp [pureL, pureV, pureL_bys, pureL_toks, pureL_app]; done)); conv => whnf) | (refine fit_i64 ⟨by first | (simp; done) | (simp; omega), by first | (simp; done) | (simp; omega)⟩ ?_; conv => whnf) | (refine ifB_neg (decide_eq_false (by first | (simp; done) | (simp; omega))) ?_; conv => whnf) | (refine ifB_pos (decide_eq_true (by first | (simp; done) | (simp; omega))) ?_; conv => whnf) | (refine Or.inl ⟨⟨rfl, ?_⟩, ?_⟩; (focus (first | (simp [toksC_length]; done) | (simp [toksC_length]; omega))); conv => whnf) | (refine ⟨⟨rfl, rfl, ?_, ?_⟩, ?_⟩; (focus (first | (simp [toksC_length]; done) | (simp [toksC_length]; omega))); (focus (first | (simp [limB, lenB, offB]; done) | (simp [limB, lenB, offB]; omega))); conv => whnf) | (refine ⟨⟨rfl, ?_, ?_, ?_⟩, ?_⟩; (focus (first | (simp [toksC_length]; done) | (simp [toksC_length]; omega))); (focus (first | exact Or.inl rfl | exact Or.inr (by omega))); (focus (first | (simp [limB, lenB, offB]; done) | (simp [limB, lenB, offB]; omega))); conv => whnf) | (refine And.intro ?_ ?_; (focus (first | (simp [toksC_length]; done) | (simp [toksC_length]; omega))); conv => whnf) | (refine ⟨pureL_take (pureL_drop (pureL_bys _) _) _, ?_⟩; conv => whnf) | (refine ⟨pureL_take (pureL_drop (pureL_toks _) _) _, ?_⟩; conv => whnf) | (refine ⟨pureL_ints _, ?_⟩; conv => whnf) | (refine ⟨ones_ints _, ?_⟩; conv => whnf) | (refine ⟨ones_part (ones_ints _) _ _, ?_⟩; conv => whnf) | (refine ⟨ones_part (ones_toks _) _ _, ?_⟩; conv => whnf) | (refine ⟨ones_part (ones_bys _) _ _, ?_⟩; conv => whnf) | (refine ⟨⟨?_, ?_, ?_⟩, ?_⟩; (focus omega); (focus (first | omega | (simp; done) | (simp; omega))); (focus (first | (rw [prfs_len]; simp; omega) | (rw [ents_len]; simp; omega) | (rw [hds_len]; simp; omega) | (rw [lets_len]; simp; omega))); conv => whnf) | (refine ⟨(show pureL (rowsC _ _) = true from by first | exact prfs_pure _ | exact ents_pure _ | exact hds_pure _ | exact lets_pure _), ?_⟩; conv => whnf) | (refine ⟨(show pureL _ = true from by first | exact prfC_pure _ | exact hdC_pure _ | exact msgC_pure _ | exact letC_pure _), ?_⟩; conv => whnf))
  rfl
 ·rw [df c1] at h1 ⊢
  conv => whnf
  repeat (first | (refine ifB_t ?_; conv => whnf) | (refine ifB_f ?_; conv => whnf) | (refine ifB_neg (decide_eq_false (by first | omega | rfl | (dsimp only; omega))) ?_; conv => whnf) | (refine ifB_pos (decide_eq_true (by first | omega | rfl | (dsimp only; omega))) ?_; conv => whnf) | (refine fit_i64 ⟨by first | omega | rfl | (dsimp only; omega), by first | omega | rfl | (dsimp only; omega)⟩ ?_; conv => whnf) | (refine fit_u64 ⟨by first | omega | rfl | (dsimp only; omega), by first | omega | rfl | (dsimp only; omega)⟩ ?_; conv => whnf) | (refine fit_u8 ⟨by first | omega | rfl | (dsimp only; omega), by first | omega | rfl | (dsimp only; omega)⟩ ?_; conv => whnf) | (refine ⟨pureL_bys _, ?_⟩; conv => whnf) | (refine ⟨ones_bys _, ?_⟩; conv => whnf) | (refine ⟨pureL_cutB _ _ _ _, ?_⟩; conv => whnf) | (refine ⟨(⟨by kernel_rfl, by kernel_rfl, Nat.le_of_ble_eq_true (by kernel_rfl)⟩ : AV.ones _ = true ∧ _ ∧ _), ?_⟩; conv => whnf) | (refine ⟨⟨by first | (simp only [List.drop_zero, List.length_drop, hds_len]; omega) | exact Nat.le_of_ble_eq_true (by kernel_rfl), okB_none _⟩, ?_⟩; conv => whnf) | (refine ⟨entC_pure _, ?_⟩; conv => whnf) | (refine Or.inl ⟨⟨rfl, ?_⟩, ?_⟩; (focus (first | rfl | (simp; done) | (rw [toksC_length]; omega))); conv => whnf) | (refine ⟨rfl, ?_⟩; conv => whnf) | (refine ⟨_, rfl, ?_⟩; conv => whnf) | (refine ⟨⟨rfl, rfl⟩, ?_⟩; conv => whnf) | (refine ⟨⟨rfl, rfl, rfl, ?_, pureL_bys _⟩, ?_⟩; (focus (simp; done)); conv => whnf) | (refine ⟨⟨rfl, rfl, ?_, pureL_bys _⟩, ?_⟩; (focus (simp; done)); conv => whnf) | (refine ⟨⟨rfl, rfl, rfl, ?_, pureL_toks _⟩, ?_⟩; (focus (rw [toksC_length]; omega)); conv => whnf) | (refine ⟨⟨rfl, rfl, ?_, pureL_toks _⟩, ?_⟩; (focus (rw [toksC_length]; omega)); conv => whnf) | (refine ⟨⟨rfl, rfl, ?_⟩, ?_⟩; (focus (first | assumption | exact pureL_bys _ | exact pureL_toks _)); conv => whnf) | (refine ⟨⟨rfl, rfl, ?_⟩, ?_⟩; (focus (first | exact Nat.le_of_ble_eq_true rfl | (simp; done))); conv => whnf) | (refine And.intro (by first | omega | rfl | (dsimp only; omega)) ?_; conv => whnf) | (refine ⟨⟨rfl, ?_⟩, ?_⟩; (focus (first | (simp only [okB]; omega) | (simp [okB]; omega))); conv => whnf) | (refine ⟨⟨?_, ?_, ?_⟩, ?_⟩; (focus omega); (focus (first | omega | (simp; done) | (simp; omega))); (focus (first | (simp; done) | (simp; omega) | (rw [toksC_length]; simp; omega))); conv => whnf) | (refine ⟨roLoad_ok rfl ?_, ?_⟩; (focus (simp [toksC_length]; omega)); conv => whnf) | (refine ⟨⟨?_, ?_⟩, ?_⟩; (focus (simp; done)); (focus (first | (simp only [okB]; omega) | (simp [okB]; omega))); conv => whnf) | (refine And.intro ?_ ?_; (focus (first | (simp only [pureL, pureV, pureL_bys, Bool.and_true, Bool.and_self]; done) | (simp only [pureL, pureV, pureL_bys, pureL_toks, Bool.and_true, Bool.and_self]; done))); conv => whnf) | (refine ⟨⟨rfl, rfl, ?_, ?_⟩, ?_⟩; (focus (first | (simp [lenB, offB]; done) | (simp [lenB, offB]; omega))); (focus (first | (simp [limB, lenB, offB]; done) | (simp [limB, lenB, offB]; omega))); conv => whnf) | (refine ⟨⟨rfl, ?_, ?_, ?_⟩, ?_⟩; (focus (first | (simp; done) | (simp; omega))); (focus (first | exact Or.inl rfl | exact Or.inr (by omega))); (focus (first | (simp [limB, lenB, offB]; done) | (simp [limB, lenB, offB]; omega))); conv => whnf) | (refine And.intro ?_ ?_; (focus (first | (simp [limB, lenB, offB]; done) | (simp [limB, lenB, offB]; omega))); conv => whnf) | (refine ⟨ones_toks _, ?_⟩; conv => whnf) | (refine And.intro ?_ ?_; (focus (simp [pureL, pureV, pureL_bys, pureL_toks, pureL_app]; done)); conv => whnf) | (refine fit_i64 ⟨by first | (simp; done) | (simp; omega), by first | (simp; done) | (simp; omega)⟩ ?_; conv => whnf) | (refine ifB_neg (decide_eq_false (by first | (simp; done) | (simp; omega))) ?_; conv => whnf) | (refine ifB_pos (decide_eq_true (by first | (simp; done) | (simp; omega))) ?_; conv => whnf) | (refine Or.inl ⟨⟨rfl, ?_⟩, ?_⟩; (focus (first | (simp [toksC_length]; done) | (simp [toksC_length]; omega))); conv => whnf) | (refine ⟨⟨rfl, rfl, ?_, ?_⟩, ?_⟩; (focus (first | (simp [toksC_length]; done) | (simp [toksC_length]; omega))); (focus (first | (simp [limB, lenB, offB]; done) | (simp [limB, lenB, offB]; omega))); conv => whnf) | (refine ⟨⟨rfl, ?_, ?_, ?_⟩, ?_⟩; (focus (first | (simp [toksC_length]; done) | (simp [toksC_length]; omega))); (focus (first | exact Or.inl rfl | exact Or.inr (by omega))); (focus (first | (simp [limB, lenB, offB]; done) | (simp [limB, lenB, offB]; omega))); conv => whnf) | (refine And.intro ?_ ?_; (focus (first | (simp [toksC_length]; done) | (simp [toksC_length]; omega))); conv => whnf) | (refine ⟨pureL_take (pureL_drop (pureL_bys _) _) _, ?_⟩; conv => whnf) | (refine ⟨pureL_take (pureL_drop (pureL_toks _) _) _, ?_⟩; conv => whnf) | (refine ⟨pureL_ints _, ?_⟩; conv => whnf) | (refine ⟨ones_ints _, ?_⟩; conv => whnf) | (refine ⟨ones_part (ones_ints _) _ _, ?_⟩; conv => whnf) | (refine ⟨ones_part (ones_toks _) _ _, ?_⟩; conv => whnf) | (refine ⟨ones_part (ones_bys _) _ _, ?_⟩; conv => whnf) | (refine ⟨⟨?_, ?_, ?_⟩, ?_⟩; (focus omega); (focus (first | omega | (simp; done) | (simp; omega))); (focus (first | (rw [prfs_len]; simp; omega) | (rw [ents_len]; simp; omega) | (rw [hds_len]; simp; omega) | (rw [lets_len]; simp; omega))); conv => whnf) | (refine ⟨(show pureL (rowsC _ _) = true from by first | exact prfs_pure _ | exact ents_pure _ | exact hds_pure _ | exact lets_pure _), ?_⟩; conv => whnf) | (refine ⟨(show pureL _ = true from by first | exact prfC_pure _ | exact hdC_pure _ | exact msgC_pure _ | exact letC_pure _), ?_⟩; conv => whnf))
  refine ⟨_, _, h1, by first | rfl | simp [noRoIf, noRoL, noRoV, noRoL_bys], ?_⟩
  conv => whnf
  repeat (first | (refine ifB_t ?_; conv => whnf) | (refine ifB_f ?_; conv => whnf) | (refine ifB_neg (decide_eq_false (by first | omega | rfl | (dsimp only; omega))) ?_; conv => whnf) | (refine ifB_pos (decide_eq_true (by first | omega | rfl | (dsimp only; omega))) ?_; conv => whnf) | (refine fit_i64 ⟨by first | omega | rfl | (dsimp only; omega), by first | omega | rfl | (dsimp only; omega)⟩ ?_; conv => whnf) | (refine fit_u64 ⟨by first | omega | rfl | (dsimp only; omega), by first | omega | rfl | (dsimp only; omega)⟩ ?_; conv => whnf) | (refine fit_u8 ⟨by first | omega | rfl | (dsimp only; omega), by first | omega | rfl | (dsimp only; omega)⟩ ?_; conv => whnf) | (refine ⟨pureL_bys _, ?_⟩; conv => whnf) | (refine ⟨ones_bys _, ?_⟩; conv => whnf) | (refine ⟨pureL_cutB _ _ _ _, ?_⟩; conv => whnf) | (refine ⟨(⟨by kernel_rfl, by kernel_rfl, Nat.le_of_ble_eq_true (by kernel_rfl)⟩ : AV.ones _ = true ∧ _ ∧ _), ?_⟩; conv => whnf) | (refine ⟨⟨by first | (simp only [List.drop_zero, List.length_drop, hds_len]; omega) | exact Nat.le_of_ble_eq_true (by kernel_rfl), okB_none _⟩, ?_⟩; conv => whnf) | (refine ⟨entC_pure _, ?_⟩; conv => whnf) | (refine Or.inl ⟨⟨rfl, ?_⟩, ?_⟩; (focus (first | rfl | (simp; done) | (rw [toksC_length]; omega))); conv => whnf) | (refine ⟨rfl, ?_⟩; conv => whnf) | (refine ⟨_, rfl, ?_⟩; conv => whnf) | (refine ⟨⟨rfl, rfl⟩, ?_⟩; conv => whnf) | (refine ⟨⟨rfl, rfl, rfl, ?_, pureL_bys _⟩, ?_⟩; (focus (simp; done)); conv => whnf) | (refine ⟨⟨rfl, rfl, ?_, pureL_bys _⟩, ?_⟩; (focus (simp; done)); conv => whnf) | (refine ⟨⟨rfl, rfl, rfl, ?_, pureL_toks _⟩, ?_⟩; (focus (rw [toksC_length]; omega)); conv => whnf) | (refine ⟨⟨rfl, rfl, ?_, pureL_toks _⟩, ?_⟩; (focus (rw [toksC_length]; omega)); conv => whnf) | (refine ⟨⟨rfl, rfl, ?_⟩, ?_⟩; (focus (first | assumption | exact pureL_bys _ | exact pureL_toks _)); conv => whnf) | (refine ⟨⟨rfl, rfl, ?_⟩, ?_⟩; (focus (first | exact Nat.le_of_ble_eq_true rfl | (simp; done))); conv => whnf) | (refine And.intro (by first | omega | rfl | (dsimp only; omega)) ?_; conv => whnf) | (refine ⟨⟨rfl, ?_⟩, ?_⟩; (focus (first | (simp only [okB]; omega) | (simp [okB]; omega))); conv => whnf) | (refine ⟨⟨?_, ?_, ?_⟩, ?_⟩; (focus omega); (focus (first | omega | (simp; done) | (simp; omega))); (focus (first | (simp; done) | (simp; omega) | (rw [toksC_length]; simp; omega))); conv => whnf) | (refine ⟨roLoad_ok rfl ?_, ?_⟩; (focus (simp [toksC_length]; omega)); conv => whnf) | (refine ⟨⟨?_, ?_⟩, ?_⟩; (focus (simp; done)); (focus (first | (simp only [okB]; omega) | (simp [okB]; omega))); conv => whnf) | (refine And.intro ?_ ?_; (focus (first | (simp only [pureL, pureV, pureL_bys, Bool.and_true, Bool.and_self]; done) | (simp only [pureL, pureV, pureL_bys, pureL_toks, Bool.and_true, Bool.and_self]; done))); conv => whnf) | (refine ⟨⟨rfl, rfl, ?_, ?_⟩, ?_⟩; (focus (first | (simp [lenB, offB]; done) | (simp [lenB, offB]; omega))); (focus (first | (simp [limB, lenB, offB]; done) | (simp [limB, lenB, offB]; omega))); conv => whnf) | (refine ⟨⟨rfl, ?_, ?_, ?_⟩, ?_⟩; (focus (first | (simp; done) | (simp; omega))); (focus (first | exact Or.inl rfl | exact Or.inr (by omega))); (focus (first | (simp [limB, lenB, offB]; done) | (simp [limB, lenB, offB]; omega))); conv => whnf) | (refine And.intro ?_ ?_; (focus (first | (simp [limB, lenB, offB]; done) | (simp [limB, lenB, offB]; omega))); conv => whnf) | (refine ⟨ones_toks _, ?_⟩; conv => whnf) | (refine And.intro ?_ ?_; (focus (simp [pureL, pureV, pureL_bys, pureL_toks, pureL_app]; done)); conv => whnf) | (refine fit_i64 ⟨by first | (simp; done) | (simp; omega), by first | (simp; done) | (simp; omega)⟩ ?_; conv => whnf) | (refine ifB_neg (decide_eq_false (by first | (simp; done) | (simp; omega))) ?_; conv => whnf) | (refine ifB_pos (decide_eq_true (by first | (simp; done) | (simp; omega))) ?_; conv => whnf) | (refine Or.inl ⟨⟨rfl, ?_⟩, ?_⟩; (focus (first | (simp [toksC_length]; done) | (simp [toksC_length]; omega))); conv => whnf) | (refine ⟨⟨rfl, rfl, ?_, ?_⟩, ?_⟩; (focus (first | (simp [toksC_length]; done) | (simp [toksC_length]; omega))); (focus (first | (simp [limB, lenB, offB]; done) | (simp [limB, lenB, offB]; omega))); conv => whnf) | (refine ⟨⟨rfl, ?_, ?_, ?_⟩, ?_⟩; (focus (first | (simp [toksC_length]; done) | (simp [toksC_length]; omega))); (focus (first | exact Or.inl rfl | exact Or.inr (by omega))); (focus (first | (simp [limB, lenB, offB]; done) | (simp [limB, lenB, offB]; omega))); conv => whnf) | (refine And.intro ?_ ?_; (focus (first | (simp [toksC_length]; done) | (simp [toksC_length]; omega))); conv => whnf) | (refine ⟨pureL_take (pureL_drop (pureL_bys _) _) _, ?_⟩; conv => whnf) | (refine ⟨pureL_take (pureL_drop (pureL_toks _) _) _, ?_⟩; conv => whnf) | (refine ⟨pureL_ints _, ?_⟩; conv => whnf) | (refine ⟨ones_ints _, ?_⟩; conv => whnf) | (refine ⟨ones_part (ones_ints _) _ _, ?_⟩; conv => whnf) | (refine ⟨ones_part (ones_toks _) _ _, ?_⟩; conv => whnf) | (refine ⟨ones_part (ones_bys _) _ _, ?_⟩; conv => whnf) | (refine ⟨⟨?_, ?_, ?_⟩, ?_⟩; (focus omega); (focus (first | omega | (simp; done) | (simp; omega))); (focus (first | (rw [prfs_len]; simp; omega) | (rw [ents_len]; simp; omega) | (rw [hds_len]; simp; omega) | (rw [lets_len]; simp; omega))); conv => whnf) | (refine ⟨(show pureL (rowsC _ _) = true from by first | exact prfs_pure _ | exact ents_pure _ | exact hds_pure _ | exact lets_pure _), ?_⟩; conv => whnf) | (refine ⟨(show pureL _ = true from by first | exact prfC_pure _ | exact hdC_pure _ | exact msgC_pure _ | exact letC_pure _), ?_⟩; conv => whnf))
  rfl
end
section
--KR
attribute [local irreducible] ifB fitP Does Weaker
end
section
--KR
attribute [local irreducible] ifB fitP Does Weaker
end
section
--KR
attribute [local irreducible] ifB fitP Does Weaker demsP
theorem entV_val (e : Ent) : entV e (roW e.val) = entC e := by rw [roW_eq]; rfl
theorem ent_dems1 {H : Heap} {e : Ent} {zs : List AV} {K : List Nat → Prop} (hz : zs = entC e) (h : K []) : demsP H [.agg (entC e)] [.agg zs] K := by
 subst hz
 simp only [demsP, demP]
 refine ent_dems e ?_
 simpa only [and_self, true_and, List.nil_append] using h
set_option maxRecDepth 20000 in
set_option maxHeartbeats 2000000 in
theorem ktwin_ok (e : Ent) (he : EntS e) : ACall Tryz.prog 16 [.agg (entC e)] (.agg (entC e)) [] := by
 have h := twin_ok e.val (by have := he.val'; omega)
 refine ACall.of_does TTok Tryz.func16 rfl Tryz.call16 rfl (wpc_sound (M := MK) (PL := PL0) (CU := cutAt [100002]) TTok mixed _ _ _ ?_)
 conv => whnf
 repeat ((first | refine ⟨pureL_bys _, ?_⟩ | refine ⟨rfl, ?_⟩ | refine ⟨_, rfl, ?_⟩); conv => whnf)
 refine ⟨_, _, h, by first | rfl | simp [noRoIf, noRoL, noRoV, noRoL_bys], ?_⟩
 conv => whnf
 repeat ((refine ⟨(⟨by kernel_rfl, by kernel_rfl, Nat.le_of_ble_eq_true (by kernel_rfl)⟩ : AV.ones _ = true ∧ _ ∧ _), ?_⟩); conv => whnf)
 refine Does.freeze 2 rfl (Does.tidy [(1, .ptr 0 0), (2, .ptr 1 0)] [(0, entC e), (1, zeroE)] 3 10 rfl rfl rfl (by kernel_rfl) (by rw [← entV_val]; kernel_rfl) ?_)
 refine wpc_sound (M := MK) (PL := PL0) (CU := noCut) TTok mixed _ _ _ ?_
 conv => whnf
 refine ⟨entC e, by kernel_rfl, ?_⟩
 conv => whnf
 refine ⟨(⟨by kernel_rfl, by kernel_rfl, Nat.le_of_ble_eq_true (by kernel_rfl)⟩ : AV.ones _ = true ∧ _ ∧ _), ?_⟩
 conv => whnf
 refine ⟨entC e, by kernel_rfl, ?_⟩
 conv => whnf
 refine ent_dems1 (by kernel_rfl) ?_
 rfl
end
end Go.Proofs.YtdmkpmijcgiggaaGreatDoor.Abs
