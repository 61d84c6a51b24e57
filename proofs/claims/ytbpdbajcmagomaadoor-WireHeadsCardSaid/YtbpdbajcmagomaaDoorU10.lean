/- Texts EE to EK, merged. -/
import Derived.Test.YtbpdbajcmagomaaDoorU9
set_option linter.unusedVariables false
set_option linter.unusedSimpArgs false
namespace Go.Proofs.YtbpdbajcmagomaaDoor.Abs
open Go
section
--KR
attribute [local irreducible] ifB fitP Does Weaker
theorem write7_ok (e : Ent) (he : EntS e) : ACall Tryd.prog 79 [.agg (entC e), .int .i64 7] (.tuple [.own (entB e).1.length 1 (bys (entB e).1), .int .i64 (entB e).2]) [] := by
 have hc := check_entry_ok e he
 unfold entB
 refine ACall.of_does TTok Tryd.func79 rfl Tryd.call79 rfl (wpc_sound (M := ME) (PL := PL0) (CU := noCut) TTok mixed _ _ _ ?_)
 cases c1 : entR e <;> rw [c1] at hc
 ·conv => whnf
  repeat ((first | refine ⟨entC_pure _, ?_⟩ | refine ⟨rfl, ?_⟩ | refine ⟨_, rfl, ?_⟩); conv => whnf)
  refine ⟨_, _, hc, by first | rfl | simp [noRoIf, noRoL, noRoV, noRoL_bys], ?_⟩
  conv => whnf
  repeat ((first | refine ifB_t ?_ | refine ⟨⟨rfl, rfl⟩, ?_⟩); conv => whnf)
  rfl
 ·have hr := row7_ok e he
  have ht := entTs_ok e he
  have hb := encode_ok (entTs e) ht.1 (fun t h => by have := ht.2 t h; omega)
  have hl : (entTs e).length = 11 := rfl
  clear ht
  generalize entTs e = l at hr hb hl
  conv => whnf
  repeat ((first | refine ⟨entC_pure _, ?_⟩ | refine ⟨rfl, ?_⟩ | refine ⟨_, rfl, ?_⟩); conv => whnf)
  refine ⟨_, _, hc, by first | rfl | simp [noRoIf, noRoL, noRoV, noRoL_bys], ?_⟩
  conv => whnf
  repeat ((first | refine ifB_f ?_ | refine ⟨entC_pure _, ?_⟩ | refine ⟨rfl, ?_⟩ | refine ⟨_, rfl, ?_⟩); conv => whnf)
  refine ⟨_, _, hr, by first | rfl | simp [noRoIf, noRoL, noRoV, noRoL_bys], ?_⟩
  conv => whnf
  repeat ((first | (refine Or.inl ⟨⟨rfl, ?_⟩, ?_⟩; (focus (first | rfl | (simp; done) | (rw [toksC_length]; omega)))) | refine ⟨rfl, ?_⟩ | (refine And.intro ?_ ?_; (focus (first | (simp only [pureL, pureV, pureL_bys, Bool.and_true, Bool.and_self]; done) | (simp only [pureL, pureV, pureL_bys, pureL_toks, Bool.and_true, Bool.and_self]; done))))); conv => whnf)
  refine ⟨_, _, hb.arg1 hl.symm rfl, by first | rfl | simp [noRoIf, noRoL, noRoV, noRoL_bys], ?_⟩
  conv => whnf
  repeat ((first | refine ⟨⟨rfl, rfl⟩, ?_⟩ | (refine ⟨⟨rfl, rfl, rfl, ?_, pureL_bys _⟩, ?_⟩; (focus (simp; done)))); conv => whnf)
  rfl
theorem ebytes_ok (e : Ent) (he : EntS e) : ACall Tryd.prog 48 [.agg (entC e)] (.tuple [.own (entB e).1.length 1 (bys (entB e).1), .int .i64 (entB e).2]) [] := by
 have h := write7_ok e he
 generalize entB e = q at h
 refine ACall.of_does TTok Tryd.func48 rfl Tryd.call48 rfl (wpc_sound (M := ME) (PL := PL0) (CU := noCut) TTok mixed _ _ _ ?_)
 conv => whnf
 repeat ((first | refine ⟨entC_pure _, ?_⟩ | refine ⟨rfl, ?_⟩ | refine ⟨_, rfl, ?_⟩); conv => whnf)
 refine ⟨_, _, h, by first | rfl | simp [noRoIf, noRoL, noRoV, noRoL_bys], ?_⟩
 conv => whnf
 repeat ((first | refine ⟨⟨rfl, rfl⟩, ?_⟩ | (refine ⟨⟨rfl, rfl, rfl, ?_, pureL_bys _⟩, ?_⟩; (focus (simp; done)))); conv => whnf)
 rfl
end
section

theorem envL_tidy {f : Nat → AV} : ∀ (env : List (Nat × AV)), env.map (fun p => f p.1) = env.map (fun p => p.2) → ∀ t, envL env t = f t ∨ envL env t = .top
 | [], _, t => .inr rfl
 | (d, x) :: r, h, t => by
  simp only [List.map_cons, List.cons.injEq] at h
  unfold envL
  cases hb : Nat.beq t d with
  | true =>
   obtain rfl : t = d := Nat.eq_of_beq_eq_true hb
   exact .inl h.1.symm
  | false => exact envL_tidy r h.2 t
theorem heapL_none {m : Nat} : ∀ (heap : List (Nat × List AV)), heap.all (fun p => Nat.blt p.1 m) = true → ∀ i, m ≤ i → heapL heap i = none
 | [], _, _, _ => rfl
 | (d, x) :: r, h, i, hi => by
  simp only [List.all_cons, Bool.and_eq_true] at h
  unfold heapL
  cases hb : Nat.beq i d with
  | true =>
   obtain rfl : i = d := Nat.eq_of_beq_eq_true hb
   have := h.1
   rw [Nat.blt_eq] at this
   omega
  | false => exact heapL_none r h.2 i hi
theorem Weaker.tidy {k : Nat} {st : St} (env : List (Nat × AV)) (heap : List (Nat × List AV)) (nx n : Nat) (hn : st.n = n) (hx : st.nx = nx) (hb : heap.all (fun p => Nat.blt p.1 nx) = true)
  (he : env.map (fun p => st.env p.1) = env.map (fun p => p.2)) (hh : (List.range nx).map st.heap = (List.range nx).map (heapL heap)) : Weaker k st (mkSt env heap nx n) := by
 intro Z E a S
 have hH : heapL heap = st.heap := by
  funext i
  rcases Nat.lt_or_ge i nx with hi | hi
  ·have h1 : ((List.range nx).map st.heap)[i]? = some (st.heap i) := by simp [hi]
   have h2 : ((List.range nx).map (heapL heap))[i]? = some (heapL heap i) := by simp [hi]
   rw [hh, h2] at h1
   exact Option.some.inj h1
  ·rw [heapL_none heap hb i hi, (S.heap.fresh i (by omega)).2]
 refine ⟨E, ⟨?_, ?_, S.dfr, ?_⟩, rfl, ?_⟩
 ·intro t
  change RepV E (envL env t) _
  rcases envL_tidy env he t with h | h
  ·rw [h]; exact S.env t
  ·rw [h]; simp [RepV]
 ·exact S.sz.trans hn
 ·change HeapRep Z E (heapL heap) nx
  rw [hH, ← hx]
  exact S.heap
 ·change Flow k E st.heap E (heapL heap)
  rw [hH]
  exact Flow.refl _ _
theorem Does.tidy {P : Program} {k : Nat} {c : Code} {Q : AX → St → Prop} {st : St} (env : List (Nat × AV)) (heap : List (Nat × List AV)) (nx n : Nat) (hn : st.n = n) (hx : st.nx = nx) (hb : heap.all (fun p => Nat.blt p.1 nx) = true)
  (he : env.map (fun p => st.env p.1) = env.map (fun p => p.2)) (hh : (List.range nx).map st.heap = (List.range nx).map (heapL heap)) (h : Does P k c Q (mkSt env heap nx n)) : Does P k c Q st :=
 Does.weaker (Weaker.tidy env heap nx n hn hx hb he hh) h
theorem ACall.args {P : Program} {f : FuncId} {xs ys : List AV} {r : AV} {outs : List AV} (h : ACall P f ys r outs) (e : xs = ys) : ACall P f xs r outs := by
 subst e; exact h
end
section
--KR
attribute [local irreducible] ifB fitP Does Weaker demsP
def RwOk (r : Rw) : Prop := ToksOk r.l ∧ ∀ t ∈ r.l, t.b.length ≤ 1000000000
theorem rNext_rok {r : Rw} (h : RwOk r) (k : Int) : RwOk (rNext k r).2 ∧ TokOk (rNext k r).1 ∧ (rNext k r).1.b.length ≤ 1000000000 := by
 have z : TokOk ⟨0, 0, []⟩ := ⟨by dsimp only; omega, by dsimp only; omega, fun x hx => absurd hx (List.not_mem_nil)⟩
 obtain ⟨l, bad⟩ := r
 unfold rNext
 split
 ·exact ⟨h, z, by simp⟩
 ·cases l with
  | nil => exact ⟨h, z, by simp⟩
  | cons t q =>
   dsimp only
   split
   ·exact ⟨⟨fun x hx => h.1 x (List.mem_cons_of_mem _ hx), fun x hx => h.2 x (List.mem_cons_of_mem _ hx)⟩, h.1 t List.mem_cons_self, h.2 t List.mem_cons_self⟩
   ·exact ⟨h, z, by simp⟩
theorem rArr_rok {r : Rw} (h : RwOk r) (m : Nat) : RwOk (rArr m r).2 ∧ Byt (rArr m r).1 ∧ (rArr m r).1.length = m := by
 refine ⟨?_, ?_, rArr_len m r⟩
 ·unfold rArr
  split
  ·exact (rNext_rok h 3).1
  ·exact (rNext_rok h 3).1
 ·unfold rArr
  split
  ·exact (rNext_rok h 3).2.1.2.2
  ·intro x hx
   rw [List.mem_replicate] at hx
   omega
theorem rWant_rok {r : Rw} (h : RwOk r) (m f : Int) : RwOk (rWant m f r) := by
 have h1 := (rNext_rok h 5).1
 have h2 := (rNext_rok h1 1).1
 unfold rWant
 split
 ·exact h1
 ·split
  ·exact h2
  ·exact h2
theorem rOpen_rok {b : List Int} (hb : Byt b) (hl : b.length ≤ 1000000000) : RwOk (rOpen b) := by
 unfold rOpen RwOk
 rcases decR_or validR b with h | ⟨l, h, _, hp⟩
 ·rw [h]
  exact ⟨fun t ht => absurd ht (List.not_mem_nil), fun t ht => absurd ht (List.not_mem_nil)⟩
 ·rw [h]
  have := pItem_toks b hb 7 ⟨0, [], false⟩ ⟨by simp [ToksOk], by simp⟩
  rw [hp] at this
  exact ⟨this.1, fun t ht => Nat.le_trans (this.2 t ht) hl⟩
theorem entV_whole (e : Ent) : entV e (.ro e.val.length (List.take (e.val.length * 1) (List.drop 0 (bys e.val)))) = entC e := by rw [whole_bys]; rfl
def rdE (r : Rw) : Ent × Int :=
 match rArr 32 r with
 | (au, r1) => match rNext 1 r1 with
  | (s, r2) => match rArr 32 r2 with
   | (prev, r3) => match rNext 1 r3 with
    | (st, r4) => match rNext 5 r4 with
     | (li, r5) => if li.n ≠ 3 then (ent0, 3) else match rNext 1 r5 with
      | (ki, r6) => match rNext 4 r6 with
       | (ke, r7) => match rNext 3 r7 with
        | (va, r8) => match rArr 64 r8 with
         | (sig, r9) => if (!r9.bad && decide (r9.l = [])) = true then (if entR ⟨au, s.n, prev, st.n, ki.n, ke.b, va.b, sig⟩ = true then (⟨au, s.n, prev, st.n, ki.n, ke.b, va.b, sig⟩, 0) else (ent0, 3)) else (ent0, 3)
def rdEnt (b : List Int) : Ent × Int := rdE (rWant 7 1 (rOpen b))
set_option maxRecDepth 20000 in
set_option maxHeartbeats 1500000 in
theorem eread_ok (b : List Int) (hb : Byt b) (hl : b.length ≤ 1000000000) : ACall Tryd.prog 85 [.ro b.length (bys b)] (.tuple [.agg (entC (rdEnt b).1), .int .i64 (rdEnt b).2]) [] := by
 have k0 := rOpen_rok hb hl
 have h0 := open_ok b hb (by omega)
 unfold rdEnt
 generalize rOpen b = r0 at k0 h0 ⊢
 have h1 := rwant_ok r0 7 1
 have k1 := rWant_rok k0 7 1
 generalize rWant 7 1 r0 = r1 at h1 k1 ⊢
 unfold rdE
 have h2 := rid_ok' r1
 have k2 := rArr_rok k1 32
 generalize rArr 32 r1 = q at h2 k2 ⊢
 obtain ⟨au, r2⟩ := q
 dsimp only at h2 k2 ⊢
 have h3 := rnum_ok r2
 have k3 := rNext_rok k2.1 1
 generalize rNext 1 r2 = q at h3 k3 ⊢
 obtain ⟨s, r3⟩ := q
 dsimp only at h3 k3 ⊢
 have h4 := rid_ok' r3
 have k4 := rArr_rok k3.1 32
 generalize rArr 32 r3 = q at h4 k4 ⊢
 obtain ⟨prev, r4⟩ := q
 dsimp only at h4 k4 ⊢
 have h5 := rnum_ok r4
 have k5 := rNext_rok k4.1 1
 generalize rNext 1 r4 = q at h5 k5 ⊢
 obtain ⟨st, r5⟩ := q
 dsimp only at h5 k5 ⊢
 have h6 := rlist_ok r5
 have k6 := rNext_rok k5.1 5
 generalize rNext 5 r5 = q at h6 k6 ⊢
 obtain ⟨li, r6⟩ := q
 dsimp only at h6 k6 ⊢
 have h7 := rnum_ok r6
 have k7 := rNext_rok k6.1 1
 generalize rNext 1 r6 = q at h7 k7 ⊢
 obtain ⟨ki, r7⟩ := q
 dsimp only at h7 k7 ⊢
 have k8 := rNext_rok k7.1 4
 have h8 := rtext_ok r7 k8.2.1.2.2
 generalize rNext 4 r7 = q at h8 k8 ⊢
 obtain ⟨ke, r8⟩ := q
 dsimp only at h8 k8 ⊢
 have h9 := rstr_ok r8
 have k9 := rNext_rok k8.1 3
 generalize rNext 3 r8 = q at h9 k9 ⊢
 obtain ⟨va, r9⟩ := q
 dsimp only at h9 k9 ⊢
 have h10 := rsig_ok' r9
 have k10 := rArr_rok k9.1 64
 generalize rArr 64 r9 = q at h10 k10 ⊢
 obtain ⟨sig, r10⟩ := q
 dsimp only at h10 k10 ⊢
 have h11 := rdone_ok r10
 generalize (!r10.bad && decide (r10.l = [])) = dn at h11 ⊢
 have hcl := bclone_ok va.b (by have := k9.2.2; omega)
 have he : EntS ⟨au, s.n, prev, st.n, ki.n, ke.b, va.b, sig⟩ :=
  { au := k2.2, seq := k3.2.1.2.1, prev := k4.2, stamp := k5.2.1.2.1, kind := k7.2.1.2.1, key := ⟨k8.2.1.2.2, by have := k8.2.2; dsimp only; omega⟩, val := ⟨k9.2.1.2.2, by have := k9.2.2; dsimp only; omega⟩, sig := k10.2, key' := k8.2.2, val' := k9.2.2 }
 have h12 := check_entry_ok _ he
 refine ACall.of_does TTok Tryd.func85 rfl Tryd.call85 rfl (wpc_sound (M := ME) (PL := PL0) (CU := cutAt [100004, 100007, 100008, 100010]) TTok mixed _ _ _ ?_)
 conv => whnf
 repeat ((first | refine ⟨pureL_bys _, ?_⟩ | refine ⟨rfl, ?_⟩); conv => whnf)
 refine ⟨_, _, h0, by first | rfl | simp [noRoIf, noRoL, noRoV, noRoL_bys], ?_⟩
 conv => whnf
 repeat ((first | refine ⟨rfl, ?_⟩ | (refine And.intro ?_ ?_; (focus (first | (simp only [pureL, pureV, pureL_bys, Bool.and_true, Bool.and_self]; done) | (simp only [pureL, pureV, pureL_bys, pureL_toks, Bool.and_true, Bool.and_self]; done))))); conv => whnf)
 refine ⟨_, _, h1, by first | rfl | simp [noRoIf, noRoL, noRoV, noRoL_bys], ?_⟩
 conv => whnf
 repeat ((first | refine ⟨rfl, ?_⟩ | (refine And.intro ?_ ?_; (focus (first | (simp only [pureL, pureV, pureL_bys, Bool.and_true, Bool.and_self]; done) | (simp only [pureL, pureV, pureL_bys, pureL_toks, Bool.and_true, Bool.and_self]; done))))); conv => whnf)
 refine ⟨_, _, h2, by first | rfl | simp [noRoIf, noRoL, noRoV, noRoL_bys], ?_⟩
 conv => whnf
 repeat ((first | refine ⟨rfl, ?_⟩ | (refine And.intro ?_ ?_; (focus (first | (simp only [pureL, pureV, pureL_bys, Bool.and_true, Bool.and_self]; done) | (simp only [pureL, pureV, pureL_bys, pureL_toks, Bool.and_true, Bool.and_self]; done))))); conv => whnf)
 refine ⟨_, _, h3, by first | rfl | simp [noRoIf, noRoL, noRoV, noRoL_bys], ?_⟩
 conv => whnf
 repeat ((first | refine ⟨rfl, ?_⟩ | (refine And.intro ?_ ?_; (focus (first | (simp only [pureL, pureV, pureL_bys, Bool.and_true, Bool.and_self]; done) | (simp only [pureL, pureV, pureL_bys, pureL_toks, Bool.and_true, Bool.and_self]; done))))); conv => whnf)
 refine ⟨_, _, h4, by first | rfl | simp [noRoIf, noRoL, noRoV, noRoL_bys], ?_⟩
 conv => whnf
 repeat ((first | refine ⟨rfl, ?_⟩ | (refine And.intro ?_ ?_; (focus (first | (simp only [pureL, pureV, pureL_bys, Bool.and_true, Bool.and_self]; done) | (simp only [pureL, pureV, pureL_bys, pureL_toks, Bool.and_true, Bool.and_self]; done))))); conv => whnf)
 refine ⟨_, _, h5, by first | rfl | simp [noRoIf, noRoL, noRoV, noRoL_bys], ?_⟩
 conv => whnf
 repeat ((first | refine ⟨(⟨by kernel_rfl, by kernel_rfl, Nat.le_of_ble_eq_true (by kernel_rfl)⟩ : AV.ones _ = true ∧ _ ∧ _), ?_⟩ | refine ⟨rfl, ?_⟩ | refine ⟨⟨rfl, rfl⟩, ?_⟩); conv => whnf)
 refine Does.tidy [(2, .ptr 0 0), (4, .ptr 1 0), (5, .ptr 2 0)] [(0, zeroE), (1, rowC r5), (2, c32 au (.int .i64 s.n :: c32 prev (.int .i64 st.n :: .int .i64 0 :: .str [] :: .nil :: c64 z64 [])))] 3 45 rfl rfl rfl (by kernel_rfl) (by kernel_rfl) ?_
 clear h0 h1 h2 h3 h4 h5
 refine wpc_sound (M := ME) (PL := PL0) (CU := noCut) TTok mixed _ _ _ ?_
 conv => whnf
 repeat ((first | refine ⟨rfl, ?_⟩ | (refine And.intro ?_ ?_; (focus (first | (simp only [pureL, pureV, pureL_bys, Bool.and_true, Bool.and_self]; done) | (simp only [pureL, pureV, pureL_bys, pureL_toks, Bool.and_true, Bool.and_self]; done))))); conv => whnf)
 refine ⟨_, _, h6, by first | rfl | simp [noRoIf, noRoL, noRoV, noRoL_bys], ?_⟩
 conv => whnf
 by_cases c1 : li.n ≠ 3
 ·rw [if_pos c1]
  refine ifB_pos (dt c1) ?_
  conv => whnf
  repeat ((first | refine ⟨(⟨by kernel_rfl, by kernel_rfl, Nat.le_of_ble_eq_true (by kernel_rfl)⟩ : AV.ones _ = true ∧ _ ∧ _), ?_⟩ | refine ⟨_, rfl, ?_⟩); conv => whnf)
  refine ent0_int_dems (by kernel_rfl) ?_
  rfl
 rw [if_neg c1]
 refine ifB_neg (df c1) ?_
 conv => whnf
 repeat ((first | refine ⟨rfl, ?_⟩ | (refine And.intro ?_ ?_; (focus (first | (simp only [pureL, pureV, pureL_bys, Bool.and_true, Bool.and_self]; done) | (simp only [pureL, pureV, pureL_bys, pureL_toks, Bool.and_true, Bool.and_self]; done))))); conv => whnf)
 refine ⟨_, _, h7, by first | rfl | simp [noRoIf, noRoL, noRoV, noRoL_bys], ?_⟩
 conv => whnf
 repeat ((first | refine ⟨rfl, ?_⟩ | (refine And.intro ?_ ?_; (focus (first | (simp only [pureL, pureV, pureL_bys, Bool.and_true, Bool.and_self]; done) | (simp only [pureL, pureV, pureL_bys, pureL_toks, Bool.and_true, Bool.and_self]; done))))); conv => whnf)
 refine ⟨_, _, h8, by first | rfl | simp [noRoIf, noRoL, noRoV, noRoL_bys], ?_⟩
 conv => whnf
 repeat ((first | refine ⟨rfl, ?_⟩ | (refine And.intro ?_ ?_; (focus (first | (simp only [pureL, pureV, pureL_bys, Bool.and_true, Bool.and_self]; done) | (simp only [pureL, pureV, pureL_bys, pureL_toks, Bool.and_true, Bool.and_self]; done))))); conv => whnf)
 refine ⟨_, _, h9, by first | rfl | simp [noRoIf, noRoL, noRoV, noRoL_bys], ?_⟩
 conv => whnf
 repeat ((first | refine ⟨pureL_bys _, ?_⟩ | refine ⟨rfl, ?_⟩); conv => whnf)
 refine ⟨_, _, hcl, by first | rfl | simp [noRoIf, noRoL, noRoV, noRoL_bys], ?_⟩
 conv => whnf
 repeat ((refine ⟨(⟨by kernel_rfl, by kernel_rfl, Nat.le_of_ble_eq_true (by kernel_rfl)⟩ : AV.ones _ = true ∧ _ ∧ _), ?_⟩); conv => whnf)
 refine Does.tidy [(2, .ptr 0 0), (4, .ptr 1 0), (5, .ptr 2 0)] [(0, zeroE), (1, rowC r9), (2, entV ⟨au, s.n, prev, st.n, ki.n, ke.b, va.b, z64⟩ (.sl 3 0 va.b.length 1 false)), (3, bys va.b)] 4 45 rfl rfl rfl (by kernel_rfl) (by kernel_rfl) ?_
 clear h6 h7 h8 h9 hcl
 refine wpc_sound (M := ME) (PL := PL0) (CU := noCut) TTok mixed _ _ _ ?_
 conv => whnf
 repeat ((first | refine ⟨rfl, ?_⟩ | (refine And.intro ?_ ?_; (focus (first | (simp only [pureL, pureV, pureL_bys, Bool.and_true, Bool.and_self]; done) | (simp only [pureL, pureV, pureL_bys, pureL_toks, Bool.and_true, Bool.and_self]; done))))); conv => whnf)
 refine ⟨_, _, h10, by first | rfl | simp [noRoIf, noRoL, noRoV, noRoL_bys], ?_⟩
 conv => whnf
 repeat ((refine ⟨(⟨by kernel_rfl, by kernel_rfl, Nat.le_of_ble_eq_true (by kernel_rfl)⟩ : AV.ones _ = true ∧ _ ∧ _), ?_⟩); conv => whnf)
 refine Does.freeze 3 rfl (Does.tidy [(2, .ptr 0 0), (4, .ptr 1 0), (5, .ptr 2 0)] [(0, zeroE), (1, rowC r10), (2, entC ⟨au, s.n, prev, st.n, ki.n, ke.b, va.b, sig⟩)] 4 45 rfl rfl rfl (by kernel_rfl) (by rw [← entV_whole]; kernel_rfl) ?_)
 clear h10
 generalize (⟨au, s.n, prev, st.n, ki.n, ke.b, va.b, sig⟩ : Ent) = e at h12 ⊢
 refine wpc_sound (M := ME) (PL := PL0) (CU := noCut) TTok mixed _ _ _ ?_
 conv => whnf
 repeat ((first | refine ⟨rfl, ?_⟩ | (refine And.intro ?_ ?_; (focus (first | (simp only [pureL, pureV, pureL_bys, Bool.and_true, Bool.and_self]; done) | (simp only [pureL, pureV, pureL_bys, pureL_toks, Bool.and_true, Bool.and_self]; done))))); conv => whnf)
 refine ⟨_, _, h11, by first | rfl | simp [noRoIf, noRoL, noRoV, noRoL_bys], ?_⟩
 conv => whnf
 cases dn
 ·conv => whnf
  repeat ((first | refine ifB_t ?_ | refine ⟨(⟨by kernel_rfl, by kernel_rfl, Nat.le_of_ble_eq_true (by kernel_rfl)⟩ : AV.ones _ = true ∧ _ ∧ _), ?_⟩ | refine ⟨_, rfl, ?_⟩); conv => whnf)
  refine ent0_int_dems (by kernel_rfl) ?_
  rfl
 simp only [if_true]
 cases c2 : entR e <;> rw [c2] at h12
 ·conv => whnf
  repeat ((first | refine ifB_f ?_ | refine ⟨entC_pure _, ?_⟩ | refine ⟨rfl, ?_⟩ | refine ⟨_, rfl, ?_⟩); conv => whnf)
  refine ⟨_, _, h12, by first | rfl | simp [noRoIf, noRoL, noRoV, noRoL_bys], ?_⟩
  conv => whnf
  repeat ((first | refine ifB_t ?_ | refine ifB_f ?_ | refine ⟨(⟨by kernel_rfl, by kernel_rfl, Nat.le_of_ble_eq_true (by kernel_rfl)⟩ : AV.ones _ = true ∧ _ ∧ _), ?_⟩ | refine ⟨_, rfl, ?_⟩); conv => whnf)
  refine ent0_int_dems (by kernel_rfl) ?_
  rfl
 ·conv => whnf
  repeat ((first | refine ifB_f ?_ | refine ⟨entC_pure _, ?_⟩ | refine ⟨rfl, ?_⟩ | refine ⟨_, rfl, ?_⟩); conv => whnf)
  refine ⟨_, _, h12, by first | rfl | simp [noRoIf, noRoL, noRoV, noRoL_bys], ?_⟩
  conv => whnf
  repeat ((refine ifB_f ?_); conv => whnf)
  refine Does.tidy [(2, .ptr 0 0), (5, .ptr 2 0)] [(0, zeroE), (1, rowC r10), (2, entC e)] 4 45 rfl rfl rfl (by kernel_rfl) (by kernel_rfl) ?_
  refine wpc_sound (M := ME) (PL := PL0) (CU := noCut) TTok mixed _ _ _ ?_
  conv => whnf
  refine ⟨entC e, by kernel_rfl, ?_⟩
  conv => whnf
  refine ⟨(⟨by kernel_rfl, by kernel_rfl, Nat.le_of_ble_eq_true (by kernel_rfl)⟩ : AV.ones _ = true ∧ _ ∧ _), ?_⟩
  conv => whnf
  refine ⟨entC e, by kernel_rfl, ?_⟩
  conv => whnf
  refine ent_int_dems (by kernel_rfl) ?_
  rfl
theorem rdE_entS {r : Rw} (h : RwOk r) : EntS (rdE r).1 ∧ ((rdE r).2 = 0 → entR (rdE r).1 = true) := by
 have z : EntS ent0 := by
  have hz : Byt z32 := fun x hx => by simp only [z32, List.mem_replicate] at hx; omega
  have hz' : Byt z64 := fun x hx => by simp only [z64, List.mem_replicate] at hx; omega
  have hn : Byt [] := fun x hx => absurd hx (List.not_mem_nil)
  exact { au := ⟨hz, rfl⟩, seq := by decide, prev := ⟨hz, rfl⟩, stamp := by decide, kind := by decide, key := ⟨hn, by decide⟩, val := ⟨hn, by decide⟩, sig := ⟨hz', rfl⟩, key' := by decide, val' := by decide }
 unfold rdE
 have k2 := rArr_rok h 32
 generalize rArr 32 r = q at k2 ⊢
 obtain ⟨au, r2⟩ := q
 dsimp only at k2 ⊢
 have k3 := rNext_rok k2.1 1
 generalize rNext 1 r2 = q at k3 ⊢
 obtain ⟨s, r3⟩ := q
 dsimp only at k3 ⊢
 have k4 := rArr_rok k3.1 32
 generalize rArr 32 r3 = q at k4 ⊢
 obtain ⟨prev, r4⟩ := q
 dsimp only at k4 ⊢
 have k5 := rNext_rok k4.1 1
 generalize rNext 1 r4 = q at k5 ⊢
 obtain ⟨st, r5⟩ := q
 dsimp only at k5 ⊢
 have k6 := rNext_rok k5.1 5
 generalize rNext 5 r5 = q at k6 ⊢
 obtain ⟨li, r6⟩ := q
 dsimp only at k6 ⊢
 have k7 := rNext_rok k6.1 1
 generalize rNext 1 r6 = q at k7 ⊢
 obtain ⟨ki, r7⟩ := q
 dsimp only at k7 ⊢
 have k8 := rNext_rok k7.1 4
 generalize rNext 4 r7 = q at k8 ⊢
 obtain ⟨ke, r8⟩ := q
 dsimp only at k8 ⊢
 have k9 := rNext_rok k8.1 3
 generalize rNext 3 r8 = q at k9 ⊢
 obtain ⟨va, r9⟩ := q
 dsimp only at k9 ⊢
 have k10 := rArr_rok k9.1 64
 generalize rArr 64 r9 = q at k10 ⊢
 obtain ⟨sig, r10⟩ := q
 dsimp only at k10 ⊢
 split
 ·exact ⟨z, fun e => by cases e⟩
 ·split
  ·split
   ·rename_i c
    exact ⟨{ au := k2.2, seq := k3.2.1.2.1, prev := k4.2, stamp := k5.2.1.2.1, kind := k7.2.1.2.1, key := ⟨k8.2.1.2.2, by have := k8.2.2; dsimp only; omega⟩, val := ⟨k9.2.1.2.2, by have := k9.2.2; dsimp only; omega⟩, sig := k10.2, key' := k8.2.2, val' := k9.2.2 }, fun _ => c⟩
   ·exact ⟨z, fun e => by cases e⟩
  ·exact ⟨z, fun e => by cases e⟩
theorem rdEnt_entS {b : List Int} (hb : Byt b) (hl : b.length ≤ 1000000000) : EntS (rdEnt b).1 ∧ ((rdEnt b).2 = 0 → entR (rdEnt b).1 = true) := rdE_entS (rWant_rok (rOpen_rok hb hl) 7 1)
end
section
--KR
attribute [local irreducible] ifB fitP Does Weaker
structure Prf where
 a : Ent
 b : Ent
 deriving DecidableEq
def prfC (p : Prf) : List AV := entC p.a ++ entC p.b
structure PrfS (p : Prf) : Prop where
 a : EntS p.a
 b : EntS p.b
def prf0 : Prf := ⟨ent0, ent0⟩
theorem entB_byt {e : Ent} (he : EntS e) : Byt (entB e).1 ∧ (entB e).1.length ≤ 32768 := by
 unfold entB
 split
 ·refine ⟨encR_byt _ (entTs_ok e he).1, ?_⟩
  rcases encR_or validR (entTs e) with h | ⟨a, h⟩
  ·rw [h]; simp
  ·have := encR_len h
   rw [h]; exact this
 ·exact ⟨fun x hx => absurd hx (List.not_mem_nil), by simp⟩
theorem ent_dems' {H : Heap} (e : Ent) {r q : List AV} {K : List Nat → Prop} (h : demsP H r q K) : demsP H (entC e ++ r) (entC e ++ q) K := by
 unfold entC
 simp only [c32_app, List.cons_append]
 refine c32_dems ?_
 simp only [demsP, demP, and_self, true_and, List.nil_append]
 refine c32_dems ?_
 simp only [demsP, demP, and_self, true_and, List.nil_append]
 refine ⟨pureL_bys _, ?_⟩
 simp only [c64_app]
 exact c64_dems h
theorem ent0_dems' {H : Heap} {r q : List AV} {K : List Nat → Prop} (h : demsP H r q K) : demsP H (entC ent0 ++ r) (zeroE ++ q) K := by
 unfold entC zeroE entV
 simp only [c32_app, List.cons_append]
 refine c32_dems ?_
 simp only [demsP, demP, and_self, true_and, List.nil_append]
 refine c32_dems ?_
 simp only [demsP, demP, and_self, true_and, List.nil_append]
 refine ⟨⟨rfl, rfl⟩, ?_⟩
 simp only [c64_app]
 exact c64_dems h
theorem prf_int_dems {H : Heap} {p : Prf} {n : Int} {zs : List AV} {K : List Nat → Prop} (hz : zs = prfC p) (h : K []) : demsP H [.tuple [.agg (prfC p), .int .i64 n]] [.tuple [.agg zs, .int .i64 n]] K := by
 subst hz
 simp only [demsP, demP]
 refine ent_dems' p.a ?_
 refine ent_dems p.b ?_
 simpa only [and_self, true_and, List.nil_append] using h
theorem prf0_int_dems {H : Heap} {n : Int} {zs : List AV} {K : List Nat → Prop} (hz : zs = zeroE ++ zeroE) (h : K []) : demsP H [.tuple [.agg (prfC prf0), .int .i64 n]] [.tuple [.agg zs, .int .i64 n]] K := by
 subst hz
 simp only [demsP, demP]
 refine ent0_dems' ?_
 refine ent0_dems ?_
 simpa only [and_self, true_and, List.nil_append] using h
def ordR (a b : Ent) : Int := if (entB a).2 ≠ 0 then 0 else if (entB b).2 ≠ 0 then 0 else if a.au ≠ b.au then 0 else if a.seq ≠ b.seq then 0 else cmpI (entB a).1 (entB b).1
def prfR (p : Prf) : Bool := decide (ordR p.a p.b < 0)
set_option maxHeartbeats 1000000 in
theorem order_ok (a b : Ent) (ha : EntS a) (hb : EntS b) : ACall Tryd.prog 88 [.agg (entC a), .agg (entC b)] (.int .i64 (ordR a b)) [] := by
 have h1 := ebytes_ok a ha
 have h2 := ebytes_ok b hb
 have b1 := entB_byt ha
 have b2 := entB_byt hb
 unfold ordR
 generalize entB a = p at h1 b1 ⊢
 generalize entB b = q at h2 b2 ⊢
 obtain ⟨x, e⟩ := p
 obtain ⟨y, f⟩ := q
 dsimp only at h1 b1 h2 b2 ⊢
 have hc := compare_ok x y b1.1 b2.1
 refine ACall.of_does TTok Tryd.func88 rfl Tryd.call88 rfl (wpc_sound (M := ME) (PL := PL0) (CU := cutAt [100003]) TTok mixed _ _ _ ?_)
 conv => whnf
 repeat ((first | refine ⟨entC_pure _, ?_⟩ | refine ⟨rfl, ?_⟩ | refine ⟨_, rfl, ?_⟩); conv => whnf)
 refine ⟨_, _, h1, by first | rfl | simp [noRoIf, noRoL, noRoV, noRoL_bys], ?_⟩
 conv => whnf
 repeat ((first | refine ⟨entC_pure _, ?_⟩ | refine ⟨rfl, ?_⟩ | refine ⟨_, rfl, ?_⟩); conv => whnf)
 refine ⟨_, _, h2, by first | rfl | simp [noRoIf, noRoL, noRoV, noRoL_bys], ?_⟩
 conv => whnf
 refine Does.tidy [(2, .ptr 0 0), (3, .ptr 1 0), (5, .sl 2 0 x.length 1 false), (6, .int .i64 e), (7, .sl 3 0 y.length 1 false), (8, .int .i64 f)] [(0, entC a), (1, entC b), (2, bys x), (3, bys y)] 4 42 rfl rfl rfl (by kernel_rfl) (by kernel_rfl) ?_
 refine wpc_sound (M := ME) (PL := PL0) (CU := noCut) TTok mixed _ _ _ ?_
 by_cases c1 : e ≠ 0
 ·rw [if_pos c1]
  conv => whnf
  repeat ((first | refine ifB_t ?_ | (refine ifB_pos (decide_eq_true (by first | omega | rfl | (dsimp only; omega))) ?_) | refine ⟨⟨rfl, rfl⟩, ?_⟩); conv => whnf)
  rfl
 rw [if_neg c1]
 by_cases c2 : f ≠ 0
 ·rw [if_pos c2]
  conv => whnf
  repeat ((first | refine ifB_t ?_ | refine ifB_f ?_ | (refine ifB_neg (decide_eq_false (by first | omega | rfl | (dsimp only; omega))) ?_) | (refine ifB_pos (decide_eq_true (by first | omega | rfl | (dsimp only; omega))) ?_) | refine ⟨⟨rfl, rfl⟩, ?_⟩); conv => whnf)
  rfl
 rw [if_neg c2]
 by_cases c3 : a.au ≠ b.au
 ·rw [if_pos c3]
  conv => whnf
  repeat ((first | refine ifB_f ?_ | (refine ifB_neg (decide_eq_false (by first | omega | rfl | (dsimp only; omega))) ?_) | refine ⟨_, rfl, ?_⟩); conv => whnf)
  refine ⟨a.au, b.au, ⟨rfl, c32_map ha.au.2, c32_map hb.au.2, ha.au.2, hb.au.2⟩, ?_⟩
  conv => whnf
  repeat ((refine ifB_f ?_); conv => whnf)
  rw [df (show ¬ a.au = b.au from c3)]
  conv => whnf
  repeat ((first | refine ifB_t ?_ | refine ⟨⟨rfl, rfl⟩, ?_⟩); conv => whnf)
  rfl
 rw [if_neg c3]
 by_cases c4 : a.seq ≠ b.seq
 ·rw [if_pos c4]
  conv => whnf
  repeat ((first | refine ifB_f ?_ | (refine ifB_neg (decide_eq_false (by first | omega | rfl | (dsimp only; omega))) ?_) | refine ⟨_, rfl, ?_⟩); conv => whnf)
  refine ⟨a.au, b.au, ⟨rfl, c32_map ha.au.2, c32_map hb.au.2, ha.au.2, hb.au.2⟩, ?_⟩
  conv => whnf
  repeat ((refine ifB_f ?_); conv => whnf)
  rw [dt (show a.au = b.au from Classical.not_not.1 c3)]
  conv => whnf
  repeat ((first | refine ifB_f ?_ | (refine ifB_pos (decide_eq_true (by first | omega | rfl | (dsimp only; omega))) ?_) | refine ⟨_, rfl, ?_⟩ | refine ⟨⟨rfl, rfl⟩, ?_⟩); conv => whnf)
  rfl
 rw [if_neg c4]
 conv => whnf
 repeat ((first | refine ifB_f ?_ | (refine ifB_neg (decide_eq_false (by first | omega | rfl | (dsimp only; omega))) ?_) | refine ⟨_, rfl, ?_⟩); conv => whnf)
 refine ⟨a.au, b.au, ⟨rfl, c32_map ha.au.2, c32_map hb.au.2, ha.au.2, hb.au.2⟩, ?_⟩
 conv => whnf
 repeat ((refine ifB_f ?_); conv => whnf)
 rw [dt (show a.au = b.au from Classical.not_not.1 c3)]
 conv => whnf
 repeat ((first | refine ifB_f ?_ | (refine ifB_neg (decide_eq_false (by first | omega | rfl | (dsimp only; omega))) ?_) | refine ⟨pureL_bys _, ?_⟩ | (refine Or.inl ⟨⟨rfl, ?_⟩, ?_⟩; (focus (first | rfl | (simp; done) | (rw [toksC_length]; omega)))) | refine ⟨rfl, ?_⟩ | refine ⟨_, rfl, ?_⟩); conv => whnf)
 refine ⟨_, _, hc, by first | rfl | simp [noRoIf, noRoL, noRoV, noRoL_bys], ?_⟩
 conv => whnf
 repeat ((refine ⟨⟨rfl, rfl⟩, ?_⟩); conv => whnf)
 rfl
def prfB (p : Prf) : List Int × Int := if prfR p then encR validR [⟨5, 3, []⟩, ⟨1, 2, []⟩, ⟨3, 0, (entB p.a).1⟩, ⟨3, 0, (entB p.b).1⟩] else ([], 1)
set_option maxRecDepth 20000 in
set_option maxHeartbeats 1000000 in
theorem check_proof_ok (p : Prf) (hp : PrfS p) : ACall Tryd.prog 58 [.agg (prfC p)] (.int .i64 (if prfR p then 0 else 1)) [] := by
 have h := order_ok p.a p.b hp.a hp.b
 unfold prfR
 refine ACall.of_does TTok Tryd.func58 rfl Tryd.call58 rfl (wpc_sound (M := ME) (PL := PL0) (CU := noCut) TTok mixed _ _ _ ?_)
 conv => whnf
 repeat ((first | refine ⟨entC_pure _, ?_⟩ | refine ⟨rfl, ?_⟩ | refine ⟨_, rfl, ?_⟩); conv => whnf)
 refine ⟨_, _, h, by first | rfl | simp [noRoIf, noRoL, noRoV, noRoL_bys], ?_⟩
 conv => whnf
 refine ifB_dec (fun c => ?_) (fun c => ?_)
 ·rw [df (show ¬ ordR p.a p.b < 0 by omega)]
  conv => whnf
  repeat ((refine ⟨⟨rfl, rfl⟩, ?_⟩); conv => whnf)
  rfl
 ·rw [dt (show ordR p.a p.b < 0 by omega)]
  conv => whnf
  repeat ((refine ⟨⟨rfl, rfl⟩, ?_⟩); conv => whnf)
  rfl
set_option maxRecDepth 20000 in
set_option maxHeartbeats 1000000 in
theorem pbytes_ok (p : Prf) (hp : PrfS p) : ACall Tryd.prog 47 [.agg (prfC p)] (.tuple [.own (prfB p).1.length 1 (bys (prfB p).1), .int .i64 (prfB p).2]) [] := by
 have hc := check_proof_ok p hp
 have h1 := ebytes_ok p.a hp.a
 have h2 := ebytes_ok p.b hp.b
 have b1 := entB_byt hp.a
 have b2 := entB_byt hp.b
 unfold prfB
 generalize entB p.a = x at h1 b1 ⊢
 generalize entB p.b = y at h2 b2 ⊢
 obtain ⟨x, e⟩ := x
 obtain ⟨y, f⟩ := y
 dsimp only at h1 b1 h2 b2 ⊢
 refine ACall.of_does TTok Tryd.func47 rfl Tryd.call47 rfl (wpc_sound (M := ME) (PL := PL0) (CU := cutAt [100006]) TTok mixed _ _ _ ?_)
 cases c1 : prfR p <;> rw [c1] at hc
 ·conv => whnf
  repeat ((first | refine ⟨rfl, ?_⟩ | refine ⟨_, rfl, ?_⟩ | (refine And.intro ?_ ?_; (focus (first | (simp only [pureL, pureV, pureL_bys, Bool.and_true, Bool.and_self]; done) | (simp only [pureL, pureV, pureL_bys, pureL_toks, Bool.and_true, Bool.and_self]; done))))); conv => whnf)
  refine ⟨_, _, hc, by first | rfl | simp [noRoIf, noRoL, noRoV, noRoL_bys], ?_⟩
  conv => whnf
  repeat ((first | refine ifB_t ?_ | refine ⟨⟨rfl, rfl⟩, ?_⟩); conv => whnf)
  rfl
 have hb := encode_ok [⟨5, 3, []⟩, ⟨1, 2, []⟩, ⟨3, 0, x⟩, ⟨3, 0, y⟩] (by
  intro t ht
  simp only [List.mem_cons, List.not_mem_nil, or_false] at ht
  rcases ht with rfl | rfl | rfl | rfl
  all_goals refine ⟨by dsimp only; omega, by dsimp only; omega, ?_⟩
  all_goals first | exact fun x hx => absurd hx (List.not_mem_nil) | exact b1.1 | exact b2.1) (by
  intro t ht
  simp only [List.mem_cons, List.not_mem_nil, or_false] at ht
  have := b1.2
  have := b2.2
  rcases ht with rfl | rfl | rfl | rfl
  all_goals dsimp only
  all_goals first | omega | (simp; done))
 conv => whnf
 repeat ((first | refine ⟨rfl, ?_⟩ | refine ⟨_, rfl, ?_⟩ | (refine And.intro ?_ ?_; (focus (first | (simp only [pureL, pureV, pureL_bys, Bool.and_true, Bool.and_self]; done) | (simp only [pureL, pureV, pureL_bys, pureL_toks, Bool.and_true, Bool.and_self]; done))))); conv => whnf)
 refine ⟨_, _, hc, by first | rfl | simp [noRoIf, noRoL, noRoV, noRoL_bys], ?_⟩
 conv => whnf
 repeat ((first | refine ifB_f ?_ | refine ⟨entC_pure _, ?_⟩ | refine ⟨rfl, ?_⟩ | refine ⟨_, rfl, ?_⟩); conv => whnf)
 refine ⟨_, _, h1, by first | rfl | simp [noRoIf, noRoL, noRoV, noRoL_bys], ?_⟩
 conv => whnf
 repeat ((first | refine ⟨entC_pure _, ?_⟩ | refine ⟨rfl, ?_⟩ | refine ⟨_, rfl, ?_⟩); conv => whnf)
 refine ⟨_, _, h2, by first | rfl | simp [noRoIf, noRoL, noRoV, noRoL_bys], ?_⟩
 conv => whnf
 refine Does.freeze 1 rfl (Does.freeze 2 (zs := bys y) (by show some (frzL 1 _ (bys y)) = _; rw [frzL_bys]) (Does.tidy [(5, roW x), (7, roW y)] [(0, prfC p)] 3 36 rfl rfl rfl (by kernel_rfl) (by kernel_rfl) ?_))
 rw [roW_eq, roW_eq]
 clear hc h1 h2
 refine wpc_sound (M := ME) (PL := PL0) (CU := noCut) TTok mixed _ _ _ ?_
 conv => whnf
 repeat ((refine ⟨rfl, ?_⟩); conv => whnf)
 refine ⟨_, _, list_ok 3, by first | rfl | simp [noRoIf, noRoL, noRoV, noRoL_bys], ?_⟩
 conv => whnf
 repeat ((refine ⟨rfl, ?_⟩); conv => whnf)
 refine ⟨_, _, num_ok 2, by first | rfl | simp [noRoIf, noRoL, noRoV, noRoL_bys], ?_⟩
 conv => whnf
 repeat ((first | refine ⟨pureL_bys _, ?_⟩ | refine ⟨rfl, ?_⟩); conv => whnf)
 refine ⟨_, _, cstr_ok x, by first | rfl | simp [noRoIf, noRoL, noRoV, noRoL_bys], ?_⟩
 conv => whnf
 repeat ((first | refine ⟨pureL_bys _, ?_⟩ | refine ⟨rfl, ?_⟩); conv => whnf)
 refine ⟨_, _, cstr_ok y, by first | rfl | simp [noRoIf, noRoL, noRoV, noRoL_bys], ?_⟩
 conv => whnf
 repeat ((first | (refine Or.inl ⟨⟨rfl, ?_⟩, ?_⟩; (focus (first | rfl | (simp; done) | (rw [toksC_length]; omega)))) | refine ⟨rfl, ?_⟩ | refine ⟨⟨rfl, rfl⟩, ?_⟩ | (refine And.intro ?_ ?_; (focus (first | (simp only [pureL, pureV, pureL_bys, Bool.and_true, Bool.and_self]; done) | (simp only [pureL, pureV, pureL_bys, pureL_toks, Bool.and_true, Bool.and_self]; done))))); conv => whnf)
 refine ⟨_, _, hb, by first | rfl | simp [noRoIf, noRoL, noRoV, noRoL_bys], ?_⟩
 conv => whnf
 repeat ((first | refine ⟨⟨rfl, rfl⟩, ?_⟩ | (refine ⟨⟨rfl, rfl, rfl, ?_, pureL_bys _⟩, ?_⟩; (focus (simp; done)))); conv => whnf)
 rfl
end
section
--KR
attribute [local irreducible] ifB fitP Does Weaker demsP
def rdP (r : Rw) : Prf × Int :=
 match rNext 3 r with
 | (x, r1) => match rNext 3 r1 with
  | (y, r2) => if (!r2.bad && decide (r2.l = [])) = true then (if (rdEnt x.b).2 ≠ 0 then (prf0, 3) else if (rdEnt y.b).2 ≠ 0 then (prf0, 3) else if prfR ⟨(rdEnt x.b).1, (rdEnt y.b).1⟩ = true then (⟨(rdEnt x.b).1, (rdEnt y.b).1⟩, 0) else (prf0, 3)) else (prf0, 3)
def rdPrf (b : List Int) : Prf × Int := rdP (rWant 3 2 (rOpen b))
set_option maxRecDepth 20000 in
set_option maxHeartbeats 2000000 in
theorem pread_ok (b : List Int) (hb : Byt b) (hl : b.length ≤ 1000000000) : ACall Tryd.prog 83 [.ro b.length (bys b)] (.tuple [.agg (prfC (rdPrf b).1), .int .i64 (rdPrf b).2]) [] := by
 have k0 := rOpen_rok hb hl
 have h0 := open_ok b hb (by omega)
 unfold rdPrf
 generalize rOpen b = r0 at k0 h0 ⊢
 have h1 := rwant_ok r0 3 2
 have k1 := rWant_rok k0 3 2
 generalize rWant 3 2 r0 = r1 at h1 k1 ⊢
 unfold rdP
 have h2 := rstr_ok r1
 have k2 := rNext_rok k1 3
 generalize rNext 3 r1 = q at h2 k2 ⊢
 obtain ⟨x, r2⟩ := q
 dsimp only at h2 k2 ⊢
 have h3 := rstr_ok r2
 have k3 := rNext_rok k2.1 3
 generalize rNext 3 r2 = q at h3 k3 ⊢
 obtain ⟨y, r3⟩ := q
 dsimp only at h3 k3 ⊢
 have h4 := rdone_ok r3
 generalize (!r3.bad && decide (r3.l = [])) = dn at h4 ⊢
 obtain ⟨_, _, x⟩ := x
 obtain ⟨_, _, y⟩ := y
 dsimp only at k2 k3 h2 h3 ⊢
 have h5 := eread_ok x k2.2.1.2.2 k2.2.2
 have e5 := (rdEnt_entS k2.2.1.2.2 k2.2.2).1
 generalize rdEnt x = q at h5 e5 ⊢
 obtain ⟨a, e⟩ := q
 have h6 := eread_ok y k3.2.1.2.2 k3.2.2
 have e6 := (rdEnt_entS k3.2.1.2.2 k3.2.2).1
 generalize rdEnt y = q at h6 e6 ⊢
 obtain ⟨c, f⟩ := q
 dsimp only at h5 e5 h6 e6 ⊢
 have h7 := check_proof_ok ⟨a, c⟩ ⟨e5, e6⟩
 refine ACall.of_does TTok Tryd.func83 rfl Tryd.call83 rfl (wpc_sound (M := ME) (PL := PL0) (CU := cutAt [100006, 100007, 100008, 100009, 100011]) TTok mixed _ _ _ ?_)
 conv => whnf
 repeat ((first | refine ⟨pureL_bys _, ?_⟩ | refine ⟨rfl, ?_⟩); conv => whnf)
 refine ⟨_, _, h0, by first | rfl | simp [noRoIf, noRoL, noRoV, noRoL_bys], ?_⟩
 conv => whnf
 repeat ((first | refine ⟨rfl, ?_⟩ | (refine And.intro ?_ ?_; (focus (first | (simp only [pureL, pureV, pureL_bys, Bool.and_true, Bool.and_self]; done) | (simp only [pureL, pureV, pureL_bys, pureL_toks, Bool.and_true, Bool.and_self]; done))))); conv => whnf)
 refine ⟨_, _, h1, by first | rfl | simp [noRoIf, noRoL, noRoV, noRoL_bys], ?_⟩
 conv => whnf
 repeat ((first | refine ⟨rfl, ?_⟩ | (refine And.intro ?_ ?_; (focus (first | (simp only [pureL, pureV, pureL_bys, Bool.and_true, Bool.and_self]; done) | (simp only [pureL, pureV, pureL_bys, pureL_toks, Bool.and_true, Bool.and_self]; done))))); conv => whnf)
 refine ⟨_, _, h2, by first | rfl | simp [noRoIf, noRoL, noRoV, noRoL_bys], ?_⟩
 conv => whnf
 repeat ((first | refine ⟨rfl, ?_⟩ | (refine And.intro ?_ ?_; (focus (first | (simp only [pureL, pureV, pureL_bys, Bool.and_true, Bool.and_self]; done) | (simp only [pureL, pureV, pureL_bys, pureL_toks, Bool.and_true, Bool.and_self]; done))))); conv => whnf)
 refine ⟨_, _, h3, by first | rfl | simp [noRoIf, noRoL, noRoV, noRoL_bys], ?_⟩
 conv => whnf
 repeat ((first | refine ⟨rfl, ?_⟩ | (refine And.intro ?_ ?_; (focus (first | (simp only [pureL, pureV, pureL_bys, Bool.and_true, Bool.and_self]; done) | (simp only [pureL, pureV, pureL_bys, pureL_toks, Bool.and_true, Bool.and_self]; done))))); conv => whnf)
 refine ⟨_, _, h4, by first | rfl | simp [noRoIf, noRoL, noRoV, noRoL_bys], ?_⟩
 conv => whnf
 cases dn
 ·conv => whnf
  repeat ((first | refine ifB_t ?_ | refine ⟨(⟨by kernel_rfl, by kernel_rfl, Nat.le_of_ble_eq_true (by kernel_rfl)⟩ : AV.ones _ = true ∧ _ ∧ _), ?_⟩ | refine ⟨_, rfl, ?_⟩); conv => whnf)
  refine prf0_int_dems (by kernel_rfl) ?_
  rfl
 simp only [if_true]
 conv => whnf
 repeat ((refine ifB_f ?_); conv => whnf)
 refine Does.tidy [(2, .ptr 0 0), (5, .ro x.length (bys x)), (6, .ro y.length (bys y))] [(0, zeroE ++ zeroE), (1, rowC r3)] 2 50 rfl rfl rfl (by kernel_rfl) (by kernel_rfl) ?_
 clear h0 h1 h2 h3 h4
 refine wpc_sound (M := ME) (PL := PL0) (CU := noCut) TTok mixed _ _ _ ?_
 conv => whnf
 repeat ((first | refine ⟨pureL_bys _, ?_⟩ | refine ⟨rfl, ?_⟩); conv => whnf)
 refine ⟨_, _, h5, by first | rfl | simp [noRoIf, noRoL, noRoV, noRoL_bys], ?_⟩
 conv => whnf
 repeat ((first | refine ⟨(⟨by kernel_rfl, by kernel_rfl, Nat.le_of_ble_eq_true (by kernel_rfl)⟩ : AV.ones _ = true ∧ _ ∧ _), ?_⟩ | refine ⟨rfl, ?_⟩); conv => whnf)
 refine Does.tidy [(2, .ptr 0 0), (6, .ro y.length (bys y)), (7, .ptr 2 0), (8, .int .i64 e)] [(0, zeroE ++ zeroE), (1, rowC r3), (2, entC a)] 3 50 rfl rfl rfl (by kernel_rfl) (by kernel_rfl) ?_
 clear h5
 refine wpc_sound (M := ME) (PL := PL0) (CU := noCut) TTok mixed _ _ _ ?_
 conv => whnf
 repeat ((first | refine ⟨pureL_bys _, ?_⟩ | refine ⟨rfl, ?_⟩); conv => whnf)
 refine ⟨_, _, h6, by first | rfl | simp [noRoIf, noRoL, noRoV, noRoL_bys], ?_⟩
 conv => whnf
 repeat ((first | refine ⟨(⟨by kernel_rfl, by kernel_rfl, Nat.le_of_ble_eq_true (by kernel_rfl)⟩ : AV.ones _ = true ∧ _ ∧ _), ?_⟩ | refine ⟨rfl, ?_⟩); conv => whnf)
 refine Does.tidy [(2, .ptr 0 0), (7, .ptr 2 0), (8, .int .i64 e), (9, .ptr 3 0), (10, .int .i64 f)] [(0, zeroE ++ zeroE), (1, rowC r3), (2, entC a), (3, entC c)] 4 50 rfl rfl rfl (by kernel_rfl) (by kernel_rfl) ?_
 clear h6
 refine wpc_sound (M := ME) (PL := PL0) (CU := noCut) TTok mixed _ _ _ ?_
 conv => whnf
 repeat ((first | refine ⟨(⟨by kernel_rfl, by kernel_rfl, Nat.le_of_ble_eq_true (by kernel_rfl)⟩ : AV.ones _ = true ∧ _ ∧ _), ?_⟩ | refine ⟨rfl, ?_⟩ | refine ⟨_, rfl, ?_⟩ | refine ⟨⟨rfl, rfl⟩, ?_⟩); conv => whnf)
 refine Does.tidy [(2, .ptr 0 0), (8, .int .i64 e), (10, .int .i64 f), (11, .ptr 4 0)] [(0, zeroE ++ zeroE), (1, rowC r3), (2, entC a), (3, entC c), (4, prfC ⟨a, c⟩)] 5 50 rfl rfl rfl (by kernel_rfl) (by kernel_rfl) ?_
 refine wpc_sound (M := ME) (PL := PL0) (CU := noCut) TTok mixed _ _ _ ?_
 by_cases c1 : e ≠ 0
 ·rw [if_pos c1]
  conv => whnf
  repeat ((first | refine ifB_t ?_ | (refine ifB_pos (decide_eq_true (by first | omega | rfl | (dsimp only; omega))) ?_) | refine ⟨(⟨by kernel_rfl, by kernel_rfl, Nat.le_of_ble_eq_true (by kernel_rfl)⟩ : AV.ones _ = true ∧ _ ∧ _), ?_⟩ | refine ⟨_, rfl, ?_⟩); conv => whnf)
  refine prf0_int_dems (by kernel_rfl) ?_
  rfl
 rw [if_neg c1]
 by_cases c2 : f ≠ 0
 ·rw [if_pos c2]
  conv => whnf
  repeat ((first | refine ifB_t ?_ | refine ifB_f ?_ | (refine ifB_neg (decide_eq_false (by first | omega | rfl | (dsimp only; omega))) ?_) | (refine ifB_pos (decide_eq_true (by first | omega | rfl | (dsimp only; omega))) ?_) | refine ⟨(⟨by kernel_rfl, by kernel_rfl, Nat.le_of_ble_eq_true (by kernel_rfl)⟩ : AV.ones _ = true ∧ _ ∧ _), ?_⟩ | refine ⟨_, rfl, ?_⟩); conv => whnf)
  refine prf0_int_dems (by kernel_rfl) ?_
  rfl
 rw [if_neg c2]
 generalize (⟨a, c⟩ : Prf) = p at h7 ⊢
 conv => whnf
 repeat ((first | refine ifB_f ?_ | (refine ifB_neg (decide_eq_false (by first | omega | rfl | (dsimp only; omega))) ?_) | refine ⟨rfl, ?_⟩ | refine ⟨_, rfl, ?_⟩ | (refine And.intro ?_ ?_; (focus (first | (simp only [pureL, pureV, pureL_bys, Bool.and_true, Bool.and_self]; done) | (simp only [pureL, pureV, pureL_bys, pureL_toks, Bool.and_true, Bool.and_self]; done))))); conv => whnf)
 cases c3 : prfR p <;> rw [c3] at h7
 ·refine ⟨_, _, h7, by first | rfl | simp [noRoIf, noRoL, noRoV, noRoL_bys], ?_⟩
  conv => whnf
  repeat ((first | refine ifB_t ?_ | refine ifB_f ?_ | refine ⟨(⟨by kernel_rfl, by kernel_rfl, Nat.le_of_ble_eq_true (by kernel_rfl)⟩ : AV.ones _ = true ∧ _ ∧ _), ?_⟩ | refine ⟨_, rfl, ?_⟩); conv => whnf)
  refine prf0_int_dems (by kernel_rfl) ?_
  rfl
 ·refine ⟨_, _, h7, by first | rfl | simp [noRoIf, noRoL, noRoV, noRoL_bys], ?_⟩
  conv => whnf
  repeat ((refine ifB_f ?_); conv => whnf)
  refine Does.tidy [(2, .ptr 0 0), (11, .ptr 4 0)] [(0, zeroE ++ zeroE), (1, rowC r3), (2, entC a), (3, entC c), (4, prfC p)] 5 50 rfl rfl rfl (by kernel_rfl) (by kernel_rfl) ?_
  refine wpc_sound (M := ME) (PL := PL0) (CU := noCut) TTok mixed _ _ _ ?_
  conv => whnf
  refine ⟨prfC p, by kernel_rfl, ?_⟩
  conv => whnf
  refine ⟨(⟨by kernel_rfl, by kernel_rfl, Nat.le_of_ble_eq_true (by kernel_rfl)⟩ : AV.ones _ = true ∧ _ ∧ _), ?_⟩
  conv => whnf
  refine ⟨prfC p, by kernel_rfl, ?_⟩
  conv => whnf
  refine prf_int_dems (by kernel_rfl) ?_
  rfl
end
section
--KR
section rows
variable {α : Type}
def rowsC (f : α → List AV) : List α → List AV
 | [] => []
 | x :: r => f x ++ rowsC f r
theorem rowsC_length {f : α → List AV} {n : Nat} (hf : ∀ x, (f x).length = n) : ∀ l : List α, (rowsC f l).length = n * l.length
 | [] => rfl
 | e :: r => by simp only [rowsC, List.length_append, hf, rowsC_length hf r, List.length_cons, Nat.mul_add]; omega
theorem rowsC_pure {f : α → List AV} (hf : ∀ x, pureL (f x) = true) : ∀ l : List α, pureL (rowsC f l) = true
 | [] => rfl
 | e :: r => by simp only [rowsC, pureL_app, hf, rowsC_pure hf r, Bool.and_self]
theorem rowsC_ones {f : α → List AV} (hf : ∀ x, (f x).all AV.one = true) : ∀ l : List α, (rowsC f l).all AV.one = true
 | [] => rfl
 | e :: r => by simp only [rowsC, List.all_append, hf, rowsC_ones hf r, Bool.and_self]
theorem rowsC_frz {f : α → List AV} {i : Nat} {zs : List AV} (hf : ∀ x, frzL i zs (f x) = f x) : ∀ l : List α, frzL i zs (rowsC f l) = rowsC f l
 | [] => rfl
 | e :: r => by simp only [rowsC, frzL_app, hf, rowsC_frz hf r]
theorem rowsC_append {f : α → List AV} : ∀ a b : List α, rowsC f (a ++ b) = rowsC f a ++ rowsC f b
 | [], b => rfl
 | e :: a, b => by simp only [List.cons_append, rowsC, rowsC_append a b, List.append_assoc]
theorem rowsC_drop {f : α → List AV} {n : Nat} (hf : ∀ x, (f x).length = n) : ∀ (l : List α) (j : Nat), (rowsC f l).drop (n * j) = rowsC f (l.drop j)
 | [], j => by simp [rowsC]
 | e :: r, 0 => by simp [rowsC]
 | e :: r, j + 1 => by
  simp only [rowsC, List.drop_succ_cons, ← rowsC_drop hf r j]
  rw [show n * (j + 1) = (f e).length + n * j by rw [hf, Nat.mul_add]; omega, List.drop_append]
  simp
theorem rowsC_take {f : α → List AV} {n : Nat} (hf : ∀ x, (f x).length = n) : ∀ (l : List α) (j : Nat), (rowsC f l).take (n * j) = rowsC f (l.take j)
 | [], j => by simp [rowsC]
 | e :: r, 0 => by simp [rowsC]
 | e :: r, j + 1 => by
  simp only [rowsC, List.take_succ_cons, ← rowsC_take hf r j]
  rw [show n * (j + 1) = (f e).length + n * j by rw [hf, Nat.mul_add]; omega, List.take_append, List.take_of_length_le (by omega)]
  simp
theorem rowsC_at {f : α → List AV} {n : Nat} (hf : ∀ x, (f x).length = n) {l : List α} {j m : Nat} (h : j < l.length) (hm : m = n * j) : (rowsC f l).drop m = f l[j] ++ rowsC f (l.drop (j + 1)) := by
 subst hm
 rw [rowsC_drop hf, List.drop_eq_getElem_cons h]
 rfl
theorem takeN_row {f : α → List AV} {n : Nat} (hf : ∀ x, (f x).length = n) {l : List α} {j m s : Nat} (h : j < l.length) (hm : m = n * j) (hs : s = n) : takeN s ((rowsC f l).drop m) = some (f l[j]) := by
 rw [rowsC_at hf h hm]; exact takeN_app (by rw [hs, hf])
theorem rowsC_les {f : α → List AV} {o : Nat → Option Nat} (hf : ∀ x, lesP o (f x) (f x)) {xs : List AV} : ∀ {l : List α}, xs = rowsC f l → lesP o (rowsC f l) xs
 | [], h => by subst h; trivial
 | e :: r, h => by subst h; exact lesP_app'' (hf e) (rowsC_les hf rfl)
theorem rowsC_whole {f : α → List AV} {n : Nat} (hf : ∀ x, (f x).length = n) (l : List α) : (List.drop 0 (rowsC f l)).take (l.length * n) = rowsC f l := by
 rw [List.drop_zero]; exact List.take_of_length_le (by rw [rowsC_length hf, Nat.mul_comm]; exact Nat.le_refl _)
end rows
theorem prfC_length (p : Prf) : (prfC p).length = 266 := by simp [prfC, entC_length]
theorem prfC_pure (p : Prf) : pureL (prfC p) = true := by simp [prfC, pureL_app, entC_pure]
theorem prfC_one (p : Prf) : (prfC p).all AV.one = true := by simp only [prfC, List.all_append, entC_one, Bool.and_self]
theorem prfC_frz (i : Nat) (zs : List AV) (p : Prf) : frzL i zs (prfC p) = prfC p := by simp [prfC, frzL_app, entC_frz]
theorem prfC_les {o : Nat → Option Nat} (p : Prf) : lesP o (prfC p) (prfC p) := lesP_app'' (lesP_ent p.a rfl) (lesP_ent p.b rfl)
theorem entC_les {o : Nat → Option Nat} (e : Ent) : lesP o (entC e) (entC e) := lesP_ent e rfl
structure Hd where
 au : List Int
 len : Int
 id : List Int
 shut : Bool
 deriving DecidableEq
def hdC (h : Hd) : List AV := c32 h.au (.int .i64 h.len :: c32 h.id [.bool h.shut])
structure HdS (h : Hd) : Prop where
 au : Byt h.au ∧ h.au.length = 32
 len : -9223372036854775808 ≤ h.len ∧ h.len < 9223372036854775808
 id : Byt h.id ∧ h.id.length = 32
theorem hdC_length (h : Hd) : (hdC h).length = 66 := by simp [hdC, c32_len]
theorem hdC_pure (h : Hd) : pureL (hdC h) = true := by simp [hdC, c32_pure, pureL, pureV]
theorem hdC_one (h : Hd) : (hdC h).all AV.one = true := by simp [hdC, c32_one, AV.one]
theorem hdC_les {o : Nat → Option Nat} (h : Hd) : lesP o (hdC h) (hdC h) := by
 unfold hdC
 exact c32_les ⟨⟨rfl, rfl⟩, c32_les ⟨rfl, trivial⟩⟩
structure Msg where
 kind : Int
 frm : Int
 to : Int
 hs : List Hd
 ps : List Prf
 es : List Ent
 deriving DecidableEq
def msgC (m : Msg) : List AV := [.int .i64 m.kind, .int .i64 m.frm, .int .i64 m.to, .ro m.hs.length (rowsC hdC m.hs), .ro m.ps.length (rowsC prfC m.ps), .ro m.es.length (rowsC entC m.es)]
structure MsgS (m : Msg) : Prop where
 kind : -9223372036854775808 ≤ m.kind ∧ m.kind < 9223372036854775808
 frm : -9223372036854775808 ≤ m.frm ∧ m.frm < 9223372036854775808
 to : -9223372036854775808 ≤ m.to ∧ m.to < 9223372036854775808
 hs : ∀ h ∈ m.hs, HdS h
 ps : ∀ p ∈ m.ps, PrfS p
 es : ∀ e ∈ m.es, EntS e
 hl : m.hs.length ≤ 1000000000
 pl : m.ps.length ≤ 1000000000
 el : m.es.length ≤ 1000000000
theorem hds_len (l : List Hd) : (rowsC hdC l).length = 66 * l.length := rowsC_length hdC_length l
theorem prfs_len (l : List Prf) : (rowsC prfC l).length = 266 * l.length := rowsC_length prfC_length l
theorem ents_len (l : List Ent) : (rowsC entC l).length = 133 * l.length := rowsC_length entC_length l
theorem hds_pure (l : List Hd) : pureL (rowsC hdC l) = true := rowsC_pure hdC_pure l
theorem prfs_pure (l : List Prf) : pureL (rowsC prfC l) = true := rowsC_pure prfC_pure l
theorem ents_pure (l : List Ent) : pureL (rowsC entC l) = true := rowsC_pure entC_pure l
theorem msgC_pure (m : Msg) : pureL (msgC m) = true := by simp [msgC, pureL, pureV, hds_pure, prfs_pure, ents_pure]
end
section
--KR
attribute [local irreducible] ifB fitP Does Weaker
def MW : FuncId → List Mode := orElse [(55, [.rd]), (45, [.rd]), (26, [.rd]), (23, [.rd]), (25, [.rd]), (52, [rowM]), (53, [rowM]),
 (56, [.rd, .rd]), (59, [.rd, .rd]), (87, [.rd, .rd]),
 (89, [.rd, .rd]), (57, [.rd]), (60, [.rd])] ME
set_option maxRecDepth 20000 in
theorem wtest1_ok (p : Prf) (hp : PrfS p) : ACall Tryd.prog 57 [.agg (prfC p)] (.bool (!prfR p)) [] := by
 have h := check_proof_ok p hp
 refine ACall.of_does TTok Tryd.func57 rfl Tryd.call57 rfl (wpc_sound (M := MW) (PL := PL0) (CU := noCut) TTok mixed _ _ _ ?_)
 cases c : prfR p <;> rw [c] at h
 all_goals
  conv => whnf
  refine ⟨prfC_one p, ?_⟩
  conv => whnf
  refine ⟨prfC p, by kernel_rfl, ?_⟩
  conv => whnf
  refine ⟨prfC_pure p, rfl, ?_⟩
  conv => whnf
  refine ⟨_, _, h, by first | rfl | simp [noRoIf, noRoL, noRoV, noRoL_bys], ?_⟩
  conv => whnf
  repeat ((refine ⟨rfl, ?_⟩); conv => whnf)
  rfl
theorem wtest2_ok (p : Ent) (hp : EntS p) : ACall Tryd.prog 60 [.agg (entC p)] (.bool (!entR p)) [] := by
 have h := check_entry_ok p hp
 refine ACall.of_does TTok Tryd.func60 rfl Tryd.call60 rfl (wpc_sound (M := MW) (PL := PL0) (CU := noCut) TTok mixed _ _ _ ?_)
 cases c : entR p <;> rw [c] at h
 all_goals
  conv => whnf
  refine ⟨entC_one p, ?_⟩
  conv => whnf
  refine ⟨entC p, by kernel_rfl, ?_⟩
  conv => whnf
  refine ⟨entC_pure p, rfl, ?_⟩
  conv => whnf
  refine ⟨_, _, h, by first | rfl | simp [noRoIf, noRoL, noRoV, noRoL_bys], ?_⟩
  conv => whnf
  repeat ((refine ⟨rfl, ?_⟩); conv => whnf)
  rfl
def firstI {α : Type} (t : α → Bool) : Nat → List α → Int
 | _, [] => -1
 | c, x :: r => if t x then (c : Int) else firstI t (c + 1) r
theorem firstI_lt {α : Type} (t : α → Bool) : ∀ (c : Nat) (l : List α), decide (0 ≤ firstI t c l) = l.any t
 | c, [] => rfl
 | c, x :: r => by
  unfold firstI
  cases h : t x
  ·simp [h, firstI_lt t (c + 1) r]
  ·simp [h]
theorem firstI_at {α : Type} {t : α → Bool} {l : List α} {c : Nat} (h : c < l.length) : firstI t c (l.drop c) = if t l[c] then (c : Int) else firstI t (c + 1) (l.drop (c + 1)) := by
 rw [List.drop_eq_getElem_cons h]; rfl
theorem index1_ok (l : List Prf) (hl : ∀ p ∈ l, PrfS p) (hn : l.length ≤ 1000000000) : ACall Tryd.prog 87 [.ro l.length (rowsC prfC l), .fn (.func 57) []] (.int .i64 (firstI (fun p => !prfR p) 0 l)) [] := by
 refine ACall.of_does TTok Tryd.func87 rfl Tryd.call87 rfl (wpc_sound (M := MW) (PL := PL0) (CU := noCut) TTok mixed _ _ _ ?_)
 conv => whnf
 refine Does.loop (fun c : Nat => mkSt [(0, .ro l.length (rowsC prfC l)), (1, .fn (.func 57) []), (7, .int .i64 l.length), (8, .int .i64 c)] [] 0 19)
  (fun c => c ≤ l.length ∧ firstI (fun p => !prfR p) c (l.drop c) = firstI (fun p => !prfR p) 0 l) (fun c => l.length - c) ?_ 0 ⟨Nat.zero_le _, by rw [List.drop_zero]⟩ ?_
 ·rintro c ⟨hc, hx⟩
  rcases Nat.lt_or_ge c l.length with c1 | c1
  ·have ht := wtest1_ok l[c] (hl _ (List.getElem_mem c1))
   rw [firstI_at c1] at hx
   refine wpc_sound (M := MW) (PL := PL0) (CU := noCut) TTok mixed _ _ _ ?_
   conv => whnf
   repeat ((first | (refine ifB_pos (decide_eq_true (by first | omega | rfl | (dsimp only; omega))) ?_) | (refine ⟨⟨?_, ?_, ?_⟩, ?_⟩; (focus omega); (focus (first | omega | (simp; done) | (simp; omega))); (focus (first | (rw [prfs_len]; simp; omega) | (rw [ents_len]; simp; omega) | (rw [hds_len]; simp; omega) | (rw [lets_len]; simp; omega))))); conv => whnf)
   refine ⟨_, takeN_row prfC_length c1 (by simp; omega) rfl, ?_⟩
   conv => whnf
   refine ⟨prfC_pure _, ?_⟩
   conv => whnf
   repeat ((refine ⟨rfl, ?_⟩); conv => whnf)
   refine ⟨_, _, ht, by first | rfl | simp [noRoIf, noRoL, noRoV, noRoL_bys], ?_⟩
   conv => whnf
   cases h : prfR l[c]
   ·rw [h] at hx
    conv => whnf
    repeat ((refine ifB_t ?_); conv => whnf)
    exact ⟨⟨rfl, by rw [← hx]; rfl⟩, rfl⟩
   ·rw [h] at hx
    conv => whnf
    repeat ((first | refine ifB_f ?_ | (refine fit_i64 ⟨by first | omega | rfl | (dsimp only; omega), by first | omega | rfl | (dsimp only; omega)⟩ ?_)); conv => whnf)
    exact ⟨c + 1, ⟨by omega, by rw [← hx]; rfl⟩, by omega, weaker_of [] rfl rfl ⟨⟨rfl, rfl, prfs_pure _⟩, ⟨rfl, rfl, rfl⟩, ⟨rfl, rfl⟩, ⟨rfl, by simp⟩, trivial⟩ trivial⟩
  ·obtain rfl : c = l.length := by omega
   rw [List.drop_length] at hx
   refine wpc_sound (M := MW) (PL := PL0) (CU := noCut) TTok mixed _ _ _ ?_
   conv => whnf
   repeat ((refine ifB_neg (decide_eq_false (by first | omega | rfl | (dsimp only; omega))) ?_); conv => whnf)
   exact ⟨⟨rfl, by rw [← hx]; rfl⟩, rfl⟩
 ·exact weaker_of [] rfl rfl ⟨⟨rfl, rfl, prfs_pure _⟩, ⟨rfl, rfl, rfl⟩, ⟨rfl, rfl⟩, ⟨rfl, rfl⟩, trivial⟩ trivial
theorem contains1_ok (l : List Prf) (hl : ∀ p ∈ l, PrfS p) (hn : l.length ≤ 1000000000) : ACall Tryd.prog 56 [.ro l.length (rowsC prfC l), .fn (.func 57) []] (.bool (l.any fun p => !prfR p)) [] := by
 have h := index1_ok l hl hn
 rw [← firstI_lt _ 0 l]
 refine ACall.of_does TTok Tryd.func56 rfl Tryd.call56 rfl (wpc_sound (M := MW) (PL := PL0) (CU := noCut) TTok mixed _ _ _ ?_)
 conv => whnf
 repeat ((first | refine ⟨rfl, ?_⟩ | refine ⟨(show pureL (rowsC _ _) = true from by first | exact prfs_pure _ | exact ents_pure _ | exact hds_pure _ | exact lets_pure _), ?_⟩); conv => whnf)
 refine ⟨_, _, h, by first | rfl | simp [noRoIf, noRoL, noRoV, noRoL_bys], ?_⟩
 conv => whnf
 repeat ((refine ⟨rfl, ?_⟩); conv => whnf)
 rfl
theorem index2_ok (l : List Ent) (hl : ∀ p ∈ l, EntS p) (hn : l.length ≤ 1000000000) : ACall Tryd.prog 89 [.ro l.length (rowsC entC l), .fn (.func 60) []] (.int .i64 (firstI (fun p => !entR p) 0 l)) [] := by
 refine ACall.of_does TTok Tryd.func89 rfl Tryd.call89 rfl (wpc_sound (M := MW) (PL := PL0) (CU := noCut) TTok mixed _ _ _ ?_)
 conv => whnf
 refine Does.loop (fun c : Nat => mkSt [(0, .ro l.length (rowsC entC l)), (1, .fn (.func 60) []), (7, .int .i64 l.length), (8, .int .i64 c)] [] 0 19)
  (fun c => c ≤ l.length ∧ firstI (fun p => !entR p) c (l.drop c) = firstI (fun p => !entR p) 0 l) (fun c => l.length - c) ?_ 0 ⟨Nat.zero_le _, by rw [List.drop_zero]⟩ ?_
 ·rintro c ⟨hc, hx⟩
  rcases Nat.lt_or_ge c l.length with c1 | c1
  ·have ht := wtest2_ok l[c] (hl _ (List.getElem_mem c1))
   rw [firstI_at c1] at hx
   refine wpc_sound (M := MW) (PL := PL0) (CU := noCut) TTok mixed _ _ _ ?_
   conv => whnf
   repeat ((first | (refine ifB_pos (decide_eq_true (by first | omega | rfl | (dsimp only; omega))) ?_) | (refine ⟨⟨?_, ?_, ?_⟩, ?_⟩; (focus omega); (focus (first | omega | (simp; done) | (simp; omega))); (focus (first | (rw [prfs_len]; simp; omega) | (rw [ents_len]; simp; omega) | (rw [hds_len]; simp; omega) | (rw [lets_len]; simp; omega))))); conv => whnf)
   refine ⟨_, takeN_row entC_length c1 (by simp; omega) rfl, ?_⟩
   conv => whnf
   refine ⟨entC_pure _, ?_⟩
   conv => whnf
   repeat ((refine ⟨rfl, ?_⟩); conv => whnf)
   refine ⟨_, _, ht, by first | rfl | simp [noRoIf, noRoL, noRoV, noRoL_bys], ?_⟩
   conv => whnf
   cases h : entR l[c]
   ·rw [h] at hx
    conv => whnf
    repeat ((refine ifB_t ?_); conv => whnf)
    exact ⟨⟨rfl, by rw [← hx]; rfl⟩, rfl⟩
   ·rw [h] at hx
    conv => whnf
    repeat ((first | refine ifB_f ?_ | (refine fit_i64 ⟨by first | omega | rfl | (dsimp only; omega), by first | omega | rfl | (dsimp only; omega)⟩ ?_)); conv => whnf)
    exact ⟨c + 1, ⟨by omega, by rw [← hx]; rfl⟩, by omega, weaker_of [] rfl rfl ⟨⟨rfl, rfl, ents_pure _⟩, ⟨rfl, rfl, rfl⟩, ⟨rfl, rfl⟩, ⟨rfl, by simp⟩, trivial⟩ trivial⟩
  ·obtain rfl : c = l.length := by omega
   rw [List.drop_length] at hx
   refine wpc_sound (M := MW) (PL := PL0) (CU := noCut) TTok mixed _ _ _ ?_
   conv => whnf
   repeat ((refine ifB_neg (decide_eq_false (by first | omega | rfl | (dsimp only; omega))) ?_); conv => whnf)
   exact ⟨⟨rfl, by rw [← hx]; rfl⟩, rfl⟩
 ·exact weaker_of [] rfl rfl ⟨⟨rfl, rfl, ents_pure _⟩, ⟨rfl, rfl, rfl⟩, ⟨rfl, rfl⟩, ⟨rfl, rfl⟩, trivial⟩ trivial
theorem contains2_ok (l : List Ent) (hl : ∀ p ∈ l, EntS p) (hn : l.length ≤ 1000000000) : ACall Tryd.prog 59 [.ro l.length (rowsC entC l), .fn (.func 60) []] (.bool (l.any fun p => !entR p)) [] := by
 have h := index2_ok l hl hn
 rw [← firstI_lt _ 0 l]
 refine ACall.of_does TTok Tryd.func59 rfl Tryd.call59 rfl (wpc_sound (M := MW) (PL := PL0) (CU := noCut) TTok mixed _ _ _ ?_)
 conv => whnf
 repeat ((first | refine ⟨rfl, ?_⟩ | refine ⟨(show pureL (rowsC _ _) = true from by first | exact prfs_pure _ | exact ents_pure _ | exact hds_pure _ | exact lets_pure _), ?_⟩); conv => whnf)
 refine ⟨_, _, h, by first | rfl | simp [noRoIf, noRoL, noRoV, noRoL_bys], ?_⟩
 conv => whnf
 repeat ((refine ⟨rfl, ?_⟩); conv => whnf)
 rfl
def hdR (h : Hd) : Bool := decide (0 ≤ h.len) && decide (h.len ≤ 200) && (!h.shut || decide (h.len ≤ 0)) && (decide (h.len ≠ 0) || decide (h.id = z32))
def hd0 : Hd := ⟨z32, 0, z32, false⟩
def hdAt (l : List Hd) (i : Nat) : Bool := (decide (i = 0) || bytesLt (l.getD (i - 1) hd0).au (l.getD i hd0).au) && hdR (l.getD i hd0)
def headsR (l : List Hd) : Bool := decide (l.length ≤ 8) && (List.range l.length).all (hdAt l)
theorem headsR_no {l : List Hd} {c : Nat} (hc : c < l.length) (h : hdAt l c = false) : headsR l = false := by
 unfold headsR
 rw [Bool.and_eq_false_iff]
 right
 rw [Bool.eq_false_iff]
 intro hh
 rw [List.all_eq_true] at hh
 have := hh c (by simpa using hc)
 rw [h] at this
 cases this
theorem range_snoc {l : List Hd} {c : Nat} (h : (List.range c).all (hdAt l) = true) (k : hdAt l c = true) : (List.range (c + 1)).all (hdAt l) = true := by
 rw [List.range_succ, List.all_append, h]; simp [k]
theorem bit_ok (b : Bool) : ACall Tryd.prog 45 [.bool b] (.int .i64 (if b then 1 else 0)) [] := by
 refine ACall.of_does TTok Tryd.func45 rfl Tryd.call45 rfl (wpc_sound (M := MW) (PL := PL0) (CU := noCut) TTok mixed _ _ _ ?_)
 cases b
 all_goals
  conv => whnf
  repeat ((first | refine ifB_t ?_ | refine ifB_f ?_ | refine ⟨⟨rfl, rfl⟩, ?_⟩); conv => whnf)
  rfl
theorem hd_au {l : List Hd} {j m s : Nat} (h : j < l.length) (hm : m = 66 * j) (hs : s = 32) : takeN s (List.drop 0 (List.drop m (rowsC hdC l))) = some (c32 l[j].au []) := by
 rw [List.drop_zero, rowsC_at hdC_length h hm, hs]
 rfl
theorem c32_take {l : List Int} (h : l.length = 32) (r : List AV) : (c32 l r).take 32 = bys l := by
 rw [c32_eq h, List.take_append_of_le_length (by simp [h]), List.take_of_length_le (by simp [h])]
theorem cut_hd {l : List Hd} {j m : Nat} (h : j < l.length) (hm : m = 66 * j) (hw : l[j].au.length = 32) : cutB (List.take (32 * 1) (List.drop 0 (List.drop m (rowsC hdC l)))) none none 1 = bys l[j].au := by
 rw [List.drop_zero, rowsC_at hdC_length h hm]
 exact cut32 hw _
theorem cmp_lt0 {a b : List Int} : decide (0 ≤ cmpI a b) = !bytesLt a b := cmp_ge
def PLheads : Nat → Bool × Plan := plans [(6, (false, (takesTo [0, 1, 2, 3, 4, 5, 6, 7, 8, 9, 10] (.all [(11, (takes [12, 13, 14]))]))))]
theorem heads_ok (l : List Hd) (hl : ∀ h ∈ l, HdS h) (hn : l.length ≤ 1000000000) : ACall Tryd.prog 55 [.ro l.length (rowsC hdC l)] (.bool (headsR l)) [] := by
 refine ACall.of_does TTok Tryd.func55 rfl Tryd.call55 rfl (wpc_sound (M := MW) (PL := PLheads) (CU := noCut) TTok mixed _ _ _ ?_)
 conv => whnf
 refine ifB_dec (fun c0 => ?_) (fun c0 => ?_)
 ·have : headsR l = false := by unfold headsR; rw [df (show ¬ l.length ≤ 8 by omega)]; rfl
  rw [this]
  conv => whnf
  repeat ((refine ⟨rfl, ?_⟩); conv => whnf)
  rfl
 conv => whnf
 refine Does.loop (fun c : Nat => mkSt [(0, .ro l.length (rowsC hdC l)), (8, .ro l.length (rowsC hdC l)), (9, .int .i64 l.length), (10, .int .i64 c)] [] 0 59)
  (fun c => c ≤ l.length ∧ (List.range c).all (hdAt l) = true) (fun c => l.length - c) ?_ 0 ⟨Nat.zero_le _, rfl⟩ ?_
 ·rintro c ⟨hc, hx⟩
  rcases Nat.lt_or_ge c l.length with c1 | c1
  ·have hh := hl _ (List.getElem_mem c1)
   have e : hdAt l c = ((decide (c = 0) || bytesLt (l.getD (c - 1) hd0).au l[c].au) && hdR l[c]) := by
    unfold hdAt; rw [List.getD_eq_getElem?_getD (i := c), List.getElem?_eq_getElem c1]; rfl
   refine wpc_sound (M := MW) (PL := PLheads) (CU := cutAt [100006, 100008]) TTok mixed _ _ _ ?_
   conv => whnf
   repeat ((first | (refine ifB_pos (decide_eq_true (by first | omega | rfl | (dsimp only; omega))) ?_) | (refine ⟨⟨?_, ?_, ?_⟩, ?_⟩; (focus omega); (focus (first | omega | (simp; done) | (simp; omega))); (focus (first | (rw [prfs_len]; simp; omega) | (rw [ents_len]; simp; omega) | (rw [hds_len]; simp; omega) | (rw [lets_len]; simp; omega))))); conv => whnf)
   refine ⟨_, takeN_row hdC_length c1 (by simp; omega) rfl, ?_⟩
   conv => whnf
   repeat ((first | refine ⟨(⟨by kernel_rfl, by kernel_rfl, Nat.le_of_ble_eq_true (by kernel_rfl)⟩ : AV.ones _ = true ∧ _ ∧ _), ?_⟩ | refine ⟨rfl, ?_⟩); conv => whnf)
   refine Does.tidy [(0, .ro l.length (rowsC hdC l)), (3, .int .i64 c), (4, .ptr 0 0), (8, .ro l.length (rowsC hdC l)), (9, .int .i64 l.length), (10, .int .i64 c)] [(0, hdC l[c])] 1 59 rfl rfl rfl (by kernel_rfl) (by kernel_rfl) ?_
   generalize hq : l[c] = q at hh e ⊢
   refine wpc_sound (M := MW) (PL := PLheads) (CU := noCut) TTok mixed _ _ _ ?_
   conv => whnf
   refine ⟨by kernel_rfl, ?_⟩
   conv => whnf
   rcases Nat.eq_zero_or_pos c with c2 | c2
   ·rw [dt c2, Bool.true_or, Bool.true_and] at e
    refine ifB_neg (df (by omega)) ?_
    conv => whnf
    repeat ((refine ifB_f ?_); conv => whnf)
    refine Does.tidy [(0, .ro l.length (rowsC hdC l)), (4, .ptr 0 0), (8, .ro l.length (rowsC hdC l)), (9, .int .i64 l.length), (10, .int .i64 c)] [(0, hdC q)] 1 59 rfl rfl rfl (by kernel_rfl) (by kernel_rfl) ?_
    refine wpc_sound (M := MW) (PL := PLheads) (CU := noCut) TTok mixed _ _ _ ?_
    unfold hdR at e
    by_cases c3 : 0 ≤ q.len
    ·rw [dt c3] at e
     by_cases c4 : q.len ≤ 200
     ·rw [dt c4] at e
      cases c5 : q.shut
      ·rw [c5] at e
       by_cases c6 : q.len ≠ 0
       ·rw [dt c6] at e
        conv => whnf
        repeat ((first | refine ifB_f ?_ | (refine ifB_neg (decide_eq_false (by first | omega | rfl | (dsimp only; omega))) ?_) | refine ⟨_, rfl, ?_⟩); conv => whnf)
        refine ifB_neg c5 ?_
        conv => whnf
        repeat ((first | refine ifB_f ?_ | (refine ifB_neg (decide_eq_false (by first | omega | rfl | (dsimp only; omega))) ?_) | (refine fit_i64 ⟨by first | omega | rfl | (dsimp only; omega), by first | omega | rfl | (dsimp only; omega)⟩ ?_) | refine ⟨_, rfl, ?_⟩); conv => whnf)
        exact ⟨c + 1, ⟨by omega, range_snoc hx e⟩, by omega, weaker_of [] rfl rfl ⟨⟨rfl, rfl, hds_pure _⟩, ⟨rfl, rfl, hds_pure _⟩, ⟨rfl, rfl⟩, ⟨rfl, by simp⟩, trivial⟩ trivial⟩
       ·rw [df c6] at e
        by_cases c7 : q.id = z32
        ·rw [dt c7] at e
         conv => whnf
         repeat ((first | refine ifB_f ?_ | (refine ifB_neg (decide_eq_false (by first | omega | rfl | (dsimp only; omega))) ?_) | refine ⟨_, rfl, ?_⟩); conv => whnf)
         refine ifB_neg c5 ?_
         conv => whnf
         repeat ((first | refine ifB_t ?_ | refine ifB_f ?_ | (refine ifB_pos (decide_eq_true (by first | omega | rfl | (dsimp only; omega))) ?_) | refine ⟨_, rfl, ?_⟩); conv => whnf)
         refine ⟨q.id, z32, ⟨rfl, c32_map hh.id.2, rfl, hh.id.2, rfl⟩, ?_⟩
         conv => whnf
         repeat ((refine ifB_t ?_); conv => whnf)
         rw [dt c7]
         conv => whnf
         repeat ((first | refine ifB_f ?_ | (refine fit_i64 ⟨by first | omega | rfl | (dsimp only; omega), by first | omega | rfl | (dsimp only; omega)⟩ ?_)); conv => whnf)
         exact ⟨c + 1, ⟨by omega, range_snoc hx e⟩, by omega, weaker_of [] rfl rfl ⟨⟨rfl, rfl, hds_pure _⟩, ⟨rfl, rfl, hds_pure _⟩, ⟨rfl, rfl⟩, ⟨rfl, by simp⟩, trivial⟩ trivial⟩
        ·rw [df c7] at e
         rw [headsR_no c1 e]
         conv => whnf
         repeat ((first | refine ifB_f ?_ | (refine ifB_neg (decide_eq_false (by first | omega | rfl | (dsimp only; omega))) ?_) | refine ⟨_, rfl, ?_⟩); conv => whnf)
         refine ifB_neg c5 ?_
         conv => whnf
         repeat ((first | refine ifB_t ?_ | refine ifB_f ?_ | (refine ifB_pos (decide_eq_true (by first | omega | rfl | (dsimp only; omega))) ?_) | refine ⟨_, rfl, ?_⟩); conv => whnf)
         refine ⟨q.id, z32, ⟨rfl, c32_map hh.id.2, rfl, hh.id.2, rfl⟩, ?_⟩
         conv => whnf
         repeat ((refine ifB_t ?_); conv => whnf)
         rw [df c7]
         conv => whnf
         repeat ((first | refine ifB_t ?_ | refine ⟨rfl, ?_⟩); conv => whnf)
         rfl
      ·rw [c5] at e
       by_cases c6 : q.len ≤ 0
       ·rw [dt c6, df (show ¬ q.len ≠ 0 by omega)] at e
        by_cases c7 : q.id = z32
        ·rw [dt c7] at e
         conv => whnf
         repeat ((first | refine ifB_f ?_ | (refine ifB_neg (decide_eq_false (by first | omega | rfl | (dsimp only; omega))) ?_) | refine ⟨_, rfl, ?_⟩); conv => whnf)
         refine ifB_pos c5 ?_
         conv => whnf
         repeat ((first | refine ifB_t ?_ | refine ifB_f ?_ | (refine ifB_neg (decide_eq_false (by first | omega | rfl | (dsimp only; omega))) ?_) | (refine ifB_pos (decide_eq_true (by first | omega | rfl | (dsimp only; omega))) ?_) | refine ⟨_, rfl, ?_⟩); conv => whnf)
         refine ⟨q.id, z32, ⟨rfl, c32_map hh.id.2, rfl, hh.id.2, rfl⟩, ?_⟩
         conv => whnf
         repeat ((refine ifB_t ?_); conv => whnf)
         rw [dt c7]
         conv => whnf
         repeat ((first | refine ifB_f ?_ | (refine fit_i64 ⟨by first | omega | rfl | (dsimp only; omega), by first | omega | rfl | (dsimp only; omega)⟩ ?_)); conv => whnf)
         exact ⟨c + 1, ⟨by omega, range_snoc hx e⟩, by omega, weaker_of [] rfl rfl ⟨⟨rfl, rfl, hds_pure _⟩, ⟨rfl, rfl, hds_pure _⟩, ⟨rfl, rfl⟩, ⟨rfl, by simp⟩, trivial⟩ trivial⟩
        ·rw [df c7] at e
         rw [headsR_no c1 e]
         conv => whnf
         repeat ((first | refine ifB_f ?_ | (refine ifB_neg (decide_eq_false (by first | omega | rfl | (dsimp only; omega))) ?_) | refine ⟨_, rfl, ?_⟩); conv => whnf)
         refine ifB_pos c5 ?_
         conv => whnf
         repeat ((first | refine ifB_t ?_ | refine ifB_f ?_ | (refine ifB_neg (decide_eq_false (by first | omega | rfl | (dsimp only; omega))) ?_) | (refine ifB_pos (decide_eq_true (by first | omega | rfl | (dsimp only; omega))) ?_) | refine ⟨_, rfl, ?_⟩); conv => whnf)
         refine ⟨q.id, z32, ⟨rfl, c32_map hh.id.2, rfl, hh.id.2, rfl⟩, ?_⟩
         conv => whnf
         repeat ((refine ifB_t ?_); conv => whnf)
         rw [df c7]
         conv => whnf
         repeat ((first | refine ifB_t ?_ | refine ⟨rfl, ?_⟩); conv => whnf)
         rfl
       ·rw [df c6] at e
        rw [headsR_no c1 e]
        conv => whnf
        repeat ((first | refine ifB_f ?_ | (refine ifB_neg (decide_eq_false (by first | omega | rfl | (dsimp only; omega))) ?_) | refine ⟨_, rfl, ?_⟩); conv => whnf)
        refine ifB_pos c5 ?_
        conv => whnf
        repeat ((first | refine ifB_t ?_ | refine ifB_f ?_ | (refine ifB_pos (decide_eq_true (by first | omega | rfl | (dsimp only; omega))) ?_) | refine ⟨rfl, ?_⟩ | refine ⟨_, rfl, ?_⟩); conv => whnf)
        rfl
     ·rw [df c4] at e
      rw [headsR_no c1 e]
      conv => whnf
      repeat ((first | refine ifB_t ?_ | refine ifB_f ?_ | (refine ifB_neg (decide_eq_false (by first | omega | rfl | (dsimp only; omega))) ?_) | (refine ifB_pos (decide_eq_true (by first | omega | rfl | (dsimp only; omega))) ?_) | refine ⟨rfl, ?_⟩ | refine ⟨_, rfl, ?_⟩); conv => whnf)
      rfl
    ·rw [df c3] at e
     rw [headsR_no c1 e]
     conv => whnf
     repeat ((first | refine ifB_t ?_ | (refine ifB_pos (decide_eq_true (by first | omega | rfl | (dsimp only; omega))) ?_) | refine ⟨rfl, ?_⟩ | refine ⟨_, rfl, ?_⟩); conv => whnf)
     rfl
   ·have hp := hl _ (List.getElem_mem (show c - 1 < l.length by omega))
    refine ifB_pos (dt (by omega)) ?_
    conv => whnf
    repeat ((first | refine ifB_t ?_ | (refine fit_i64 ⟨by first | omega | rfl | (dsimp only; omega), by first | omega | rfl | (dsimp only; omega)⟩ ?_) | (refine ⟨⟨by first | (simp only [List.drop_zero, List.length_drop, hds_len]; omega) | exact Nat.le_of_ble_eq_true (by kernel_rfl), okB_none _⟩, ?_⟩) | (refine ⟨⟨?_, ?_, ?_⟩, ?_⟩; (focus omega); (focus (first | omega | (simp; done) | (simp; omega))); (focus (first | (rw [prfs_len]; simp; omega) | (rw [ents_len]; simp; omega) | (rw [hds_len]; simp; omega) | (rw [lets_len]; simp; omega))))); conv => whnf)
    have ec := cut_hd (l := l) (j := c - 1) (m := ((c : Int) - 1).toNat * 66) (by omega) (by omega) hp.au.2
    refine ⟨(congrArg pureL ec).trans (pureL_bys _), ?_⟩
    conv => whnf
    repeat ((refine ⟨rfl, ?_⟩); conv => whnf)
    refine Or.inr ?_
    conv => whnf
    repeat ((refine ⟨rfl, ?_⟩); conv => whnf)
    refine ⟨_, _, (compare_ok l[c - 1].au q.au hp.au.1 hh.au.1).arg2 hp.au.2.symm ec hh.au.2.symm (c32_take hh.au.2 _), by first | rfl | simp [noRoIf, noRoL, noRoV, noRoL_bys], ?_⟩
    conv => whnf
    repeat ((refine ifB_t ?_); conv => whnf)
    rw [df (show ¬ c = 0 by omega), Bool.false_or] at e
    rw [List.getD_eq_getElem?_getD, List.getElem?_eq_getElem (show c - 1 < l.length by omega), Option.getD_some] at e
    rw [cmp_lt0]
    cases c8 : bytesLt l[c - 1].au q.au
    ·rw [c8, Bool.false_and] at e
     rw [headsR_no c1 e]
     conv => whnf
     repeat ((first | refine ifB_t ?_ | refine ⟨rfl, ?_⟩); conv => whnf)
     rfl
    rw [c8, Bool.true_and] at e
    conv => whnf
    repeat ((refine ifB_f ?_); conv => whnf)
    refine Does.tidy [(0, .ro l.length (rowsC hdC l)), (4, .ptr 0 0), (8, .ro l.length (rowsC hdC l)), (9, .int .i64 l.length), (10, .int .i64 c)] [(0, hdC q)] 1 59 rfl rfl rfl (by kernel_rfl) (by kernel_rfl) ?_
    refine wpc_sound (M := MW) (PL := PLheads) (CU := noCut) TTok mixed _ _ _ ?_
    unfold hdR at e
    by_cases c3 : 0 ≤ q.len
    ·rw [dt c3] at e
     by_cases c4 : q.len ≤ 200
     ·rw [dt c4] at e
      cases c5 : q.shut
      ·rw [c5] at e
       by_cases c6 : q.len ≠ 0
       ·rw [dt c6] at e
        conv => whnf
        repeat ((first | refine ifB_f ?_ | (refine ifB_neg (decide_eq_false (by first | omega | rfl | (dsimp only; omega))) ?_) | refine ⟨_, rfl, ?_⟩); conv => whnf)
        refine ifB_neg c5 ?_
        conv => whnf
        repeat ((first | refine ifB_f ?_ | (refine ifB_neg (decide_eq_false (by first | omega | rfl | (dsimp only; omega))) ?_) | (refine fit_i64 ⟨by first | omega | rfl | (dsimp only; omega), by first | omega | rfl | (dsimp only; omega)⟩ ?_) | refine ⟨_, rfl, ?_⟩); conv => whnf)
        exact ⟨c + 1, ⟨by omega, range_snoc hx e⟩, by omega, weaker_of [] rfl rfl ⟨⟨rfl, rfl, hds_pure _⟩, ⟨rfl, rfl, hds_pure _⟩, ⟨rfl, rfl⟩, ⟨rfl, by simp⟩, trivial⟩ trivial⟩
       ·rw [df c6] at e
        by_cases c7 : q.id = z32
        ·rw [dt c7] at e
         conv => whnf
         repeat ((first | refine ifB_f ?_ | (refine ifB_neg (decide_eq_false (by first | omega | rfl | (dsimp only; omega))) ?_) | refine ⟨_, rfl, ?_⟩); conv => whnf)
         refine ifB_neg c5 ?_
         conv => whnf
         repeat ((first | refine ifB_t ?_ | refine ifB_f ?_ | (refine ifB_pos (decide_eq_true (by first | omega | rfl | (dsimp only; omega))) ?_) | refine ⟨_, rfl, ?_⟩); conv => whnf)
         refine ⟨q.id, z32, ⟨rfl, c32_map hh.id.2, rfl, hh.id.2, rfl⟩, ?_⟩
         conv => whnf
         repeat ((refine ifB_t ?_); conv => whnf)
         rw [dt c7]
         conv => whnf
         repeat ((first | refine ifB_f ?_ | (refine fit_i64 ⟨by first | omega | rfl | (dsimp only; omega), by first | omega | rfl | (dsimp only; omega)⟩ ?_)); conv => whnf)
         exact ⟨c + 1, ⟨by omega, range_snoc hx e⟩, by omega, weaker_of [] rfl rfl ⟨⟨rfl, rfl, hds_pure _⟩, ⟨rfl, rfl, hds_pure _⟩, ⟨rfl, rfl⟩, ⟨rfl, by simp⟩, trivial⟩ trivial⟩
        ·rw [df c7] at e
         rw [headsR_no c1 e]
         conv => whnf
         repeat ((first | refine ifB_f ?_ | (refine ifB_neg (decide_eq_false (by first | omega | rfl | (dsimp only; omega))) ?_) | refine ⟨_, rfl, ?_⟩); conv => whnf)
         refine ifB_neg c5 ?_
         conv => whnf
         repeat ((first | refine ifB_t ?_ | refine ifB_f ?_ | (refine ifB_pos (decide_eq_true (by first | omega | rfl | (dsimp only; omega))) ?_) | refine ⟨_, rfl, ?_⟩); conv => whnf)
         refine ⟨q.id, z32, ⟨rfl, c32_map hh.id.2, rfl, hh.id.2, rfl⟩, ?_⟩
         conv => whnf
         repeat ((refine ifB_t ?_); conv => whnf)
         rw [df c7]
         conv => whnf
         repeat ((first | refine ifB_t ?_ | refine ⟨rfl, ?_⟩); conv => whnf)
         rfl
      ·rw [c5] at e
       by_cases c6 : q.len ≤ 0
       ·rw [dt c6, df (show ¬ q.len ≠ 0 by omega)] at e
        by_cases c7 : q.id = z32
        ·rw [dt c7] at e
         conv => whnf
         repeat ((first | refine ifB_f ?_ | (refine ifB_neg (decide_eq_false (by first | omega | rfl | (dsimp only; omega))) ?_) | refine ⟨_, rfl, ?_⟩); conv => whnf)
         refine ifB_pos c5 ?_
         conv => whnf
         repeat ((first | refine ifB_t ?_ | refine ifB_f ?_ | (refine ifB_neg (decide_eq_false (by first | omega | rfl | (dsimp only; omega))) ?_) | (refine ifB_pos (decide_eq_true (by first | omega | rfl | (dsimp only; omega))) ?_) | refine ⟨_, rfl, ?_⟩); conv => whnf)
         refine ⟨q.id, z32, ⟨rfl, c32_map hh.id.2, rfl, hh.id.2, rfl⟩, ?_⟩
         conv => whnf
         repeat ((refine ifB_t ?_); conv => whnf)
         rw [dt c7]
         conv => whnf
         repeat ((first | refine ifB_f ?_ | (refine fit_i64 ⟨by first | omega | rfl | (dsimp only; omega), by first | omega | rfl | (dsimp only; omega)⟩ ?_)); conv => whnf)
         exact ⟨c + 1, ⟨by omega, range_snoc hx e⟩, by omega, weaker_of [] rfl rfl ⟨⟨rfl, rfl, hds_pure _⟩, ⟨rfl, rfl, hds_pure _⟩, ⟨rfl, rfl⟩, ⟨rfl, by simp⟩, trivial⟩ trivial⟩
        ·rw [df c7] at e
         rw [headsR_no c1 e]
         conv => whnf
         repeat ((first | refine ifB_f ?_ | (refine ifB_neg (decide_eq_false (by first | omega | rfl | (dsimp only; omega))) ?_) | refine ⟨_, rfl, ?_⟩); conv => whnf)
         refine ifB_pos c5 ?_
         conv => whnf
         repeat ((first | refine ifB_t ?_ | refine ifB_f ?_ | (refine ifB_neg (decide_eq_false (by first | omega | rfl | (dsimp only; omega))) ?_) | (refine ifB_pos (decide_eq_true (by first | omega | rfl | (dsimp only; omega))) ?_) | refine ⟨_, rfl, ?_⟩); conv => whnf)
         refine ⟨q.id, z32, ⟨rfl, c32_map hh.id.2, rfl, hh.id.2, rfl⟩, ?_⟩
         conv => whnf
         repeat ((refine ifB_t ?_); conv => whnf)
         rw [df c7]
         conv => whnf
         repeat ((first | refine ifB_t ?_ | refine ⟨rfl, ?_⟩); conv => whnf)
         rfl
       ·rw [df c6] at e
        rw [headsR_no c1 e]
        conv => whnf
        repeat ((first | refine ifB_f ?_ | (refine ifB_neg (decide_eq_false (by first | omega | rfl | (dsimp only; omega))) ?_) | refine ⟨_, rfl, ?_⟩); conv => whnf)
        refine ifB_pos c5 ?_
        conv => whnf
        repeat ((first | refine ifB_t ?_ | refine ifB_f ?_ | (refine ifB_pos (decide_eq_true (by first | omega | rfl | (dsimp only; omega))) ?_) | refine ⟨rfl, ?_⟩ | refine ⟨_, rfl, ?_⟩); conv => whnf)
        rfl
     ·rw [df c4] at e
      rw [headsR_no c1 e]
      conv => whnf
      repeat ((first | refine ifB_t ?_ | refine ifB_f ?_ | (refine ifB_neg (decide_eq_false (by first | omega | rfl | (dsimp only; omega))) ?_) | (refine ifB_pos (decide_eq_true (by first | omega | rfl | (dsimp only; omega))) ?_) | refine ⟨rfl, ?_⟩ | refine ⟨_, rfl, ?_⟩); conv => whnf)
      rfl
    ·rw [df c3] at e
     rw [headsR_no c1 e]
     conv => whnf
     repeat ((first | refine ifB_t ?_ | (refine ifB_pos (decide_eq_true (by first | omega | rfl | (dsimp only; omega))) ?_) | refine ⟨rfl, ?_⟩ | refine ⟨_, rfl, ?_⟩); conv => whnf)
     rfl
  ·obtain rfl : c = l.length := by omega
   refine wpc_sound (M := MW) (PL := PLheads) (CU := noCut) TTok mixed _ _ _ ?_
   have : headsR l = true := by unfold headsR; rw [hx, dt (show l.length ≤ 8 by omega)]; rfl
   rw [this]
   conv => whnf
   repeat ((first | (refine ifB_neg (decide_eq_false (by first | omega | rfl | (dsimp only; omega))) ?_) | refine ⟨rfl, ?_⟩); conv => whnf)
   rfl
 ·exact weaker_of [] rfl rfl ⟨⟨rfl, rfl, hds_pure _⟩, ⟨rfl, rfl, hds_pure _⟩, ⟨rfl, rfl⟩, ⟨rfl, rfl⟩, trivial⟩ trivial
end
section
--KR
attribute [local irreducible] ifB fitP Does Weaker
def whoR (m : Msg) : Bool := decide (0 ≤ m.frm) && decide (m.frm < 8) && decide (0 ≤ m.to) && decide (m.to < 8) && decide (m.frm ≠ m.to)
def msgR (m : Msg) : Bool := whoR m && (if m.kind = 1 then headsR m.hs && decide ((m.ps.length : Int) + m.es.length = 0) else if m.kind = 2 then decide (m.hs.length = 0) && decide (m.ps.length ≤ 4) && decide ((m.es.length : Int) ≤ 4 - m.ps.length) && !(m.ps.any fun p => !prfR p) && !(m.es.any fun e => !entR e) else false)
set_option maxHeartbeats 1000000 in
theorem check_msg_ok (m : Msg) (hm : MsgS m) : ACall Tryd.prog 26 [.agg (msgC m)] (.int .i64 (if msgR m then 0 else 1)) [] := by
 have hh := heads_ok m.hs hm.hs hm.hl
 have hp := contains1_ok m.ps hm.ps hm.pl
 have he := contains2_ok m.es hm.es hm.el
 have l1 := hm.hl
 have l2 := hm.pl
 have l3 := hm.el
 refine ACall.of_does TTok Tryd.func26 rfl Tryd.call26 rfl (wpc_sound (M := MW) (PL := PL0) (CU := cutAt [200001]) TTok mixed _ _ _ ?_)
 conv => whnf
 repeat ((refine ⟨rfl, ?_⟩); conv => whnf)
 refine Does.seqCut (fun ok : Bool => mkSt [(1, .ptr 0 0), (3, .bool ok)] [(0, msgC m)] 1 90) (fun ok => ok = whoR m) ?_ ?_
 ·refine wpc_sound (M := MW) (PL := PL0) (CU := noCut) TTok mixed _ _ _ ?_
  unfold whoR
  by_cases a1 : 0 ≤ m.frm
  ·rw [dt a1]
   by_cases a2 : m.frm < 8
   ·rw [dt a2]
    by_cases a3 : 0 ≤ m.to
    ·rw [dt a3]
     by_cases a4 : m.to < 8
     ·rw [dt a4]
      conv => whnf
      repeat ((first | refine ifB_t ?_ | (refine ifB_pos (decide_eq_true (by first | omega | rfl | (dsimp only; omega))) ?_) | refine ⟨_, rfl, ?_⟩); conv => whnf)
      exact Weaker.tidy _ _ _ _ rfl rfl rfl (by kernel_rfl) (by kernel_rfl)
     ·rw [df a4]
      conv => whnf
      repeat ((first | refine ifB_t ?_ | refine ifB_f ?_ | (refine ifB_neg (decide_eq_false (by first | omega | rfl | (dsimp only; omega))) ?_) | (refine ifB_pos (decide_eq_true (by first | omega | rfl | (dsimp only; omega))) ?_) | refine ⟨_, rfl, ?_⟩); conv => whnf)
      exact Weaker.tidy _ _ _ _ rfl rfl rfl (by kernel_rfl) (by kernel_rfl)
    ·rw [df a3]
     conv => whnf
     repeat ((first | refine ifB_t ?_ | refine ifB_f ?_ | (refine ifB_neg (decide_eq_false (by first | omega | rfl | (dsimp only; omega))) ?_) | (refine ifB_pos (decide_eq_true (by first | omega | rfl | (dsimp only; omega))) ?_) | refine ⟨_, rfl, ?_⟩); conv => whnf)
     exact Weaker.tidy _ _ _ _ rfl rfl rfl (by kernel_rfl) (by kernel_rfl)
   ·rw [df a2]
    conv => whnf
    repeat ((first | refine ifB_t ?_ | refine ifB_f ?_ | (refine ifB_neg (decide_eq_false (by first | omega | rfl | (dsimp only; omega))) ?_) | (refine ifB_pos (decide_eq_true (by first | omega | rfl | (dsimp only; omega))) ?_) | refine ⟨_, rfl, ?_⟩); conv => whnf)
    exact Weaker.tidy _ _ _ _ rfl rfl rfl (by kernel_rfl) (by kernel_rfl)
  ·rw [df a1]
   conv => whnf
   repeat ((first | refine ifB_f ?_ | (refine ifB_neg (decide_eq_false (by first | omega | rfl | (dsimp only; omega))) ?_) | refine ⟨_, rfl, ?_⟩); conv => whnf)
   exact Weaker.tidy _ _ _ _ rfl rfl rfl (by kernel_rfl) (by kernel_rfl)
 ·intro ok hok
  unfold msgR
  rw [← hok]
  clear hok
  refine wpc_sound (M := MW) (PL := PL0) (CU := noCut) TTok mixed _ _ _ ?_
  by_cases k1 : m.kind = 1
  ·rw [if_pos k1]
   cases ok
   ·conv => whnf
    repeat ((first | refine ifB_t ?_ | refine ifB_f ?_ | (refine ifB_pos (decide_eq_true (by first | omega | rfl | (dsimp only; omega))) ?_) | refine ⟨_, rfl, ?_⟩ | refine ⟨⟨rfl, rfl⟩, ?_⟩); conv => whnf)
    rfl
   ·cases c1 : headsR m.hs <;> rw [c1] at hh
    ·conv => whnf
     repeat ((first | refine ifB_t ?_ | (refine ifB_pos (decide_eq_true (by first | omega | rfl | (dsimp only; omega))) ?_) | refine ⟨rfl, ?_⟩ | refine ⟨_, rfl, ?_⟩ | refine ⟨(show pureL (rowsC _ _) = true from by first | exact prfs_pure _ | exact ents_pure _ | exact hds_pure _ | exact lets_pure _), ?_⟩); conv => whnf)
     refine ⟨_, _, hh, by first | rfl | simp [noRoIf, noRoL, noRoV, noRoL_bys], ?_⟩
     conv => whnf
     repeat ((first | refine ifB_t ?_ | refine ifB_f ?_ | refine ⟨⟨rfl, rfl⟩, ?_⟩); conv => whnf)
     rfl
    ·by_cases c2 : (m.ps.length : Int) + m.es.length = 0
     ·rw [dt c2]
      conv => whnf
      repeat ((first | refine ifB_t ?_ | (refine ifB_pos (decide_eq_true (by first | omega | rfl | (dsimp only; omega))) ?_) | refine ⟨rfl, ?_⟩ | refine ⟨_, rfl, ?_⟩ | refine ⟨(show pureL (rowsC _ _) = true from by first | exact prfs_pure _ | exact ents_pure _ | exact hds_pure _ | exact lets_pure _), ?_⟩); conv => whnf)
      refine ⟨_, _, hh, by first | rfl | simp [noRoIf, noRoL, noRoV, noRoL_bys], ?_⟩
      conv => whnf
      repeat ((first | refine ifB_t ?_ | (refine fit_i64 ⟨by first | omega | rfl | (dsimp only; omega), by first | omega | rfl | (dsimp only; omega)⟩ ?_) | refine ⟨_, rfl, ?_⟩); conv => whnf)
      rw [dt c2]
      conv => whnf
      repeat ((first | refine ifB_f ?_ | refine ⟨⟨rfl, rfl⟩, ?_⟩); conv => whnf)
      rfl
     ·rw [df c2]
      conv => whnf
      repeat ((first | refine ifB_t ?_ | (refine ifB_pos (decide_eq_true (by first | omega | rfl | (dsimp only; omega))) ?_) | refine ⟨rfl, ?_⟩ | refine ⟨_, rfl, ?_⟩ | refine ⟨(show pureL (rowsC _ _) = true from by first | exact prfs_pure _ | exact ents_pure _ | exact hds_pure _ | exact lets_pure _), ?_⟩); conv => whnf)
      refine ⟨_, _, hh, by first | rfl | simp [noRoIf, noRoL, noRoV, noRoL_bys], ?_⟩
      conv => whnf
      repeat ((first | refine ifB_t ?_ | (refine fit_i64 ⟨by first | omega | rfl | (dsimp only; omega), by first | omega | rfl | (dsimp only; omega)⟩ ?_) | refine ⟨_, rfl, ?_⟩); conv => whnf)
      rw [df c2]
      conv => whnf
      repeat ((first | refine ifB_t ?_ | refine ⟨⟨rfl, rfl⟩, ?_⟩); conv => whnf)
      rfl
  ·rw [if_neg k1]
   by_cases k2 : m.kind = 2
   ·rw [if_pos k2]
    cases ok
    ·conv => whnf
     repeat ((first | refine ifB_t ?_ | refine ifB_f ?_ | (refine ifB_neg (decide_eq_false (by first | omega | rfl | (dsimp only; omega))) ?_) | (refine ifB_pos (decide_eq_true (by first | omega | rfl | (dsimp only; omega))) ?_) | refine ⟨_, rfl, ?_⟩ | refine ⟨⟨rfl, rfl⟩, ?_⟩); conv => whnf)
     rfl
    by_cases d1 : m.hs.length = 0
    ·rw [dt d1]
     by_cases d2 : m.ps.length ≤ 4
     ·rw [dt d2]
      by_cases d3 : (m.es.length : Int) ≤ 4 - m.ps.length
      ·rw [dt d3]
       cases d4 : (m.ps.any fun p => !prfR p) <;> rw [d4] at hp
       ·cases d5 : (m.es.any fun e => !entR e) <;> rw [d5] at he
        ·conv => whnf
         repeat ((first | refine ifB_t ?_ | (refine ifB_neg (decide_eq_false (by first | omega | rfl | (dsimp only; omega))) ?_) | (refine ifB_pos (decide_eq_true (by first | omega | rfl | (dsimp only; omega))) ?_) | (refine fit_i64 ⟨by first | omega | rfl | (dsimp only; omega), by first | omega | rfl | (dsimp only; omega)⟩ ?_) | refine ⟨rfl, ?_⟩ | refine ⟨_, rfl, ?_⟩ | refine ⟨(show pureL (rowsC _ _) = true from by first | exact prfs_pure _ | exact ents_pure _ | exact hds_pure _ | exact lets_pure _), ?_⟩); conv => whnf)
         refine ⟨_, _, hp, by first | rfl | simp [noRoIf, noRoL, noRoV, noRoL_bys], ?_⟩
         conv => whnf
         repeat ((first | refine ifB_t ?_ | refine ⟨rfl, ?_⟩ | refine ⟨_, rfl, ?_⟩ | refine ⟨(show pureL (rowsC _ _) = true from by first | exact prfs_pure _ | exact ents_pure _ | exact hds_pure _ | exact lets_pure _), ?_⟩); conv => whnf)
         refine ⟨_, _, he, by first | rfl | simp [noRoIf, noRoL, noRoV, noRoL_bys], ?_⟩
         conv => whnf
         repeat ((first | refine ifB_t ?_ | refine ifB_f ?_ | refine ⟨⟨rfl, rfl⟩, ?_⟩); conv => whnf)
         rfl
        ·conv => whnf
         repeat ((first | refine ifB_t ?_ | (refine ifB_neg (decide_eq_false (by first | omega | rfl | (dsimp only; omega))) ?_) | (refine ifB_pos (decide_eq_true (by first | omega | rfl | (dsimp only; omega))) ?_) | (refine fit_i64 ⟨by first | omega | rfl | (dsimp only; omega), by first | omega | rfl | (dsimp only; omega)⟩ ?_) | refine ⟨rfl, ?_⟩ | refine ⟨_, rfl, ?_⟩ | refine ⟨(show pureL (rowsC _ _) = true from by first | exact prfs_pure _ | exact ents_pure _ | exact hds_pure _ | exact lets_pure _), ?_⟩); conv => whnf)
         refine ⟨_, _, hp, by first | rfl | simp [noRoIf, noRoL, noRoV, noRoL_bys], ?_⟩
         conv => whnf
         repeat ((first | refine ifB_t ?_ | refine ⟨rfl, ?_⟩ | refine ⟨_, rfl, ?_⟩ | refine ⟨(show pureL (rowsC _ _) = true from by first | exact prfs_pure _ | exact ents_pure _ | exact hds_pure _ | exact lets_pure _), ?_⟩); conv => whnf)
         refine ⟨_, _, he, by first | rfl | simp [noRoIf, noRoL, noRoV, noRoL_bys], ?_⟩
         conv => whnf
         repeat ((first | refine ifB_t ?_ | refine ⟨⟨rfl, rfl⟩, ?_⟩); conv => whnf)
         rfl
       ·conv => whnf
        repeat ((first | refine ifB_t ?_ | (refine ifB_neg (decide_eq_false (by first | omega | rfl | (dsimp only; omega))) ?_) | (refine ifB_pos (decide_eq_true (by first | omega | rfl | (dsimp only; omega))) ?_) | (refine fit_i64 ⟨by first | omega | rfl | (dsimp only; omega), by first | omega | rfl | (dsimp only; omega)⟩ ?_) | refine ⟨rfl, ?_⟩ | refine ⟨_, rfl, ?_⟩ | refine ⟨(show pureL (rowsC _ _) = true from by first | exact prfs_pure _ | exact ents_pure _ | exact hds_pure _ | exact lets_pure _), ?_⟩); conv => whnf)
        refine ⟨_, _, hp, by first | rfl | simp [noRoIf, noRoL, noRoV, noRoL_bys], ?_⟩
        conv => whnf
        repeat ((first | refine ifB_t ?_ | refine ifB_f ?_ | refine ⟨⟨rfl, rfl⟩, ?_⟩); conv => whnf)
        rfl
      ·rw [df d3]
       conv => whnf
       repeat ((first | refine ifB_t ?_ | refine ifB_f ?_ | (refine ifB_neg (decide_eq_false (by first | omega | rfl | (dsimp only; omega))) ?_) | (refine ifB_pos (decide_eq_true (by first | omega | rfl | (dsimp only; omega))) ?_) | (refine fit_i64 ⟨by first | omega | rfl | (dsimp only; omega), by first | omega | rfl | (dsimp only; omega)⟩ ?_) | refine ⟨_, rfl, ?_⟩ | refine ⟨⟨rfl, rfl⟩, ?_⟩); conv => whnf)
       rfl
     ·rw [df d2]
      conv => whnf
      repeat ((first | refine ifB_t ?_ | refine ifB_f ?_ | (refine ifB_neg (decide_eq_false (by first | omega | rfl | (dsimp only; omega))) ?_) | (refine ifB_pos (decide_eq_true (by first | omega | rfl | (dsimp only; omega))) ?_) | refine ⟨_, rfl, ?_⟩ | refine ⟨⟨rfl, rfl⟩, ?_⟩); conv => whnf)
      rfl
    ·rw [df d1]
     conv => whnf
     repeat ((first | refine ifB_t ?_ | refine ifB_f ?_ | (refine ifB_neg (decide_eq_false (by first | omega | rfl | (dsimp only; omega))) ?_) | (refine ifB_pos (decide_eq_true (by first | omega | rfl | (dsimp only; omega))) ?_) | refine ⟨_, rfl, ?_⟩ | refine ⟨⟨rfl, rfl⟩, ?_⟩); conv => whnf)
     rfl
   ·rw [if_neg k2]
    conv => whnf
    repeat ((first | refine ifB_t ?_ | (refine ifB_neg (decide_eq_false (by first | omega | rfl | (dsimp only; omega))) ?_) | refine ⟨_, rfl, ?_⟩ | (refine And.intro ?_ ?_; (focus (first | (simp [limB, lenB, offB]; done) | (simp [limB, lenB, offB]; omega))))); conv => whnf)
    cases ok <;> rfl
end
end Go.Proofs.YtbpdbajcmagomaaDoor.Abs
