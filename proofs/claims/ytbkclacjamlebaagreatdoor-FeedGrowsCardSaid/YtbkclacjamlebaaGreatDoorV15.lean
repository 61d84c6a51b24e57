/- Texts GX to UT, merged. -/
import Derived.Test.YtbkclacjamlebaaGreatDoorRows
import Derived.Test.YtbkclacjamlebaaGreatDoorProg
import Derived.Lib.LaidU8T
import Derived.PinnedBridge
import Derived.Test.YtbkclacjamlebaaGreatDoorV14
set_option linter.unusedVariables false
set_option linter.unusedSimpArgs false
namespace Go.Proofs.YtbkclacjamlebaaGreatDoor.Abs
open Go
section

mutual
def roV : AV → AV
 | .own len esz cs => .ro len cs
 | .agg cs => .agg (roL cs)
 | .tuple cs => .tuple (roL cs)
 | x => x
def roL : List AV → List AV
 | [] => []
 | c :: cs => roV c :: roL cs
end
mutual
def noRefV : AV → Bool
 | .ref _ => false
 | .agg cs => noRefL cs
 | .tuple cs => noRefL cs
 | _ => true
def noRefL : List AV → Bool
 | [] => true
 | c :: cs => noRefV c && noRefL cs
end
mutual
theorem roV_ok {E' : Env} {Z : Nat → Prop} (hV : ∀ b, Z b → E'.V b) : ∀ (x : AV) (v : Value) (Y : List Nat), noRefV x = true → (∀ b ∈ Y, ¬ Z b) → RepB E' x v Y → RepB ⟨E'.η, E'.ρ, Z, E'.w⟩ (roV x) v []
 | .own len esz cs, v, Y, hn, hz, h => by
  simp only [roV]
  exact roOf_own hV hz h
 | .ref cs, v, Y, hn, hz, h => by simp [noRefV] at hn
 | .agg cs, v, Y, hn, hz, h => by
  simp only [RepB] at h
  obtain ⟨vs, rfl, hl⟩ := h
  simp only [roV, RepB]
  exact ⟨vs, rfl, roL_ok hV cs _ Y (by simpa [noRefV] using hn) hz hl⟩
 | .tuple cs, v, Y, hn, hz, h => by
  simp only [RepB] at h
  obtain ⟨vs, rfl, hl⟩ := h
  simp only [roV, RepB]
  exact ⟨vs, rfl, roL_ok hV cs _ Y (by simpa [noRefV] using hn) hz hl⟩
 | .top, v, Y, hn, hz, h => by have := RepB.mono (E := E') (E' := ⟨E'.η, E'.ρ, Z, E'.w⟩) ⟨rfl, rfl⟩ hV _ _ _ h; simp only [roV, RepB] at this ⊢; exact ⟨this.1, this.2.1, trivial⟩
 | .int k n, v, Y, hn, hz, h => by have := RepB.mono (E := E') (E' := ⟨E'.η, E'.ρ, Z, E'.w⟩) ⟨rfl, rfl⟩ hV _ _ _ h; simp only [roV, RepB] at this ⊢; exact ⟨this.1, this.2.1, trivial⟩
 | .bool b, v, Y, hn, hz, h => by have := RepB.mono (E := E') (E' := ⟨E'.η, E'.ρ, Z, E'.w⟩) ⟨rfl, rfl⟩ hV _ _ _ h; simp only [roV, RepB] at this ⊢; exact ⟨this.1, this.2.1, trivial⟩
 | .anyb, v, Y, hn, hz, h => by have := RepB.mono (E := E') (E' := ⟨E'.η, E'.ρ, Z, E'.w⟩) ⟨rfl, rfl⟩ hV _ _ _ h; simp only [roV, RepB] at this ⊢; exact ⟨this.1, this.2.1, trivial⟩
 | .str s, v, Y, hn, hz, h => by have := RepB.mono (E := E') (E' := ⟨E'.η, E'.ρ, Z, E'.w⟩) ⟨rfl, rfl⟩ hV _ _ _ h; simp only [roV, RepB] at this ⊢; exact ⟨this.1, this.2.1, trivial⟩
 | .nil, v, Y, hn, hz, h => by have := RepB.mono (E := E') (E' := ⟨E'.η, E'.ρ, Z, E'.w⟩) ⟨rfl, rfl⟩ hV _ _ _ h; simp only [roV, RepB] at this ⊢; exact ⟨this.1, this.2.1, trivial⟩
 | .ro len cs, v, Y, hn, hz, h => by have := RepB.mono (E := E') (E' := ⟨E'.η, E'.ρ, Z, E'.w⟩) ⟨rfl, rfl⟩ hV _ _ _ h; simp only [roV, RepB] at this ⊢; exact ⟨this.1, this.2.1, trivial⟩
 | .sl _ _ _ _ _, v, Y, hn, hz, h => by simp [RepB, pureV] at h
 | .ptr _ _, v, Y, hn, hz, h => by simp [RepB, pureV] at h
 | .rop cs, v, Y, hn, hz, h => by have := RepB.mono (E := E') (E' := ⟨E'.η, E'.ρ, Z, E'.w⟩) ⟨rfl, rfl⟩ hV _ _ _ h; simp only [roV, RepB] at this ⊢; exact ⟨this.1, this.2.1, trivial⟩
 | .nilp, v, Y, hn, hz, h => by have := RepB.mono (E := E') (E' := ⟨E'.η, E'.ρ, Z, E'.w⟩) ⟨rfl, rfl⟩ hV _ _ _ h; simp only [roV, RepB] at this ⊢; exact ⟨this.1, this.2.1, trivial⟩
 | .hid i, v, Y, hn, hz, h => by have := RepB.mono (E := E') (E' := ⟨E'.η, E'.ρ, Z, E'.w⟩) ⟨rfl, rfl⟩ hV _ _ _ h; simp only [roV, RepB] at this ⊢; exact ⟨this.1, this.2.1, trivial⟩
 | .fn f cs, v, Y, hn, hz, h => by have := RepB.mono (E := E') (E' := ⟨E'.η, E'.ρ, Z, E'.w⟩) ⟨rfl, rfl⟩ hV _ _ _ h; simp only [roV, RepB] at this ⊢; exact ⟨this.1, this.2.1, trivial⟩
theorem roL_ok {E' : Env} {Z : Nat → Prop} (hV : ∀ b, Z b → E'.V b) : ∀ (cs : List AV) (vs : List Value) (Y : List Nat), noRefL cs = true → (∀ b ∈ Y, ¬ Z b) → RepBL E' cs vs Y → RepBL ⟨E'.η, E'.ρ, Z, E'.w⟩ (roL cs) vs []
 | [], vs, Y, hn, hz, h => by
  simp only [RepBL] at h
  simp only [roL, RepBL]
  exact ⟨h.1, trivial⟩
 | c :: cs, vs, Y, hn, hz, h => by
  simp only [noRefL, Bool.and_eq_true] at hn
  simp only [RepBL] at h
  obtain ⟨u, us, Y1, Y2, rfl, rfl, h1, h2⟩ := h
  simp only [roL, RepBL]
  exact ⟨u, us, [], [], rfl, rfl, roV_ok hV c u Y1 hn.1 (fun b hb => hz b (List.mem_append_left _ hb)) h1, roL_ok hV cs us Y2 hn.2 (fun b hb => hz b (List.mem_append_right _ hb)) h2⟩
end
theorem ACall.roAll {P : Program} {f : FuncId} {args : List AV} {r : AV} (hn : noRefV r = true) (h : ACall P f args r []) : ACall P f args (roV r) [] := by
 refine ⟨h.1, fun Z E vals X hh hr hnd hz => ?_⟩
 refine (h.2 Z E vals X hh hr hnd hz).mono ?_
 rintro e w' ⟨v, E', Xr, he, hw, hη, hev, hV, hB, hnd, hX⟩
 refine ⟨v, ⟨E'.η, E'.ρ, Z, E'.w⟩, [], he, hw, hη, hev, fun b => by simp, ?_, List.nodup_nil, fun b hb => absurd hb (List.not_mem_nil)⟩
 simp only [List.nil_append, RepBL] at hB ⊢
 obtain ⟨u, us, Y, Y', e1, e2, h1, h2, h3⟩ := hB
 refine ⟨u, us, [], [], e1, rfl, ?_, h2, rfl⟩
 exact roV_ok (fun b hb => (hV b).2 (.inl hb)) r u Y hn (fun b hb => (hX b (by rw [e2]; exact List.mem_append_left _ hb)).1) h1
end
section
--KR
attribute [local irreducible] ifB fitP Does Weaker
def fdO (f : Fd) : List AV := c32 f.au (.own f.es.length 133 (rowsC entC f.es) :: .bool f.shut :: prfC f.pf)
def fdI (f : Fd) (i : Nat) : List AV := c32 f.au (.sl i 0 f.es.length 133 false :: .bool f.shut :: prfC f.pf)
theorem fdO_dems {H : Heap} {f : Fd} {i : Nat} {zs : List AV} {K : List Nat → Prop} (hz : zs = fdI f i) (hH : H i = some (rowsC entC f.es)) (h : K [i]) : demsP H [.agg (fdO f)] [.agg zs] K := by
 subst hz
 simp only [demsP, demP]
 unfold fdO fdI
 refine c32_dems ?_
 simp only [demsP, demP, hH]
 refine ⟨⟨trivial, trivial, trivial, by rw [ents_len, Nat.mul_comm], ents_pure _⟩, ?_⟩
 simp only [and_self, true_and, List.nil_append]
 unfold prfC
 refine ent_dems' f.pf.a ?_
 refine ent_dems f.pf.b ?_
 simpa only [demsP, and_self, true_and, List.nil_append, List.append_nil] using h
section
attribute [local irreducible] demsP
set_option maxRecDepth 20000 in
set_option maxHeartbeats 1000000 in
theorem ftwino_ok (f : Fd) (hf : FdS f) (hn : f.es.length ≤ 100000) : ACall Tryz.prog 73 [.agg (fdC f)] (.agg (fdO f)) [] := by
 have h1 := etwins_ok f.es hf.es hn
 have h2 := ptwin_ok f.pf hf.pf
 refine ACall.of_does TTok Tryz.func73 rfl Tryz.call73 rfl (wpc_sound (M := MFd) (PL := PL0) (CU := cutAt [100001, 100002, 99999]) TTok mixed _ _ _ ?_)
 conv => whnf
 repeat ((refine ⟨rfl, ?_⟩); conv => whnf)
 refine Does.tidy [(1, .ptr 0 0), (2, .ptr 1 0)] [(0, fdC f), (1, zeroF)] 2 12 rfl rfl rfl (by kernel_rfl) (by kernel_rfl) ?_
 refine Does.quiet TTok mixed (M := MFd) [7, 9] [1, 4] (takesTo [0, 1, 3, 4] (.all [(2, (takesTo [6] (.all [(5, (.all [(7, (takesTo [8] (.all [(9, .done)])))]))])))])) (by kernel_rfl) ?_
 conv => whnf
 repeat ((first | refine ⟨rfl, ?_⟩ | refine ⟨_, rfl, ?_⟩ | refine ⟨(show pureL (rowsC _ _) = true from by first | exact prfs_pure _ | exact ents_pure _ | exact hds_pure _ | exact lets_pure _), ?_⟩); conv => whnf)
 refine ⟨_, _, h1, by first | rfl | simp [noRoIf, noRoL, noRoV, noRoL_bys], ?_⟩
 conv => whnf
 repeat ((first | refine ⟨rfl, ?_⟩ | (refine And.intro ?_ ?_; (focus (first | (simp only [pureL, pureV, pureL_bys, Bool.and_true, Bool.and_self]; done) | (simp only [pureL, pureV, pureL_bys, pureL_toks, Bool.and_true, Bool.and_self]; done))))); conv => whnf)
 refine ⟨_, _, h2, by first | rfl | simp [noRoIf, noRoL, noRoV, noRoL_bys], ?_⟩
 conv => whnf
 repeat ((refine ⟨(⟨by kernel_rfl, by kernel_rfl, Nat.le_of_ble_eq_true (by kernel_rfl)⟩ : AV.ones _ = true ∧ _ ∧ _), ?_⟩); conv => whnf)
 refine Does.tidy [(1, .ptr 0 0), (2, .ptr 1 0)] [(0, fdI f 2), (1, zeroF), (2, rowsC entC f.es)] 3 12 rfl rfl rfl (by kernel_rfl) (by kernel_rfl) ?_
 refine wpc_sound (M := MFd) (PL := PL0) (CU := noCut) TTok mixed _ _ _ ?_
 conv => whnf
 repeat ((first | refine ⟨(⟨by kernel_rfl, by kernel_rfl, Nat.le_of_ble_eq_true (by kernel_rfl)⟩ : AV.ones _ = true ∧ _ ∧ _), ?_⟩ | refine ⟨_, rfl, ?_⟩); conv => whnf)
 refine Does.tidy [(2, .ptr 1 0)] [(0, fdI f 2), (1, fdI f 2), (2, rowsC entC f.es)] 3 12 rfl rfl rfl (by kernel_rfl) (by kernel_rfl) ?_
 refine wpc_sound (M := MFd) (PL := PL0) (CU := noCut) TTok mixed _ _ _ ?_
 conv => whnf
 refine ⟨fdI f 2, by kernel_rfl, ?_⟩
 conv => whnf
 refine fdO_dems (i := 2) (by kernel_rfl) rfl ?_
 rfl
end
end
section
--KR
attribute [local irreducible] ifB fitP Does Weaker
def fd0 : Fd := ⟨z32, [], false, prf0⟩
theorem fd0_int_dems {H : Heap} {n : Int} {zs : List AV} {K : List Nat → Prop} (hz : zs = zeroF) (h : K []) : demsP H [.tuple [.agg (fdC fd0), .int .i64 n]] [.tuple [.agg zs, .int .i64 n]] K := by
 subst hz
 simp only [demsP, demP]
 unfold fdC zeroF
 refine c32_dems ?_
 simp only [demsP, demP, and_self, true_and, List.nil_append]
 refine ⟨⟨rfl, rfl⟩, rfl, ?_⟩
 show demsP H (prfC prf0) (zeroE ++ zeroE) _
 refine ent0_dems' ?_
 refine ent0_dems ?_
 simpa only [demsP, and_self, true_and, List.nil_append, List.append_nil] using h
def pushE (f : Fd) (e : Ent) : Int := if lookR f = false then 1 else if entR e = false then 1 else if e.au ≠ f.au then 16 else if f.shut = true then 15 else
 if e.seq ≤ f.es.length then (if f.es.getD (e.seq - 1).toNat ent0 = e then 11 else 14) else if e.seq > (f.es.length : Int) + 1 then 13 else if e.prev ≠ (folL f.au f.es).1 then 12 else 0
theorem fol_R {au : List Int} : ∀ {l : List Ent} {i : Nat} {w : List Int}, (folGo au i w l).2 = true → ∀ e ∈ l, entR e = true
 | [], i, w, _, e, he => absurd he (List.not_mem_nil)
 | x :: r, i, w, h, e, he => by
  rw [folGo] at h
  split at h
  ·rename_i ho
   rcases List.mem_cons.1 he with rfl | he
   ·unfold okE at ho
    simp only [Bool.and_eq_true] at ho
    exact ho.1.1.1
   ·exact fol_R h e he
  ·cases h
theorem look_len {f : Fd} (h : lookR f = true) : f.es.length ≤ 200 := by
 unfold lookR folL at h
 by_cases c : 200 < f.es.length
 ·rw [if_pos c] at h; cases h
 ·omega
theorem look_fol {f : Fd} (h : lookR f = true) : (folGo f.au 0 z32 f.es).2 = true := by
 have := look_len h
 unfold lookR folL at h
 rw [if_neg (by omega), Bool.and_eq_true] at h
 exact h.1
theorem folGo_len {au : List Int} : ∀ (l : List Ent) (i : Nat) (w : List Int), w.length = 32 → (folGo au i w l).1.length = 32
 | [], i, w, h => h
 | x :: r, i, w, h => by
  rw [folGo]
  split
  ·exact folGo_len r _ _ (shaL_len _)
  ·exact h
theorem fol_len {f : Fd} (hf : FdS f) : (folL f.au f.es).1.length = 32 := by
 unfold folL
 split
 ·rfl
 ·exact folGo_len _ _ _ rfl
section
attribute [local irreducible] demsP
set_option maxRecDepth 20000 in
set_option maxHeartbeats 4000000 in
theorem fpush_no (f : Fd) (e : Ent) (hf : FdS f) (he : EntS e) (h0 : pushE f e ≠ 0) : ACall Tryz.prog 29 [.agg (fdC f), .agg (entC e)] (.tuple [.agg (fdC fd0), .int .i64 (pushE f e)]) [] := by
 have h1 := flast_ok f hf
 have hck := check_entry_ok e he
 refine ACall.of_does TTok Tryz.func29 rfl Tryz.call29 rfl (wpc_sound (M := MFd) (PL := PL0) (CU := cutAt [100001, 100002, 100003, 100005, 100007, 100009, 100010, 100011, 100013, 100015, 100017, 100018, 100019, 100020, 99999]) TTok mixed _ _ _ ?_)
 conv => whnf
 repeat ((refine ⟨rfl, ?_⟩); conv => whnf)
 refine Does.freeze 0 rfl (Does.freeze 1 (zs := entC e) (by show some (frzL 0 _ (entC e)) = _; rw [entC_frz]) (Does.tidy [(2, .rop (fdC f)), (3, .rop (entC e)), (4, .ptr 2 0)] [(2, zeroF)] 3 83 rfl rfl rfl (by kernel_rfl) (by kernel_rfl) ?_))
 refine wpc_sound (M := MFd) (PL := PL0) (CU := noCut) TTok mixed _ _ _ ?_
 cases hlk : lookR f <;> rw [hlk] at h1
 ·rw [if_neg (by decide), if_neg (by decide), if_neg (by decide)] at h1
  conv => whnf
  repeat ((refine ⟨_, rfl, ?_⟩); conv => whnf)
  refine ⟨(show pureL _ = true from fdC_pure f), ?_⟩
  conv => whnf
  repeat ((refine ⟨rfl, ?_⟩); conv => whnf)
  refine ⟨_, _, h1, by first | rfl | simp [noRoIf, noRoL, noRoV, noRoL_bys], ?_⟩
  conv => whnf
  repeat ((first | refine ⟨(⟨by kernel_rfl, by kernel_rfl, Nat.le_of_ble_eq_true (by kernel_rfl)⟩ : AV.ones _ = true ∧ _ ∧ _), ?_⟩ | refine ⟨rfl, ?_⟩); conv => whnf)
  refine Does.tidy [(2, .rop (fdC f)), (3, .rop (entC e)), (4, .ptr 2 0), (6, .int .i64 0), (7, .ptr 3 0), (8, .int .i64 1)] [(2, zeroF), (3, c32 z32 [])] 4 83 rfl rfl rfl (by kernel_rfl) (by kernel_rfl) ?_
  refine wpc_sound (M := MFd) (PL := PL0) (CU := noCut) TTok mixed _ _ _ ?_
  rw [show pushE f e = 1 from by unfold pushE; rw [hlk]; rfl]
  conv => whnf
  repeat ((refine ifB_t ?_); conv => whnf)
  refine Does.tidy [(4, .ptr 2 0), (8, .int .i64 1)] [(2, zeroF), (3, c32 z32 [])] 4 83 rfl rfl rfl (by kernel_rfl) (by kernel_rfl) ?_
  refine wpc_sound (M := MFd) (PL := PL0) (CU := noCut) TTok mixed _ _ _ ?_
  conv => whnf
  repeat ((refine ⟨(⟨by kernel_rfl, by kernel_rfl, Nat.le_of_ble_eq_true (by kernel_rfl)⟩ : AV.ones _ = true ∧ _ ∧ _), ?_⟩); conv => whnf)
  refine Does.tidy [(4, .ptr 2 0), (5, .int .i64 1)] [(2, zeroF), (3, c32 z32 [])] 4 83 rfl rfl rfl (by kernel_rfl) (by kernel_rfl) ?_
  refine wpc_sound (M := MFd) (PL := PL0) (CU := noCut) TTok mixed _ _ _ ?_
  conv => whnf
  refine ⟨zeroF, by kernel_rfl, ?_⟩
  conv => whnf
  refine fd0_int_dems (by kernel_rfl) ?_
  rfl
 rw [if_pos rfl, if_pos rfl, if_pos rfl] at h1
 have hfR := fol_R (w := z32) (show (folGo f.au 0 z32 f.es).2 = true from look_fol hlk)
 have hlen := look_len hlk
 have hPE : pushE f e = if entR e = false then 1 else if e.au ≠ f.au then 16 else if f.shut = true then 15 else if e.seq ≤ f.es.length then (if f.es.getD (e.seq - 1).toNat ent0 = e then 11 else 14) else if e.seq > (f.es.length : Int) + 1 then 13 else if e.prev ≠ (folL f.au f.es).1 then 12 else 0 := by unfold pushE; rw [hlk]; rfl
 have hil := fol_len hf
 generalize (folL f.au f.es).1 = i at h1 hPE hil
 conv => whnf
 repeat ((refine ⟨_, rfl, ?_⟩); conv => whnf)
 refine ⟨(show pureL _ = true from fdC_pure f), ?_⟩
 conv => whnf
 repeat ((refine ⟨rfl, ?_⟩); conv => whnf)
 refine ⟨_, _, h1, by first | rfl | simp [noRoIf, noRoL, noRoV, noRoL_bys], ?_⟩
 conv => whnf
 repeat ((first | refine ⟨(⟨by kernel_rfl, by kernel_rfl, Nat.le_of_ble_eq_true (by kernel_rfl)⟩ : AV.ones _ = true ∧ _ ∧ _), ?_⟩ | refine ⟨rfl, ?_⟩); conv => whnf)
 refine Does.tidy [(2, .rop (fdC f)), (3, .rop (entC e)), (4, .ptr 2 0), (6, .int .i64 f.es.length), (7, .ptr 3 0), (8, .int .i64 0)] [(2, zeroF), (3, c32 i [])] 4 83 rfl rfl rfl (by kernel_rfl) (by kernel_rfl) ?_
 refine wpc_sound (M := MFd) (PL := PL0) (CU := noCut) TTok mixed _ _ _ ?_
 conv => whnf
 repeat ((first | refine ifB_f ?_ | refine ⟨entC_pure _, ?_⟩ | refine ⟨rfl, ?_⟩ | refine ⟨_, rfl, ?_⟩); conv => whnf)
 cases hr : entR e <;> rw [hr] at hck hPE
 ·refine ⟨_, _, hck, by first | rfl | simp [noRoIf, noRoL, noRoV, noRoL_bys], ?_⟩
  conv => whnf
  repeat ((refine ifB_t ?_); conv => whnf)
  rw [show pushE f e = 1 from by rw [hPE]; rfl]
  refine Does.tidy [(4, .ptr 2 0), (8, .int .i64 0)] [(2, zeroF), (3, c32 i [])] 4 83 rfl rfl rfl (by kernel_rfl) (by kernel_rfl) ?_
  refine wpc_sound (M := MFd) (PL := PL0) (CU := noCut) TTok mixed _ _ _ ?_
  conv => whnf
  repeat ((refine ⟨(⟨by kernel_rfl, by kernel_rfl, Nat.le_of_ble_eq_true (by kernel_rfl)⟩ : AV.ones _ = true ∧ _ ∧ _), ?_⟩); conv => whnf)
  refine Does.tidy [(4, .ptr 2 0), (5, .int .i64 1)] [(2, zeroF), (3, c32 i [])] 4 83 rfl rfl rfl (by kernel_rfl) (by kernel_rfl) ?_
  refine wpc_sound (M := MFd) (PL := PL0) (CU := noCut) TTok mixed _ _ _ ?_
  conv => whnf
  refine ⟨zeroF, by kernel_rfl, ?_⟩
  conv => whnf
  refine fd0_int_dems (by kernel_rfl) ?_
  rfl
 rw [if_neg (by decide)] at hPE
 have hsq := (entR_facts hr).1
 refine ⟨_, _, hck, by first | rfl | simp [noRoIf, noRoL, noRoV, noRoL_bys], ?_⟩
 conv => whnf
 repeat ((first | refine ifB_f ?_ | refine ⟨_, rfl, ?_⟩); conv => whnf)
 refine ⟨e.au, f.au, ⟨rfl, c32_map he.au.2, c32_map hf.au.2, he.au.2, hf.au.2⟩, ?_⟩
 by_cases c1 : e.au = f.au
 case neg =>
  rw [df c1]
  rw [if_pos c1] at hPE
  conv => whnf
  repeat ((refine ifB_t ?_); conv => whnf)
  rw [show pushE f e = 16 from by exact hPE]
  refine Does.tidy [(4, .ptr 2 0), (8, .int .i64 0)] [(2, zeroF), (3, c32 i [])] 4 83 rfl rfl rfl (by kernel_rfl) (by kernel_rfl) ?_
  refine wpc_sound (M := MFd) (PL := PL0) (CU := noCut) TTok mixed _ _ _ ?_
  conv => whnf
  repeat ((refine ⟨(⟨by kernel_rfl, by kernel_rfl, Nat.le_of_ble_eq_true (by kernel_rfl)⟩ : AV.ones _ = true ∧ _ ∧ _), ?_⟩); conv => whnf)
  refine Does.tidy [(4, .ptr 2 0), (5, .int .i64 16)] [(2, zeroF), (3, c32 i [])] 4 83 rfl rfl rfl (by kernel_rfl) (by kernel_rfl) ?_
  refine wpc_sound (M := MFd) (PL := PL0) (CU := noCut) TTok mixed _ _ _ ?_
  conv => whnf
  refine ⟨zeroF, by kernel_rfl, ?_⟩
  conv => whnf
  refine fd0_int_dems (by kernel_rfl) ?_
  rfl
 rw [dt c1]
 rw [if_neg (fun h => h c1)] at hPE
 conv => whnf
 repeat ((first | refine ifB_f ?_ | refine ⟨_, rfl, ?_⟩); conv => whnf)
 cases hs : f.shut <;> rw [hs] at hPE
 case true =>
  rw [if_pos rfl] at hPE
  conv => whnf
  repeat ((refine ifB_t ?_); conv => whnf)
  rw [show pushE f e = 15 from by exact hPE]
  refine Does.tidy [(4, .ptr 2 0), (8, .int .i64 0)] [(2, zeroF), (3, c32 i [])] 4 83 rfl rfl rfl (by kernel_rfl) (by kernel_rfl) ?_
  refine wpc_sound (M := MFd) (PL := PL0) (CU := noCut) TTok mixed _ _ _ ?_
  conv => whnf
  repeat ((refine ⟨(⟨by kernel_rfl, by kernel_rfl, Nat.le_of_ble_eq_true (by kernel_rfl)⟩ : AV.ones _ = true ∧ _ ∧ _), ?_⟩); conv => whnf)
  refine Does.tidy [(4, .ptr 2 0), (5, .int .i64 15)] [(2, zeroF), (3, c32 i [])] 4 83 rfl rfl rfl (by kernel_rfl) (by kernel_rfl) ?_
  refine wpc_sound (M := MFd) (PL := PL0) (CU := noCut) TTok mixed _ _ _ ?_
  conv => whnf
  refine ⟨zeroF, by kernel_rfl, ?_⟩
  conv => whnf
  refine fd0_int_dems (by kernel_rfl) ?_
  rfl
 rw [if_neg (by decide)] at hPE
 conv => whnf
 repeat ((refine ifB_f ?_); conv => whnf)
 refine Does.quiet TTok mixed (M := MFd) [] [1, 6, 8, 11, 12] (takesTo [0, 1, 2, 3, 4, 5, 6, 7, 8, 9, 10, 11, 12] (.all [(13, (takes [14, 15]))])) (by kernel_rfl) ?_
 conv => whnf
 repeat ((refine ⟨_, rfl, ?_⟩); conv => whnf)
 by_cases c2 : e.seq ≤ f.es.length
 ·rw [if_pos c2] at hPE
  obtain ⟨k, hk⟩ : ∃ k : Nat, e.seq = (k : Int) + 1 := ⟨(e.seq - 1).toNat, by omega⟩
  have hkl : k < f.es.length := by omega
  have hm := List.getElem_mem hkl
  have hge : f.es.getD (e.seq - 1).toNat ent0 = f.es[k] := by rw [show (e.seq - 1).toNat = k by omega, List.getD_eq_getElem?_getD, List.getElem?_eq_getElem hkl]; rfl
  rw [hge] at hPE
  have hfs := fsame_ok f.es[k] e (hf.es _ hm) he (hfR _ hm) hr
  conv => whnf
  repeat ((first | refine ifB_t ?_ | (refine ifB_pos (decide_eq_true (by first | omega | rfl | (dsimp only; omega))) ?_) | (refine fit_i64 ⟨by first | omega | rfl | (dsimp only; omega), by first | omega | rfl | (dsimp only; omega)⟩ ?_) | refine ⟨_, rfl, ?_⟩ | (refine ⟨⟨?_, ?_, ?_⟩, ?_⟩; (focus omega); (focus (first | omega | (simp; done) | (simp; omega))); (focus (first | (rw [prfs_len]; simp; omega) | (rw [ents_len]; simp; omega) | (rw [hds_len]; simp; omega) | (rw [lets_len]; simp; omega))))); conv => whnf)
  refine ⟨_, takeN_row entC_length (j := k) hkl (by simp; omega) rfl, ?_⟩
  conv => whnf
  repeat ((first | refine ifB_t ?_ | refine ⟨entC_pure _, ?_⟩ | refine ⟨rfl, ?_⟩ | refine ⟨_, rfl, ?_⟩); conv => whnf)
  by_cases c3 : f.es[k] = e
  ·rw [dt c3] at hfs
   rw [if_pos c3] at hPE
   refine ⟨_, _, hfs, by first | rfl | simp [noRoIf, noRoL, noRoV, noRoL_bys], ?_⟩
   conv => whnf
   repeat ((refine ifB_t ?_); conv => whnf)
   rw [show pushE f e = 11 from by exact hPE]
   refine Does.tidy [(4, .ptr 2 0), (8, .int .i64 0)] [(2, zeroF), (3, c32 i [])] 4 83 rfl rfl rfl (by kernel_rfl) (by kernel_rfl) ?_
   refine wpc_sound (M := MFd) (PL := PL0) (CU := noCut) TTok mixed _ _ _ ?_
   conv => whnf
   repeat ((refine ⟨(⟨by kernel_rfl, by kernel_rfl, Nat.le_of_ble_eq_true (by kernel_rfl)⟩ : AV.ones _ = true ∧ _ ∧ _), ?_⟩); conv => whnf)
   refine Does.tidy [(4, .ptr 2 0), (5, .int .i64 11)] [(2, zeroF), (3, c32 i [])] 4 83 rfl rfl rfl (by kernel_rfl) (by kernel_rfl) ?_
   refine wpc_sound (M := MFd) (PL := PL0) (CU := noCut) TTok mixed _ _ _ ?_
   conv => whnf
   refine ⟨zeroF, by kernel_rfl, ?_⟩
   conv => whnf
   refine fd0_int_dems (by kernel_rfl) ?_
   rfl
  ·rw [df c3] at hfs
   rw [if_neg c3] at hPE
   refine ⟨_, _, hfs, by first | rfl | simp [noRoIf, noRoL, noRoV, noRoL_bys], ?_⟩
   conv => whnf
   repeat ((first | refine ifB_t ?_ | refine ifB_f ?_ | (refine ifB_pos (decide_eq_true (by first | omega | rfl | (dsimp only; omega))) ?_) | refine ⟨_, rfl, ?_⟩); conv => whnf)
   rw [show pushE f e = 14 from by exact hPE]
   refine Does.tidy [(4, .ptr 2 0), (8, .int .i64 0)] [(2, zeroF), (3, c32 i [])] 4 83 rfl rfl rfl (by kernel_rfl) (by kernel_rfl) ?_
   refine wpc_sound (M := MFd) (PL := PL0) (CU := noCut) TTok mixed _ _ _ ?_
   conv => whnf
   repeat ((refine ⟨(⟨by kernel_rfl, by kernel_rfl, Nat.le_of_ble_eq_true (by kernel_rfl)⟩ : AV.ones _ = true ∧ _ ∧ _), ?_⟩); conv => whnf)
   refine Does.tidy [(4, .ptr 2 0), (5, .int .i64 14)] [(2, zeroF), (3, c32 i [])] 4 83 rfl rfl rfl (by kernel_rfl) (by kernel_rfl) ?_
   refine wpc_sound (M := MFd) (PL := PL0) (CU := noCut) TTok mixed _ _ _ ?_
   conv => whnf
   refine ⟨zeroF, by kernel_rfl, ?_⟩
   conv => whnf
   refine fd0_int_dems (by kernel_rfl) ?_
   rfl
 rw [if_neg c2] at hPE
 conv => whnf
 repeat ((first | refine ifB_f ?_ | (refine ifB_neg (decide_eq_false (by first | omega | rfl | (dsimp only; omega))) ?_) | (refine fit_i64 ⟨by first | omega | rfl | (dsimp only; omega), by first | omega | rfl | (dsimp only; omega)⟩ ?_) | refine ⟨_, rfl, ?_⟩); conv => whnf)
 by_cases c4 : e.seq > (f.es.length : Int) + 1
 ·rw [if_pos c4] at hPE
  conv => whnf
  repeat ((refine ifB_pos (decide_eq_true (by first | omega | rfl | (dsimp only; omega))) ?_); conv => whnf)
  rw [show pushE f e = 13 from by exact hPE]
  refine Does.tidy [(4, .ptr 2 0), (8, .int .i64 0)] [(2, zeroF), (3, c32 i [])] 4 83 rfl rfl rfl (by kernel_rfl) (by kernel_rfl) ?_
  refine wpc_sound (M := MFd) (PL := PL0) (CU := noCut) TTok mixed _ _ _ ?_
  conv => whnf
  repeat ((refine ⟨(⟨by kernel_rfl, by kernel_rfl, Nat.le_of_ble_eq_true (by kernel_rfl)⟩ : AV.ones _ = true ∧ _ ∧ _), ?_⟩); conv => whnf)
  refine Does.tidy [(4, .ptr 2 0), (5, .int .i64 13)] [(2, zeroF), (3, c32 i [])] 4 83 rfl rfl rfl (by kernel_rfl) (by kernel_rfl) ?_
  refine wpc_sound (M := MFd) (PL := PL0) (CU := noCut) TTok mixed _ _ _ ?_
  conv => whnf
  refine ⟨zeroF, by kernel_rfl, ?_⟩
  conv => whnf
  refine fd0_int_dems (by kernel_rfl) ?_
  rfl
 rw [if_neg c4] at hPE
 conv => whnf
 repeat ((first | (refine ifB_neg (decide_eq_false (by first | omega | rfl | (dsimp only; omega))) ?_) | refine ⟨_, rfl, ?_⟩); conv => whnf)
 refine ⟨e.prev, i, ⟨rfl, c32_map he.prev.2, c32_map hil, he.prev.2, hil⟩, ?_⟩
 by_cases c5 : e.prev = i
 case neg =>
  rw [df c5]
  rw [if_pos c5] at hPE
  conv => whnf
  repeat ((refine ifB_t ?_); conv => whnf)
  rw [show pushE f e = 12 from by exact hPE]
  refine Does.tidy [(4, .ptr 2 0), (8, .int .i64 0)] [(2, zeroF), (3, c32 i [])] 4 83 rfl rfl rfl (by kernel_rfl) (by kernel_rfl) ?_
  refine wpc_sound (M := MFd) (PL := PL0) (CU := noCut) TTok mixed _ _ _ ?_
  conv => whnf
  repeat ((refine ⟨(⟨by kernel_rfl, by kernel_rfl, Nat.le_of_ble_eq_true (by kernel_rfl)⟩ : AV.ones _ = true ∧ _ ∧ _), ?_⟩); conv => whnf)
  refine Does.tidy [(4, .ptr 2 0), (5, .int .i64 12)] [(2, zeroF), (3, c32 i [])] 4 83 rfl rfl rfl (by kernel_rfl) (by kernel_rfl) ?_
  refine wpc_sound (M := MFd) (PL := PL0) (CU := noCut) TTok mixed _ _ _ ?_
  conv => whnf
  refine ⟨zeroF, by kernel_rfl, ?_⟩
  conv => whnf
  refine fd0_int_dems (by kernel_rfl) ?_
  rfl
 rw [dt c5]
 rw [if_neg (fun h => h c5)] at hPE
 exact absurd hPE h0
end
end
section
--KR
attribute [local irreducible] ifB fitP Does Weaker
def fdJ (f : Fd) (j n : Nat) : List AV := c32 f.au (.sl j 0 n 133 false :: .bool f.shut :: prfC f.pf)
theorem fdO_int_dems {H : Heap} {f : Fd} {j n : Nat} {m : Int} {zs cs : List AV} {K : List Nat → Prop} (hz : zs = fdJ f j n) (hn : n = f.es.length) (hH : H j = some cs) (hc : cs = rowsC entC f.es) (h : K [j]) : demsP H [.tuple [.agg (fdO f), .int .i64 m]] [.tuple [.agg zs, .int .i64 m]] K := by
 subst hz hn hc
 simp only [demsP, demP]
 unfold fdO fdJ
 refine c32_dems ?_
 simp only [demsP, demP, hH]
 refine ⟨⟨trivial, trivial, trivial, by rw [ents_len, Nat.mul_comm], ents_pure _⟩, ?_⟩
 simp only [and_self, true_and, List.nil_append]
 unfold prfC
 refine ent_dems' f.pf.a ?_
 refine ent_dems f.pf.b ?_
 simpa only [demsP, and_self, true_and, List.nil_append, List.append_nil] using h
def PLp9 : Nat → Bool × Plan := plans [(19, (false, (takesTo [0] (.all [(1, (.all [(2, (.all [(3, (.all [(4, (.all [(5, (takesTo [6] (.all [(7, .done)])))]))]))]))])), (2, (.all [(1, (.all [(3, (.all [(4, (.all [(5, (takesTo [6] (.all [(7, .done)])))]))]))])), (3, (.all [(1, (.all [(4, (.all [(5, (takesTo [6] (.all [(7, .done)])))]))])), (4, (.all [(1, (.all [(5, (takesTo [6] (.all [(7, .done)])))]))]))]))]))]))))]
section
attribute [local irreducible] demsP
set_option maxRecDepth 20000 in
set_option maxHeartbeats 4000000 in
theorem fpush_yes (f : Fd) (e : Ent) (hf : FdS f) (he : EntS e) (h0 : pushE f e = 0) : ACall Tryz.prog 29 [.agg (fdC f), .agg (entC e)] (.tuple [.agg (fdO ⟨f.au, f.es ++ [e], f.shut, f.pf⟩), .int .i64 0]) [] := by
 have h1 := flast_ok f hf
 have hck := check_entry_ok e he
 refine ACall.of_does TTok Tryz.func29 rfl Tryz.call29 rfl (wpc_sound (M := MFd) (PL := PL0) (CU := cutAt [100001, 100002, 100003, 100005, 100007, 100009, 100010, 100011, 100013, 100015, 100017, 100018, 100019, 100020, 99999]) TTok mixed _ _ _ ?_)
 conv => whnf
 repeat ((refine ⟨rfl, ?_⟩); conv => whnf)
 refine Does.freeze 0 rfl (Does.freeze 1 (zs := entC e) (by show some (frzL 0 _ (entC e)) = _; rw [entC_frz]) (Does.tidy [(2, .rop (fdC f)), (3, .rop (entC e)), (4, .ptr 2 0)] [(2, zeroF)] 3 83 rfl rfl rfl (by kernel_rfl) (by kernel_rfl) ?_))
 refine wpc_sound (M := MFd) (PL := PL0) (CU := noCut) TTok mixed _ _ _ ?_
 cases hlk : lookR f <;> rw [hlk] at h1
 ·rw [if_neg (by decide), if_neg (by decide), if_neg (by decide)] at h1
  rw [show pushE f e = 1 from by unfold pushE; rw [hlk]; rfl] at h0
  cases h0
 rw [if_pos rfl, if_pos rfl, if_pos rfl] at h1
 have hfR := fol_R (w := z32) (show (folGo f.au 0 z32 f.es).2 = true from look_fol hlk)
 have hlen := look_len hlk
 have hPE : pushE f e = if entR e = false then 1 else if e.au ≠ f.au then 16 else if f.shut = true then 15 else if e.seq ≤ f.es.length then (if f.es.getD (e.seq - 1).toNat ent0 = e then 11 else 14) else if e.seq > (f.es.length : Int) + 1 then 13 else if e.prev ≠ (folL f.au f.es).1 then 12 else 0 := by unfold pushE; rw [hlk]; rfl
 have hil := fol_len hf
 generalize (folL f.au f.es).1 = i at h1 hPE hil
 conv => whnf
 repeat ((refine ⟨_, rfl, ?_⟩); conv => whnf)
 refine ⟨(show pureL _ = true from fdC_pure f), ?_⟩
 conv => whnf
 repeat ((refine ⟨rfl, ?_⟩); conv => whnf)
 refine ⟨_, _, h1, by first | rfl | simp [noRoIf, noRoL, noRoV, noRoL_bys], ?_⟩
 conv => whnf
 repeat ((first | refine ⟨(⟨by kernel_rfl, by kernel_rfl, Nat.le_of_ble_eq_true (by kernel_rfl)⟩ : AV.ones _ = true ∧ _ ∧ _), ?_⟩ | refine ⟨rfl, ?_⟩); conv => whnf)
 refine Does.tidy [(2, .rop (fdC f)), (3, .rop (entC e)), (4, .ptr 2 0), (6, .int .i64 f.es.length), (7, .ptr 3 0), (8, .int .i64 0)] [(2, zeroF), (3, c32 i [])] 4 83 rfl rfl rfl (by kernel_rfl) (by kernel_rfl) ?_
 refine wpc_sound (M := MFd) (PL := PL0) (CU := noCut) TTok mixed _ _ _ ?_
 conv => whnf
 repeat ((first | refine ifB_f ?_ | refine ⟨entC_pure _, ?_⟩ | refine ⟨rfl, ?_⟩ | refine ⟨_, rfl, ?_⟩); conv => whnf)
 cases hr : entR e <;> rw [hr] at hck hPE
 ·refine ⟨_, _, hck, by first | rfl | simp [noRoIf, noRoL, noRoV, noRoL_bys], ?_⟩
  conv => whnf
  repeat ((refine ifB_t ?_); conv => whnf)
  rw [show pushE f e = 1 from by rw [hPE]; rfl] at h0
  cases h0
 rw [if_neg (by decide)] at hPE
 have hsq := (entR_facts hr).1
 refine ⟨_, _, hck, by first | rfl | simp [noRoIf, noRoL, noRoV, noRoL_bys], ?_⟩
 conv => whnf
 repeat ((first | refine ifB_f ?_ | refine ⟨_, rfl, ?_⟩); conv => whnf)
 refine ⟨e.au, f.au, ⟨rfl, c32_map he.au.2, c32_map hf.au.2, he.au.2, hf.au.2⟩, ?_⟩
 by_cases c1 : e.au = f.au
 case neg =>
  rw [df c1]
  rw [if_pos c1] at hPE
  conv => whnf
  repeat ((refine ifB_t ?_); conv => whnf)
  rw [show pushE f e = 16 from by exact hPE] at h0
  cases h0
 rw [dt c1]
 rw [if_neg (fun h => h c1)] at hPE
 conv => whnf
 repeat ((first | refine ifB_f ?_ | refine ⟨_, rfl, ?_⟩); conv => whnf)
 cases hs : f.shut <;> rw [hs] at hPE
 case true =>
  rw [if_pos rfl] at hPE
  conv => whnf
  repeat ((refine ifB_t ?_); conv => whnf)
  rw [show pushE f e = 15 from by exact hPE] at h0
  cases h0
 rw [if_neg (by decide)] at hPE
 conv => whnf
 repeat ((refine ifB_f ?_); conv => whnf)
 refine Does.quiet TTok mixed (M := MFd) [] [1, 6, 8, 11, 12] (takesTo [0, 1, 2, 3, 4, 5, 6, 7, 8, 9, 10, 11, 12] (.all [(13, (takes [14, 15]))])) (by kernel_rfl) ?_
 conv => whnf
 repeat ((first | refine ifB_f ?_ | (refine ifB_neg (decide_eq_false (by first | omega | rfl | (dsimp only; omega))) ?_) | (refine fit_i64 ⟨by first | omega | rfl | (dsimp only; omega), by first | omega | rfl | (dsimp only; omega)⟩ ?_) | refine ⟨_, rfl, ?_⟩); conv => whnf)
 by_cases c2 : e.seq ≤ f.es.length
 ·rw [if_pos c2, h0] at hPE
  split at hPE
  ·cases hPE
  ·cases hPE
 rw [if_neg c2] at hPE
 conv => whnf
 by_cases c4 : e.seq > (f.es.length : Int) + 1
 ·rw [if_pos c4] at hPE
  conv => whnf
  rw [show pushE f e = 13 from by exact hPE] at h0
  cases h0
 rw [if_neg c4] at hPE
 conv => whnf
 refine ⟨e.prev, i, ⟨rfl, c32_map he.prev.2, c32_map hil, he.prev.2, hil⟩, ?_⟩
 by_cases c5 : e.prev = i
 case neg =>
  rw [df c5]
  rw [if_pos c5] at hPE
  conv => whnf
  repeat ((refine ifB_t ?_); conv => whnf)
  rw [show pushE f e = 12 from by exact hPE] at h0
  cases h0
 rw [dt c5]
 rw [if_neg (fun h => h c5)] at hPE
 conv => whnf
 repeat ((refine ifB_f ?_); conv => whnf)
 refine Does.tidy [(2, .rop (fdC f)), (3, .rop (entC e)), (4, .ptr 2 0)] [(2, zeroF), (3, c32 i [])] 4 83 rfl rfl rfl (by kernel_rfl) (by kernel_rfl) ?_
 have htw := ftwino_ok f hf (by omega)
 have ht := etwin_ok e he
 refine wpc_sound (M := MFd) (PL := PL0) (CU := noCut) TTok mixed _ _ _ ?_
 conv => whnf
 repeat ((refine ⟨_, rfl, ?_⟩); conv => whnf)
 refine ⟨(show pureL _ = true from fdC_pure f), ?_⟩
 conv => whnf
 repeat ((refine ⟨rfl, ?_⟩); conv => whnf)
 refine ⟨_, _, htw, by first | rfl | simp [noRoIf, noRoL, noRoV, noRoL_bys], ?_⟩
 conv => whnf
 repeat ((first | refine ⟨(⟨by kernel_rfl, by kernel_rfl, Nat.le_of_ble_eq_true (by kernel_rfl)⟩ : AV.ones _ = true ∧ _ ∧ _), ?_⟩ | refine ⟨rfl, ?_⟩); conv => whnf)
 refine Does.tidy [(2, .rop (fdC f)), (3, .rop (entC e)), (4, .ptr 2 0), (9, .ptr 5 0)] [(2, zeroF), (3, c32 i []), (4, rowsC entC f.es), (5, fdI f 4)] 6 83 rfl rfl rfl (by kernel_rfl) (by kernel_rfl) ?_
 refine wpc_sound (M := MFd) (PL := PLp9) (CU := noCut) TTok mixed _ _ _ ?_
 conv => whnf
 refine ⟨by kernel_rfl, ?_⟩
 conv => whnf
 refine ⟨?_, ?_⟩
 ·conv => whnf
  repeat ((first | refine ⟨entC_pure _, ?_⟩ | refine ⟨rfl, ?_⟩ | refine ⟨_, rfl, ?_⟩); conv => whnf)
  refine ⟨_, _, ht, by first | rfl | simp [noRoIf, noRoL, noRoV, noRoL_bys], ?_⟩
  conv => whnf
  repeat ((first | (refine Or.inl ⟨⟨rfl, ?_⟩, ?_⟩; (focus (first | rfl | (simp; done) | (rw [toksC_length]; omega)))) | refine ⟨rfl, ?_⟩ | refine ⟨⟨rfl, rfl⟩, ?_⟩); conv => whnf)
  refine ⟨⟨rfl, rfl, by rw [ents_len, Nat.mul_comm], by show (f.es.length + 1) * 192 ≤ limB; simp only [limB]; omega⟩, ?_⟩
  conv => whnf
  repeat ((refine ⟨(⟨by kernel_rfl, by kernel_rfl, Nat.le_of_ble_eq_true (by kernel_rfl)⟩ : AV.ones _ = true ∧ _ ∧ _), ?_⟩); conv => whnf)
  refine Does.tidy [(4, .ptr 2 0), (9, .ptr 5 0)] [(2, zeroF), (3, c32 i []), (5, fdJ f 7 (f.es.length + 1)), (6, entC e), (7, rowsC entC f.es ++ entC e)] 8 83 rfl rfl rfl (by kernel_rfl) (by kernel_rfl) ?_
  refine wpc_sound (M := MFd) (PL := PLp9) (CU := noCut) TTok mixed _ _ _ ?_
  conv => whnf
  repeat ((first | refine ⟨(⟨by kernel_rfl, by kernel_rfl, Nat.le_of_ble_eq_true (by kernel_rfl)⟩ : AV.ones _ = true ∧ _ ∧ _), ?_⟩ | refine ⟨_, rfl, ?_⟩); conv => whnf)
  refine Does.tidy [(4, .ptr 2 0), (5, .int .i64 0)] [(2, fdJ f 7 (f.es.length + 1)), (3, c32 i []), (5, fdJ f 7 (f.es.length + 1)), (6, entC e), (7, rowsC entC f.es ++ entC e)] 8 83 rfl rfl rfl (by kernel_rfl) (by kernel_rfl) ?_
  refine wpc_sound (M := MFd) (PL := PLp9) (CU := noCut) TTok mixed _ _ _ ?_
  conv => whnf
  refine ⟨fdJ f 7 (f.es.length + 1), by kernel_rfl, ?_⟩
  conv => whnf
  refine fdO_int_dems (f := ⟨f.au, f.es ++ [e], false, f.pf⟩) (j := 7) (n := f.es.length + 1) (cs := rowsC entC f.es ++ entC e) (by show fdJ f 7 _ = fdJ _ 7 _; unfold fdJ; rw [hs]) (by simp) ?_ (by rw [rowsC_append]; simp only [rowsC, List.append_nil]) ?_
  ·rfl
  ·rfl
 ·conv => whnf
  repeat ((refine ⟨_, rfl, ?_⟩); conv => whnf)
  refine ⟨?_, ?_⟩
  ·conv => whnf
   repeat ((first | refine ⟨entC_pure _, ?_⟩ | refine ⟨rfl, ?_⟩ | refine ⟨_, rfl, ?_⟩); conv => whnf)
   refine ⟨_, _, ht, by first | rfl | simp [noRoIf, noRoL, noRoV, noRoL_bys], ?_⟩
   conv => whnf
   repeat ((first | (refine Or.inl ⟨⟨rfl, ?_⟩, ?_⟩; (focus (first | rfl | (simp; done) | (rw [toksC_length]; omega)))) | refine ⟨rfl, ?_⟩ | refine ⟨⟨rfl, rfl⟩, ?_⟩); conv => whnf)
   refine ⟨⟨rfl, rfl, by rw [ents_len, Nat.mul_comm], by show (f.es.length + 1) * 192 ≤ limB; simp only [limB]; omega⟩, ?_⟩
   conv => whnf
   repeat ((refine ⟨(⟨by kernel_rfl, by kernel_rfl, Nat.le_of_ble_eq_true (by kernel_rfl)⟩ : AV.ones _ = true ∧ _ ∧ _), ?_⟩); conv => whnf)
   refine Does.tidy [(4, .ptr 2 0), (9, .ptr 5 0)] [(2, zeroF), (3, c32 i []), (5, fdJ f 7 (f.es.length + 1)), (6, entC e), (7, rowsC entC f.es ++ entC e)] 8 83 rfl rfl rfl (by kernel_rfl) (by kernel_rfl) ?_
   refine wpc_sound (M := MFd) (PL := PLp9) (CU := noCut) TTok mixed _ _ _ ?_
   conv => whnf
   repeat ((first | refine ⟨(⟨by kernel_rfl, by kernel_rfl, Nat.le_of_ble_eq_true (by kernel_rfl)⟩ : AV.ones _ = true ∧ _ ∧ _), ?_⟩ | refine ⟨_, rfl, ?_⟩); conv => whnf)
   refine Does.tidy [(4, .ptr 2 0), (5, .int .i64 0)] [(2, fdJ f 7 (f.es.length + 1)), (3, c32 i []), (5, fdJ f 7 (f.es.length + 1)), (6, entC e), (7, rowsC entC f.es ++ entC e)] 8 83 rfl rfl rfl (by kernel_rfl) (by kernel_rfl) ?_
   refine wpc_sound (M := MFd) (PL := PLp9) (CU := noCut) TTok mixed _ _ _ ?_
   conv => whnf
   refine ⟨fdJ f 7 (f.es.length + 1), by kernel_rfl, ?_⟩
   conv => whnf
   refine fdO_int_dems (f := ⟨f.au, f.es ++ [e], false, f.pf⟩) (j := 7) (n := f.es.length + 1) (cs := rowsC entC f.es ++ entC e) (by show fdJ f 7 _ = fdJ _ 7 _; unfold fdJ; rw [hs]) (by simp) ?_ (by rw [rowsC_append]; simp only [rowsC, List.append_nil]) ?_
   ·rfl
   ·rfl
  ·conv => whnf
   repeat ((first | refine ⟨entC_pure _, ?_⟩ | refine ⟨rfl, ?_⟩); conv => whnf)
   refine ⟨_, _, ht, by first | rfl | simp [noRoIf, noRoL, noRoV, noRoL_bys], ?_⟩
   conv => whnf
   refine ⟨?_, ?_⟩
   ·conv => whnf
    repeat ((first | (refine Or.inl ⟨⟨rfl, ?_⟩, ?_⟩; (focus (first | rfl | (simp; done) | (rw [toksC_length]; omega)))) | refine ⟨rfl, ?_⟩ | refine ⟨_, rfl, ?_⟩ | refine ⟨⟨rfl, rfl⟩, ?_⟩); conv => whnf)
    refine ⟨⟨rfl, rfl, by rw [ents_len, Nat.mul_comm], by show (f.es.length + 1) * 192 ≤ limB; simp only [limB]; omega⟩, ?_⟩
    conv => whnf
    repeat ((refine ⟨(⟨by kernel_rfl, by kernel_rfl, Nat.le_of_ble_eq_true (by kernel_rfl)⟩ : AV.ones _ = true ∧ _ ∧ _), ?_⟩); conv => whnf)
    refine Does.tidy [(4, .ptr 2 0), (9, .ptr 5 0)] [(2, zeroF), (3, c32 i []), (5, fdJ f 7 (f.es.length + 1)), (6, entC e), (7, rowsC entC f.es ++ entC e)] 8 83 rfl rfl rfl (by kernel_rfl) (by kernel_rfl) ?_
    refine wpc_sound (M := MFd) (PL := PLp9) (CU := noCut) TTok mixed _ _ _ ?_
    conv => whnf
    repeat ((first | refine ⟨(⟨by kernel_rfl, by kernel_rfl, Nat.le_of_ble_eq_true (by kernel_rfl)⟩ : AV.ones _ = true ∧ _ ∧ _), ?_⟩ | refine ⟨_, rfl, ?_⟩); conv => whnf)
    refine Does.tidy [(4, .ptr 2 0), (5, .int .i64 0)] [(2, fdJ f 7 (f.es.length + 1)), (3, c32 i []), (5, fdJ f 7 (f.es.length + 1)), (6, entC e), (7, rowsC entC f.es ++ entC e)] 8 83 rfl rfl rfl (by kernel_rfl) (by kernel_rfl) ?_
    refine wpc_sound (M := MFd) (PL := PLp9) (CU := noCut) TTok mixed _ _ _ ?_
    conv => whnf
    refine ⟨fdJ f 7 (f.es.length + 1), by kernel_rfl, ?_⟩
    conv => whnf
    refine fdO_int_dems (f := ⟨f.au, f.es ++ [e], false, f.pf⟩) (j := 7) (n := f.es.length + 1) (cs := rowsC entC f.es ++ entC e) (by show fdJ f 7 _ = fdJ _ 7 _; unfold fdJ; rw [hs]) (by simp) ?_ (by rw [rowsC_append]; simp only [rowsC, List.append_nil]) ?_
    ·rfl
    ·rfl
   ·conv => whnf
    repeat ((first | (refine Or.inl ⟨⟨rfl, ?_⟩, ?_⟩; (focus (first | rfl | (simp; done) | (rw [toksC_length]; omega)))) | refine ⟨rfl, ?_⟩ | refine ⟨_, rfl, ?_⟩ | refine ⟨⟨rfl, rfl⟩, ?_⟩); conv => whnf)
    refine ⟨⟨rfl, rfl, by rw [ents_len, Nat.mul_comm], by show (f.es.length + 1) * 192 ≤ limB; simp only [limB]; omega⟩, ?_⟩
    conv => whnf
    repeat ((refine ⟨(⟨by kernel_rfl, by kernel_rfl, Nat.le_of_ble_eq_true (by kernel_rfl)⟩ : AV.ones _ = true ∧ _ ∧ _), ?_⟩); conv => whnf)
    refine Does.tidy [(4, .ptr 2 0), (9, .ptr 5 0)] [(2, zeroF), (3, c32 i []), (5, fdJ f 7 (f.es.length + 1)), (6, entC e), (7, rowsC entC f.es ++ entC e)] 8 83 rfl rfl rfl (by kernel_rfl) (by kernel_rfl) ?_
    refine wpc_sound (M := MFd) (PL := PLp9) (CU := noCut) TTok mixed _ _ _ ?_
    conv => whnf
    repeat ((first | refine ⟨(⟨by kernel_rfl, by kernel_rfl, Nat.le_of_ble_eq_true (by kernel_rfl)⟩ : AV.ones _ = true ∧ _ ∧ _), ?_⟩ | refine ⟨_, rfl, ?_⟩); conv => whnf)
    refine Does.tidy [(4, .ptr 2 0), (5, .int .i64 0)] [(2, fdJ f 7 (f.es.length + 1)), (3, c32 i []), (5, fdJ f 7 (f.es.length + 1)), (6, entC e), (7, rowsC entC f.es ++ entC e)] 8 83 rfl rfl rfl (by kernel_rfl) (by kernel_rfl) ?_
    refine wpc_sound (M := MFd) (PL := PLp9) (CU := noCut) TTok mixed _ _ _ ?_
    conv => whnf
    refine ⟨fdJ f 7 (f.es.length + 1), by kernel_rfl, ?_⟩
    conv => whnf
    refine fdO_int_dems (f := ⟨f.au, f.es ++ [e], false, f.pf⟩) (j := 7) (n := f.es.length + 1) (cs := rowsC entC f.es ++ entC e) (by show fdJ f 7 _ = fdJ _ 7 _; unfold fdJ; rw [hs]) (by simp) ?_ (by rw [rowsC_append]; simp only [rowsC, List.append_nil]) ?_
    ·rfl
    ·rfl
end
def pushF (f : Fd) (e : Ent) : Fd := if pushE f e = 0 then ⟨f.au, f.es ++ [e], f.shut, f.pf⟩ else fd0
set_option maxRecDepth 20000 in
theorem fpush_ok (f : Fd) (e : Ent) (hf : FdS f) (he : EntS e) : ACall Tryz.prog 29 [.agg (fdC f), .agg (entC e)] (.tuple [.agg (fdC (pushF f e)), .int .i64 (pushE f e)]) [] := by
 by_cases h : pushE f e = 0
 ·have k := (fpush_yes f e hf he h).roAll (by kernel_rfl)
  rw [h]
  unfold pushF
  rw [if_pos h]
  have r : roV (.tuple [.agg (fdO ⟨f.au, f.es ++ [e], f.shut, f.pf⟩), .int .i64 0]) = .tuple [.agg (fdC ⟨f.au, f.es ++ [e], f.shut, f.pf⟩), .int .i64 0] := by kernel_rfl
  rwa [r] at k
 ·unfold pushF
  rw [if_neg h]
  exact fpush_no f e hf he h
end
section
--KR
attribute [local irreducible] ifB fitP Does Weaker
def atF (f : Fd) (s : Int) : Ent × Int := if lookR f = false then (ent0, 1) else if s < 1 ∨ (f.es.length : Int) < s then (ent0, 10) else (f.es.getD (s - 1).toNat ent0, 0)
section
attribute [local irreducible] demsP
set_option maxRecDepth 20000 in
set_option maxHeartbeats 2000000 in
theorem fat_ok (f : Fd) (s : Int) (hf : FdS f) (hs : -9223372036854775808 ≤ s ∧ s < 9223372036854775808) : ACall Tryz.prog 41 [.agg (fdC f), .int .i64 s] (.tuple [.agg (entC (atF f s).1), .int .i64 (atF f s).2]) [] := by
 have h1 := fcheck_ok f hf
 unfold atF
 refine ACall.of_does TTok Tryz.func41 rfl Tryz.call41 rfl (wpc_sound (M := MFd) (PL := PL0) (CU := cutAt [100001, 100003, 100005, 100006, 99999]) TTok mixed _ _ _ ?_)
 conv => whnf
 repeat ((refine ⟨rfl, ?_⟩); conv => whnf)
 refine Does.freeze 0 rfl (Does.tidy [(1, .int .i64 s), (2, .rop (fdC f)), (4, .ptr 1 0)] [(1, zeroE)] 2 32 rfl rfl rfl (by kernel_rfl) (by kernel_rfl) ?_)
 refine wpc_sound (M := MFd) (PL := PL0) (CU := noCut) TTok mixed _ _ _ ?_
 cases hl : lookR f <;> rw [hl] at h1
 ·rw [if_pos rfl]
  conv => whnf
  repeat ((refine ⟨_, rfl, ?_⟩); conv => whnf)
  refine ⟨(show pureL _ = true from fdC_pure f), ?_⟩
  conv => whnf
  repeat ((refine ⟨rfl, ?_⟩); conv => whnf)
  refine ⟨_, _, h1, by first | rfl | simp [noRoIf, noRoL, noRoV, noRoL_bys], ?_⟩
  conv => whnf
  repeat ((refine ifB_t ?_); conv => whnf)
  refine Does.tidy [(4, .ptr 1 0), (6, .int .i64 1)] [(1, zeroE)] 2 32 rfl rfl rfl (by kernel_rfl) (by kernel_rfl) ?_
  refine wpc_sound (M := MFd) (PL := PL0) (CU := noCut) TTok mixed _ _ _ ?_
  conv => whnf
  repeat ((refine ⟨(⟨by kernel_rfl, by kernel_rfl, Nat.le_of_ble_eq_true (by kernel_rfl)⟩ : AV.ones _ = true ∧ _ ∧ _), ?_⟩); conv => whnf)
  refine Does.tidy [(4, .ptr 1 0), (5, .int .i64 1)] [(1, zeroE)] 2 32 rfl rfl rfl (by kernel_rfl) (by kernel_rfl) ?_
  refine wpc_sound (M := MFd) (PL := PL0) (CU := noCut) TTok mixed _ _ _ ?_
  conv => whnf
  refine ⟨zeroE, by kernel_rfl, ?_⟩
  conv => whnf
  refine ent0_int_dems (by kernel_rfl) ?_
  rfl
 rw [if_neg (by decide)]
 conv => whnf
 repeat ((refine ⟨_, rfl, ?_⟩); conv => whnf)
 refine ⟨(show pureL _ = true from fdC_pure f), ?_⟩
 conv => whnf
 repeat ((refine ⟨rfl, ?_⟩); conv => whnf)
 refine ⟨_, _, h1, by first | rfl | simp [noRoIf, noRoL, noRoV, noRoL_bys], ?_⟩
 conv => whnf
 repeat ((refine ifB_f ?_); conv => whnf)
 by_cases c1 : s < 1
 ·rw [if_pos (show s < 1 ∨ (f.es.length : Int) < s from .inl c1)]
  conv => whnf
  repeat ((first | refine ifB_t ?_ | (refine ifB_pos (decide_eq_true (by first | omega | rfl | (dsimp only; omega))) ?_)); conv => whnf)
  refine Does.tidy [(4, .ptr 1 0), (6, .int .i64 0)] [(1, zeroE)] 2 32 rfl rfl rfl (by kernel_rfl) (by kernel_rfl) ?_
  refine wpc_sound (M := MFd) (PL := PL0) (CU := noCut) TTok mixed _ _ _ ?_
  conv => whnf
  repeat ((refine ⟨(⟨by kernel_rfl, by kernel_rfl, Nat.le_of_ble_eq_true (by kernel_rfl)⟩ : AV.ones _ = true ∧ _ ∧ _), ?_⟩); conv => whnf)
  refine Does.tidy [(4, .ptr 1 0), (5, .int .i64 10)] [(1, zeroE)] 2 32 rfl rfl rfl (by kernel_rfl) (by kernel_rfl) ?_
  refine wpc_sound (M := MFd) (PL := PL0) (CU := noCut) TTok mixed _ _ _ ?_
  conv => whnf
  refine ⟨zeroE, by kernel_rfl, ?_⟩
  conv => whnf
  refine ent0_int_dems (by kernel_rfl) ?_
  rfl
 by_cases c2 : (f.es.length : Int) < s
 ·rw [if_pos (show s < 1 ∨ (f.es.length : Int) < s from .inr c2)]
  conv => whnf
  repeat ((first | refine ifB_f ?_ | (refine ifB_neg (decide_eq_false (by first | omega | rfl | (dsimp only; omega))) ?_) | (refine ifB_pos (decide_eq_true (by first | omega | rfl | (dsimp only; omega))) ?_) | refine ⟨_, rfl, ?_⟩); conv => whnf)
  refine Does.tidy [(4, .ptr 1 0), (6, .int .i64 0)] [(1, zeroE)] 2 32 rfl rfl rfl (by kernel_rfl) (by kernel_rfl) ?_
  refine wpc_sound (M := MFd) (PL := PL0) (CU := noCut) TTok mixed _ _ _ ?_
  conv => whnf
  repeat ((refine ⟨(⟨by kernel_rfl, by kernel_rfl, Nat.le_of_ble_eq_true (by kernel_rfl)⟩ : AV.ones _ = true ∧ _ ∧ _), ?_⟩); conv => whnf)
  refine Does.tidy [(4, .ptr 1 0), (5, .int .i64 10)] [(1, zeroE)] 2 32 rfl rfl rfl (by kernel_rfl) (by kernel_rfl) ?_
  refine wpc_sound (M := MFd) (PL := PL0) (CU := noCut) TTok mixed _ _ _ ?_
  conv => whnf
  refine ⟨zeroE, by kernel_rfl, ?_⟩
  conv => whnf
  refine ent0_int_dems (by kernel_rfl) ?_
  rfl
 rw [if_neg (show ¬ (s < 1 ∨ (f.es.length : Int) < s) from by omega)]
 obtain ⟨k, rfl⟩ : ∃ k : Nat, s = (k : Int) + 1 := ⟨(s - 1).toNat, by omega⟩
 have hk : k < f.es.length := by omega
 have hge : f.es.getD ((k : Int) + 1 - 1).toNat ent0 = f.es[k] := by rw [show ((k : Int) + 1 - 1).toNat = k by omega, List.getD_eq_getElem?_getD, List.getElem?_eq_getElem hk]; rfl
 rw [hge]
 have ht := etwin_ok f.es[k] (hf.es _ (List.getElem_mem hk))
 conv => whnf
 repeat ((first | refine ifB_f ?_ | (refine ifB_neg (decide_eq_false (by first | omega | rfl | (dsimp only; omega))) ?_) | refine ⟨_, rfl, ?_⟩); conv => whnf)
 refine wpc_sound (M := MFd) (PL := PL0) (CU := noCut) TTok mixed _ _ _ ?_
 conv => whnf
 repeat ((first | (refine fit_i64 ⟨by first | omega | rfl | (dsimp only; omega), by first | omega | rfl | (dsimp only; omega)⟩ ?_) | refine ⟨_, rfl, ?_⟩ | (refine ⟨⟨?_, ?_, ?_⟩, ?_⟩; (focus omega); (focus (first | omega | (simp; done) | (simp; omega))); (focus (first | (rw [prfs_len]; simp; omega) | (rw [ents_len]; simp; omega) | (rw [hds_len]; simp; omega) | (rw [lets_len]; simp; omega))))); conv => whnf)
 refine ⟨_, takeN_row entC_length (j := k) hk (by simp; omega) rfl, ?_⟩
 conv => whnf
 repeat ((first | refine ⟨entC_pure _, ?_⟩ | refine ⟨rfl, ?_⟩); conv => whnf)
 generalize f.es[k] = e at ht ⊢
 refine ⟨_, _, ht, by first | rfl | simp [noRoIf, noRoL, noRoV, noRoL_bys], ?_⟩
 conv => whnf
 repeat ((refine ⟨(⟨by kernel_rfl, by kernel_rfl, Nat.le_of_ble_eq_true (by kernel_rfl)⟩ : AV.ones _ = true ∧ _ ∧ _), ?_⟩); conv => whnf)
 refine Does.tidy [(4, .ptr 1 0), (5, .int .i64 0)] [(1, entC e)] 2 32 rfl rfl rfl (by kernel_rfl) (by kernel_rfl) ?_
 refine wpc_sound (M := MFd) (PL := PL0) (CU := noCut) TTok mixed _ _ _ ?_
 conv => whnf
 refine ⟨entC e, by kernel_rfl, ?_⟩
 conv => whnf
 refine ent_int_dems (by kernel_rfl) ?_
 rfl
end
end
section

theorem folGo_nil (au : List Int) (i : Nat) (w : List Int) : folGo au i w [] = (w, true) := rfl
theorem folGo_app (au : List Int) : ∀ (l r : List Ent) (i : Nat) (w : List Int), (folGo au i w l).2 = true → folGo au i w (l ++ r) = folGo au (i + l.length) (folGo au i w l).1 r
 | [], r, i, w, h => rfl
 | x :: l, r, i, w, h => by
  rw [folGo] at h
  rw [List.cons_append, folGo, folGo]
  split
  ·rename_i ho
   rw [if_pos ho] at h
   rw [folGo_app au l r (i + 1) _ h, List.length_cons, show i + 1 + l.length = i + (l.length + 1) by omega]
  ·rename_i ho
   rw [if_neg ho] at h
   cases h
theorem folGo_pre (au : List Int) : ∀ (l r : List Ent) (i : Nat) (w : List Int), (folGo au i w (l ++ r)).2 = true → (folGo au i w l).2 = true
 | [], r, i, w, h => rfl
 | x :: l, r, i, w, h => by
  rw [List.cons_append, folGo] at h
  rw [folGo]
  split
  ·rename_i ho
   rw [if_pos ho] at h
   exact folGo_pre au l r _ _ h
  ·rename_i ho
   rw [if_neg ho] at h
   cases h
theorem push_ok {f : Fd} {e : Ent} (h : pushE f e = 0) : lookR f = true ∧ f.shut = false ∧ okE f.au f.es.length (folL f.au f.es).1 e = true ∧ f.es.length < 200 := by
 unfold pushE at h
 cases hl : lookR f <;> rw [hl] at h
 ·rw [if_pos rfl] at h; cases h
 rw [if_neg (by decide)] at h
 cases hr : entR e <;> rw [hr] at h
 ·rw [if_pos rfl] at h; cases h
 rw [if_neg (by decide)] at h
 by_cases c1 : e.au = f.au
 case neg => rw [if_pos c1] at h; cases h
 rw [if_neg (fun k => k c1)] at h
 cases hs : f.shut <;> rw [hs] at h
 case true => rw [if_pos rfl] at h; cases h
 rw [if_neg (by decide)] at h
 by_cases c2 : e.seq ≤ f.es.length
 ·rw [if_pos c2] at h
  split at h <;> cases h
 rw [if_neg c2] at h
 by_cases c3 : e.seq > (f.es.length : Int) + 1
 ·rw [if_pos c3] at h; cases h
 rw [if_neg c3] at h
 by_cases c4 : e.prev = (folL f.au f.es).1
 case neg => rw [if_pos c4] at h; cases h
 have hq := (entR_facts hr).1
 refine ⟨rfl, rfl, ?_, by omega⟩
 unfold okE
 rw [hr, dt c1, dt c4, dt (show e.seq = (f.es.length : Int) + 1 by omega)]
 rfl
theorem push_fol {f : Fd} {e : Ent} (h : pushE f e = 0) : folL f.au (f.es ++ [e]) = (shaL (entB e).1, true) := by
 obtain ⟨h1, _, h3, h4⟩ := push_ok h
 have hf := look_fol h1
 have hF : folL f.au f.es = folGo f.au 0 z32 f.es := by unfold folL; rw [if_neg (by omega)]
 rw [hF] at h3
 unfold folL
 rw [if_neg (by simp; omega), folGo_app f.au f.es [e] 0 z32 hf, Nat.zero_add, folGo, if_pos h3]
 rfl
theorem push_look {f : Fd} {e : Ent} (h : pushE f e = 0) : lookR ⟨f.au, f.es ++ [e], f.shut, f.pf⟩ = true := by
 have hF := push_fol h
 obtain ⟨h1, h2, _, _⟩ := push_ok h
 unfold lookR at h1 ⊢
 dsimp only
 rw [hF, h2]
 rw [h2, if_neg (by decide), Bool.and_eq_true] at h1
 rw [if_neg (by decide), h1.2]
 rfl
theorem push_twice {f : Fd} {e : Ent} (h : pushE f e = 0) : pushE ⟨f.au, f.es ++ [e], f.shut, f.pf⟩ e = 11 := by
 have hl := push_look h
 obtain ⟨_, h2, h3, h4⟩ := push_ok h
 unfold okE at h3
 simp only [Bool.and_eq_true, decide_eq_true_eq] at h3
 obtain ⟨⟨⟨k1, k2⟩, k3⟩, k4⟩ := h3
 unfold pushE
 dsimp only
 rw [hl, if_neg (by decide), k1, if_neg (by decide), if_neg (fun k => k k2), h2, if_neg (by decide), if_pos (by rw [List.length_append, List.length_singleton]; omega), if_pos]
 rw [show (e.seq - 1).toNat = f.es.length by omega]
 simp
theorem look_take {f : Fd} (h : lookR f = true) (k : Nat) : lookR ⟨f.au, f.es.take k, f.shut, f.pf⟩ = true := by
 have hl := look_len h
 have hf := look_fol h
 have hk : (folGo f.au 0 z32 (f.es.take k)).2 = true := folGo_pre f.au (f.es.take k) (f.es.drop k) 0 z32 (by rw [List.take_append_drop]; exact hf)
 unfold lookR at h ⊢
 dsimp only
 rw [Bool.and_eq_true] at h
 rw [h.2, Bool.and_true]
 unfold folL
 rw [if_neg (by simp; omega)]
 exact hk
theorem fol_last {f : Fd} (h : lookR f = true) (k : Nat) (hk : k < f.es.length) : (folL f.au (f.es.take (k + 1))).1 = shaL (entB f.es[k]).1 := by
 have hl := look_len h
 have hf := look_fol h
 have h1 : (folGo f.au 0 z32 (f.es.take k)).2 = true := folGo_pre f.au (f.es.take k) (f.es.drop k) 0 z32 (by rw [List.take_append_drop]; exact hf)
 have h2 : (folGo f.au 0 z32 (f.es.take (k + 1))).2 = true := folGo_pre f.au (f.es.take (k + 1)) (f.es.drop (k + 1)) 0 z32 (by rw [List.take_append_drop]; exact hf)
 unfold folL
 rw [if_neg (by simp; omega)]
 rw [List.take_succ_eq_append_getElem hk] at h2 ⊢
 rw [folGo_app _ _ _ _ _ h1, folGo] at h2 ⊢
 split at h2
 ·rename_i ho
  rw [if_pos ho, folGo_nil]
 ·cases h2
end
section
--KR
attribute [local irreducible] ifB fitP Does Weaker
def wkF (au : List Int) : Fd := ⟨au, [], false, prf0⟩
def wk2 (i : List Int) : Ent := ⟨z32, 2, i, 0, 2, [108], [], z64⟩
theorem wkF_les {o : Nat → Option Nat} (au : List Int) : lesP o (fdC (wkF au)) (c32 au (.nil :: .bool false :: (zeroE ++ zeroE))) := by
 unfold fdC
 refine c32_les ⟨⟨rfl, rfl⟩, rfl, ?_⟩
 show lesP o (entC ent0 ++ entC ent0) (zeroE ++ zeroE)
 exact lesP_app'' (entV_les rfl) (entV_les rfl)
theorem push_wk {au : List Int} {e : Ent} {r : AV} (h : ACall Tryz.prog 29 [.agg (fdC (wkF au)), .agg (entC e)] r []) : ACall Tryz.prog 29 [.agg (c32 au (.nil :: .bool false :: (zeroE ++ zeroE))), .agg (entC e)] r [] :=
 h.les (by simp [pureL, pureV, c32_pure, entC_pure, pureL_app, zeroE, entV, c64_pure]) (by simp only [pureL, pureV, fdC_pure, entC_pure, Bool.and_self]) ⟨wkF_les au, entC_les e, trivial⟩
set_option maxRecDepth 20000 in
set_option maxHeartbeats 2000000 in
theorem wakes17_of (a b : Ent) (i j : List Int) (x y : Fd) (ha : EntS a) (h1 : ACall Tryz.prog 51 [.int .i64 2, .agg (c32 wkS []), .agg (entV wkE .nil)] (.tuple [.agg (entC a), .int .i64 0]) [])
  (h2 : ACall Tryz.prog 21 [.agg (entC a)] (.tuple [.agg (c32 i []), .int .i64 0]) []) (h3 : ACall Tryz.prog 51 [.int .i64 2, .agg (c32 wkS []), .agg (entV (wk2 i) .nil)] (.tuple [.agg (entC b), .int .i64 0]) [])
  (h4 : ACall Tryz.prog 29 [.agg (c32 a.au (.nil :: .bool false :: (zeroE ++ zeroE))), .agg (entC a)] (.tuple [.agg (fdC x), .int .i64 0]) [])
  (h5 : ACall Tryz.prog 29 [.agg (c32 a.au (.nil :: .bool false :: (zeroE ++ zeroE))), .agg (entC b)] (.tuple [.agg (fdC fd0), .int .i64 13]) [])
  (h6 : ACall Tryz.prog 29 [.agg (fdC x), .agg (entC b)] (.tuple [.agg (fdC y), .int .i64 0]) [])
  (h7 : ACall Tryz.prog 40 [.agg (fdC y)] (.tuple [.int .i64 2, .agg (c32 j []), .int .i64 0]) [])
  (h8 : ACall Tryz.prog 31 [.agg (fdC y)] (.int .i64 0) []) : ACall Tryz.prog 33 [] (.bool true) [] := by
 refine ACall.of_does TTok Tryz.func33 rfl Tryz.call33 rfl (wpc_sound (M := MFd) (PL := PL0) (CU := cutAt [100002, 100003, 100004, 100005, 100006, 100007, 100008]) TTok mixed _ _ _ ?_)
 conv => whnf
 repeat ((first | refine ⟨rfl, ?_⟩ | refine ⟨⟨rfl, rfl⟩, ?_⟩); conv => whnf)
 refine ⟨_, _, h1, by first | rfl | simp [noRoIf, noRoL, noRoV, noRoL_bys], ?_⟩
 conv => whnf
 repeat ((first | refine ⟨(⟨by kernel_rfl, by kernel_rfl, Nat.le_of_ble_eq_true (by kernel_rfl)⟩ : AV.ones _ = true ∧ _ ∧ _), ?_⟩ | refine ⟨rfl, ?_⟩); conv => whnf)
 refine Does.freeze 0 (zs := entC a) (by kernel_rfl) (Does.tidy [(1, .rop (entC a)), (2, .int .i64 0)] [] 1 99 rfl rfl rfl (by kernel_rfl) (by kernel_rfl) ?_)
 refine wpc_sound (M := MFd) (PL := PL0) (CU := noCut) TTok mixed _ _ _ ?_
 conv => whnf
 repeat ((first | refine ⟨entC_pure _, ?_⟩ | refine ⟨rfl, ?_⟩ | refine ⟨_, rfl, ?_⟩); conv => whnf)
 refine ⟨_, _, h2, by first | rfl | simp [noRoIf, noRoL, noRoV, noRoL_bys], ?_⟩
 conv => whnf
 repeat ((first | refine ⟨(⟨by kernel_rfl, by kernel_rfl, Nat.le_of_ble_eq_true (by kernel_rfl)⟩ : AV.ones _ = true ∧ _ ∧ _), ?_⟩ | refine ⟨rfl, ?_⟩); conv => whnf)
 refine Does.freeze 1 (zs := c32 i []) (by kernel_rfl) (Does.tidy [(1, .rop (entC a)), (2, .int .i64 0), (3, .rop (c32 i [])), (4, .int .i64 0)] [] 2 99 rfl rfl rfl (by kernel_rfl) (by kernel_rfl) ?_)
 refine wpc_sound (M := MFd) (PL := PL0) (CU := noCut) TTok mixed _ _ _ ?_
 conv => whnf
 repeat ((first | refine ⟨rfl, ?_⟩ | refine ⟨_, rfl, ?_⟩ | refine ⟨⟨rfl, rfl⟩, ?_⟩); conv => whnf)
 refine ⟨_, _, h3, by first | rfl | simp [noRoIf, noRoL, noRoV, noRoL_bys], ?_⟩
 conv => whnf
 repeat ((first | refine ⟨(⟨by kernel_rfl, by kernel_rfl, Nat.le_of_ble_eq_true (by kernel_rfl)⟩ : AV.ones _ = true ∧ _ ∧ _), ?_⟩ | refine ⟨rfl, ?_⟩); conv => whnf)
 refine Does.freeze 2 (zs := entC b) (by kernel_rfl) (Does.tidy [(1, .rop (entC a)), (2, .int .i64 0), (3, .rop (c32 i [])), (4, .int .i64 0), (5, .rop (entC b)), (6, .int .i64 0)] [] 3 99 rfl rfl rfl (by kernel_rfl) (by kernel_rfl) ?_)
 refine wpc_sound (M := MFd) (PL := PL0) (CU := noCut) TTok mixed _ _ _ ?_
 conv => whnf
 repeat ((first | refine ⟨entC_pure _, ?_⟩ | refine ⟨rfl, ?_⟩ | refine ⟨_, rfl, ?_⟩ | refine ⟨⟨rfl, rfl⟩, ?_⟩); conv => whnf)
 refine ⟨_, _, h4, by first | rfl | simp [noRoIf, noRoL, noRoV, noRoL_bys], ?_⟩
 conv => whnf
 repeat ((first | refine ⟨(⟨by kernel_rfl, by kernel_rfl, Nat.le_of_ble_eq_true (by kernel_rfl)⟩ : AV.ones _ = true ∧ _ ∧ _), ?_⟩ | refine ⟨rfl, ?_⟩); conv => whnf)
 refine Does.freeze 3 (zs := fdC x) (by kernel_rfl) (Does.tidy [(1, .rop (entC a)), (2, .int .i64 0), (3, .rop (c32 i [])), (4, .int .i64 0), (5, .rop (entC b)), (6, .int .i64 0), (7, .rop (fdC x)), (8, .int .i64 0)] [] 4 99 rfl rfl rfl (by kernel_rfl) (by kernel_rfl) ?_)
 refine wpc_sound (M := MFd) (PL := PL0) (CU := noCut) TTok mixed _ _ _ ?_
 conv => whnf
 repeat ((first | refine ⟨entC_pure _, ?_⟩ | refine ⟨rfl, ?_⟩ | refine ⟨_, rfl, ?_⟩ | refine ⟨⟨rfl, rfl⟩, ?_⟩); conv => whnf)
 refine ⟨_, _, h5, by first | rfl | simp [noRoIf, noRoL, noRoV, noRoL_bys], ?_⟩
 conv => whnf
 repeat ((first | refine ⟨(⟨by kernel_rfl, by kernel_rfl, Nat.le_of_ble_eq_true (by kernel_rfl)⟩ : AV.ones _ = true ∧ _ ∧ _), ?_⟩ | refine ⟨rfl, ?_⟩); conv => whnf)
 refine Does.tidy [(1, .rop (entC a)), (2, .int .i64 0), (3, .rop (c32 i [])), (4, .int .i64 0), (5, .rop (entC b)), (6, .int .i64 0), (7, .rop (fdC x)), (8, .int .i64 0), (10, .int .i64 13)] [(4, fdC fd0)] 5 99 rfl rfl rfl (by kernel_rfl) (by kernel_rfl) ?_
 refine wpc_sound (M := MFd) (PL := PL0) (CU := noCut) TTok mixed _ _ _ ?_
 conv => whnf
 repeat ((refine ⟨_, rfl, ?_⟩); conv => whnf)
 refine ⟨(show pureL _ = true from fdC_pure x), ?_⟩
 conv => whnf
 repeat ((first | refine ⟨entC_pure _, ?_⟩ | refine ⟨rfl, ?_⟩); conv => whnf)
 refine ⟨_, _, h6, by first | rfl | simp [noRoIf, noRoL, noRoV, noRoL_bys], ?_⟩
 conv => whnf
 repeat ((first | refine ⟨(⟨by kernel_rfl, by kernel_rfl, Nat.le_of_ble_eq_true (by kernel_rfl)⟩ : AV.ones _ = true ∧ _ ∧ _), ?_⟩ | refine ⟨rfl, ?_⟩); conv => whnf)
 refine Does.freeze 5 (zs := fdC y) (by kernel_rfl) (Does.tidy [(1, .rop (entC a)), (2, .int .i64 0), (3, .rop (c32 i [])), (4, .int .i64 0), (5, .rop (entC b)), (6, .int .i64 0), (8, .int .i64 0), (10, .int .i64 13), (11, .rop (fdC y)), (12, .int .i64 0)] [(4, fdC fd0)] 6 99 rfl rfl rfl (by kernel_rfl) (by kernel_rfl) ?_)
 refine wpc_sound (M := MFd) (PL := PL0) (CU := noCut) TTok mixed _ _ _ ?_
 conv => whnf
 repeat ((refine ⟨_, rfl, ?_⟩); conv => whnf)
 refine ⟨(show pureL _ = true from fdC_pure y), ?_⟩
 conv => whnf
 repeat ((refine ⟨rfl, ?_⟩); conv => whnf)
 refine ⟨_, _, h7, by first | rfl | simp [noRoIf, noRoL, noRoV, noRoL_bys], ?_⟩
 conv => whnf
 repeat ((first | refine ⟨(⟨by kernel_rfl, by kernel_rfl, Nat.le_of_ble_eq_true (by kernel_rfl)⟩ : AV.ones _ = true ∧ _ ∧ _), ?_⟩ | refine ⟨rfl, ?_⟩); conv => whnf)
 refine Does.tidy [(1, .rop (entC a)), (2, .int .i64 0), (3, .rop (c32 i [])), (4, .int .i64 0), (5, .rop (entC b)), (6, .int .i64 0), (8, .int .i64 0), (10, .int .i64 13), (11, .rop (fdC y)), (12, .int .i64 0), (13, .int .i64 2), (15, .int .i64 0)] [(4, fdC fd0), (6, c32 j [])] 7 99 rfl rfl rfl (by kernel_rfl) (by kernel_rfl) ?_
 refine wpc_sound (M := MFd) (PL := PL0) (CU := noCut) TTok mixed _ _ _ ?_
 conv => whnf
 repeat ((first | refine ifB_t ?_ | refine ⟨_, rfl, ?_⟩); conv => whnf)
 refine ⟨(show pureL _ = true from fdC_pure y), ?_⟩
 conv => whnf
 repeat ((refine ⟨rfl, ?_⟩); conv => whnf)
 refine ⟨_, _, h8, by first | rfl | simp [noRoIf, noRoL, noRoV, noRoL_bys], ?_⟩
 conv => whnf
 repeat ((first | refine ifB_t ?_ | refine ⟨rfl, ?_⟩); conv => whnf)
 rfl
theorem wk2_R (i : List Int) : entR (wk2 i) = true := by
 unfold entR opR wk2
 rfl
theorem wk2_S {i : List Int} (hi : Byt i ∧ i.length = 32) : EntS (wk2 i) where
 au := wkE_S.au
 seq := by simp [wk2]
 prev := hi
 stamp := by simp [wk2]
 kind := by simp [wk2]
 key := by simp [wk2, Byt]
 val := by simp [wk2, Byt]
 sig := wkE_S.sig
 key' := by simp [wk2]
 val' := by simp [wk2]
theorem wkF_S {au : List Int} (h : Byt au ∧ au.length = 32) : FdS (wkF au) := { au := h, es := fun e he => absurd he (List.not_mem_nil), pf := ⟨ent0_S2, ent0_S2⟩, el := by simp [wkF] }
theorem wkF_look (au : List Int) : lookR (wkF au) = true := rfl
theorem push_S {f : Fd} {e : Ent} (hf : FdS f) (he : EntS e) (hl : f.es.length ≤ 1000) : FdS ⟨f.au, f.es ++ [e], f.shut, f.pf⟩ := by
 refine ⟨hf.au, fun x hx => ?_, hf.pf, by simp; omega⟩
 rcases List.mem_append.1 hx with k | k
 ·exact hf.es x k
 ·rw [List.mem_singleton] at k; subst k; exact he
theorem wakes17_ok : ACall Tryz.prog 33 [] (.bool true) [] := by
 have h1 := wake_sign rfl (esign_ok wkS wkE wkS_byt rfl wkE_S wkE_R)
 have hS := signE_S wkS wkE_S
 have hR : entR (signE wkS wkE) = true := (signE_R _ _).trans wkE_R
 have hau : (signE wkS wkE).au = shaL (1 :: wkS) := signE_au _ _
 have hsq : (signE wkS wkE).seq = 1 := signE_seq _ _
 have hpv : (signE wkS wkE).prev = z32 := rfl
 generalize signE wkS wkE = a at *
 have h2 := eid_ok a hS
 rw [show idE a = (shaL (entB a).1, 0) by unfold idE; rw [hR]; rfl] at h2
 have hi : Byt (shaL (entB a).1) ∧ (shaL (entB a).1).length = 32 := ⟨shaL_byt _, shaL_len _⟩
 have p1 : pushE (wkF a.au) a = 0 := by
  unfold pushE
  rw [wkF_look, if_neg (by decide), hR, if_neg (by decide), if_neg (fun k => k rfl), if_neg (by simp [wkF]), hsq, if_neg (by simp [wkF]), if_neg (by simp [wkF]), hpv, if_neg (fun k => k rfl)]
 have hf1 := push_fol p1
 generalize shaL (entB a).1 = i at *
 have h3 := wake_sign rfl (esign_ok wkS (wk2 i) wkS_byt rfl (wk2_S hi) (wk2_R i))
 have bS := signE_S wkS (wk2_S hi)
 have bR : entR (signE wkS (wk2 i)) = true := (signE_R _ _).trans (wk2_R i)
 have bau : (signE wkS (wk2 i)).au = shaL (1 :: wkS) := signE_au _ _
 have bsq : (signE wkS (wk2 i)).seq = 2 := signE_seq _ _
 have bpv : (signE wkS (wk2 i)).prev = i := rfl
 generalize signE wkS (wk2 i) = b at *
 have hab : b.au = a.au := by rw [bau, hau]
 have p2 : pushE (wkF a.au) b = 13 := by
  unfold pushE
  rw [wkF_look, if_neg (by decide), bR, if_neg (by decide), if_neg (fun k => k hab), if_neg (by simp [wkF]), bsq, if_neg (by simp [wkF]), if_pos (by simp [wkF])]
 have l1 := push_look p1
 have p3 : pushE ⟨a.au, [a], false, prf0⟩ b = 0 := by
  unfold pushE
  rw [show lookR ⟨a.au, [a], false, prf0⟩ = true from l1, if_neg (by decide), bR, if_neg (by decide), if_neg (fun k => k hab), if_neg (by simp), bsq, if_neg (by simp), if_neg (by simp), bpv, show (folL a.au [a]).1 = i from congrArg Prod.fst hf1, if_neg (fun k => k rfl)]
 have l2 := push_look p3
 have s0 := wkF_S hS.au
 have s1 : FdS ⟨a.au, [a], false, prf0⟩ := push_S s0 hS (by simp [wkF])
 have s2 : FdS ⟨a.au, [a, b], false, prf0⟩ := push_S s1 bS (by simp)
 have h4 := fpush_ok (wkF a.au) a s0 hS
 rw [p1, show pushF (wkF a.au) a = ⟨a.au, [a], false, prf0⟩ by unfold pushF; rw [if_pos p1]; rfl] at h4
 have h5 := fpush_ok (wkF a.au) b s0 bS
 rw [p2, show pushF (wkF a.au) b = fd0 by unfold pushF; rw [if_neg (by rw [p2]; decide)]] at h5
 have h6 := fpush_ok ⟨a.au, [a], false, prf0⟩ b s1 bS
 rw [p3, show pushF ⟨a.au, [a], false, prf0⟩ b = ⟨a.au, [a, b], false, prf0⟩ by unfold pushF; rw [if_pos p3]; rfl] at h6
 have h7 := flast_ok ⟨a.au, [a, b], false, prf0⟩ s2
 rw [show lookR ⟨a.au, [a, b], false, prf0⟩ = true from l2, if_pos rfl, if_pos rfl, if_pos rfl] at h7
 have h8 := fcheck_ok ⟨a.au, [a, b], false, prf0⟩ s2
 rw [show lookR ⟨a.au, [a, b], false, prf0⟩ = true from l2, if_pos rfl] at h8
 exact wakes17_of a b i _ _ _ hS h1 h2 h3 (push_wk h4) (push_wk h5) h6 h7 h8
end
section
--KR
attribute [local irreducible] ifB fitP Does Weaker
theorem int_c32_dems {H : Heap} {x : List Int} {m : Int} {zs : List AV} {K : List Nat → Prop} (hz : zs = c32 x []) (h : K []) : demsP H [.tuple [.int .i64 m, .agg (c32 x [])]] [.tuple [.int .i64 m, .agg zs]] K := by
 subst hz
 simp only [demsP, demP, and_self, true_and]
 refine c32_dems ?_
 simpa only [demsP, and_self, true_and, List.nil_append] using h
section
attribute [local irreducible] demsP
set_option maxRecDepth 20000 in
set_option maxHeartbeats 1000000 in
theorem rlast_ok (f : Fd) (hf : FdS f) (hl : lookR f = true) : ACall Tryz.prog 36 [.agg (fdC f)] (.tuple [.int .i64 f.es.length, .agg (c32 (folL f.au f.es).1 [])]) [] := by
 have hfR := fol_R (w := z32) (show (folGo f.au 0 z32 f.es).2 = true from look_fol hl)
 have hlen := look_len hl
 refine ACall.of_does TTok Tryz.func36 rfl Tryz.call36 rfl (wpc_sound (M := MFd) (PL := PL0) (CU := cutAt [100001, 100002, 100003, 99999]) TTok mixed _ _ _ ?_)
 conv => whnf
 repeat ((refine ⟨rfl, ?_⟩); conv => whnf)
 refine Does.freeze 0 rfl (Does.tidy [(1, .rop (fdC f)), (2, .int .i64 0), (3, .ptr 1 0)] [(1, c32 z32 [])] 2 21 rfl rfl rfl (by kernel_rfl) (by kernel_rfl) ?_)
 refine wpc_sound (M := MFd) (PL := PL0) (CU := cutAt [100002, 100003, 99999]) TTok mixed _ _ _ ?_
 by_cases c0 : f.es.length = 0
 ·have h0 : f.es = [] := List.length_eq_zero_iff.1 c0
  rw [show (folL f.au f.es).1 = z32 by rw [h0]; rfl]
  conv => whnf
  repeat ((first | (refine ifB_pos (decide_eq_true (by first | omega | rfl | (dsimp only; omega))) ?_) | refine ⟨_, rfl, ?_⟩); conv => whnf)
  refine wpc_sound (M := MFd) (PL := PL0) (CU := noCut) TTok mixed _ _ _ ?_
  conv => whnf
  repeat ((refine ⟨(⟨by kernel_rfl, by kernel_rfl, Nat.le_of_ble_eq_true (by kernel_rfl)⟩ : AV.ones _ = true ∧ _ ∧ _), ?_⟩); conv => whnf)
  refine Does.tidy [(2, .int .i64 0), (3, .ptr 1 0)] [(1, c32 z32 [])] 2 21 rfl rfl rfl (by kernel_rfl) (by kernel_rfl) ?_
  refine wpc_sound (M := MFd) (PL := PL0) (CU := noCut) TTok mixed _ _ _ ?_
  conv => whnf
  refine ⟨c32 z32 [], by kernel_rfl, ?_⟩
  conv => whnf
  rw [c0]
  refine int_c32_dems (by kernel_rfl) ?_
  rfl
 have hk : f.es.length - 1 < f.es.length := by omega
 have hw : (folL f.au f.es).1 = shaL (entB f.es[f.es.length - 1]).1 := by
  have := fol_last hl (f.es.length - 1) hk
  rwa [show f.es.length - 1 + 1 = f.es.length by omega, List.take_length] at this
 have hid := refid_ok f.es[f.es.length - 1] (hf.es _ (List.getElem_mem hk)) (hfR _ (List.getElem_mem hk))
 rw [hw]
 have ls := shaL_len (entB f.es[f.es.length - 1]).1
 generalize shaL (entB f.es[f.es.length - 1]).1 = i at hid ls ⊢
 conv => whnf
 repeat ((first | (refine ifB_neg (decide_eq_false (by first | omega | rfl | (dsimp only; omega))) ?_) | refine ⟨_, rfl, ?_⟩); conv => whnf)
 refine Does.quiet TTok mixed (M := MFd) [13] [1, 4, 6, 10] (takesTo [0, 1, 2, 3, 4, 5, 6, 7, 8, 9, 10] (.all [(11, (takesTo [12] (.all [(13, .done)])))])) (by kernel_rfl) ?_
 conv => whnf
 repeat ((first | (refine fit_i64 ⟨by first | omega | rfl | (dsimp only; omega), by first | omega | rfl | (dsimp only; omega)⟩ ?_) | refine ⟨_, rfl, ?_⟩ | (refine ⟨⟨?_, ?_, ?_⟩, ?_⟩; (focus omega); (focus (first | omega | (simp; done) | (simp; omega))); (focus (first | (rw [prfs_len]; simp; omega) | (rw [ents_len]; simp; omega) | (rw [hds_len]; simp; omega) | (rw [lets_len]; simp; omega))))); conv => whnf)
 refine ⟨_, takeN_row entC_length (j := f.es.length - 1) hk (by simp; omega) rfl, ?_⟩
 conv => whnf
 repeat ((first | refine ⟨entC_pure _, ?_⟩ | refine ⟨rfl, ?_⟩); conv => whnf)
 generalize f.es[f.es.length - 1] = e at hid ⊢
 refine ⟨_, _, hid, by first | rfl | simp [noRoIf, noRoL, noRoV, noRoL_bys], ?_⟩
 conv => whnf
 repeat ((refine ⟨(⟨by kernel_rfl, by kernel_rfl, Nat.le_of_ble_eq_true (by kernel_rfl)⟩ : AV.ones _ = true ∧ _ ∧ _), ?_⟩); conv => whnf)
 refine Does.tidy [(2, .int .i64 f.es.length), (3, .ptr 1 0)] [(1, c32 i [])] 2 21 rfl rfl rfl (by kernel_rfl) (by kernel_rfl) ?_
 refine wpc_sound (M := MFd) (PL := PL0) (CU := noCut) TTok mixed _ _ _ ?_
 conv => whnf
 refine ⟨c32 i [], by kernel_rfl, ?_⟩
 conv => whnf
 refine int_c32_dems (by kernel_rfl) ?_
 rfl
end
end
section

theorem rows_of_ty {α : Type} {n : Nat} {t : TypeId} {f : α → List AV} {ok : α → Prop} (H : ∀ y, TyL TT n t y → ∃ e : α, y = f e ∧ ok e) : ∀ es : List (List AV), (∀ y ∈ es, TyL TT n t y) → ∃ l : List α, es.flatten = rowsC f l ∧ l.length = es.length ∧ ∀ x ∈ l, ok x
 | [], _ => ⟨[], rfl, rfl, by simp⟩
 | y :: es, h => by
  obtain ⟨l, h1, h2, h3⟩ := rows_of_ty H es fun z hz => h z (by simp [hz])
  obtain ⟨e, rfl, k⟩ := H y (h y (by simp))
  refine ⟨e :: l, by simp [h1, rowsC], by simp [h2], fun x hx => ?_⟩
  rcases List.mem_cons.1 hx with rfl | hx
  ·exact k
  ·exact h3 x hx
structure FdO (f : Fd) : Prop where
 au : Byt f.au ∧ f.au.length = 32
 es : ∀ e ∈ f.es, EntOk e
 pf : PrfO f.pf
theorem fd_of_ty {n : Nat} {y : List AV} (h : TyL TT (n + 7) 54 y) : ∃ f : Fd, y = fdC f ∧ FdO f := by
 obtain ⟨ys, rfl, a, r, rfl, ha, b, r', rfl, ⟨es, rfl, _, he⟩, c, r2, rfl, ⟨sh, rfl⟩, d, r3, rfl, hp, rfl⟩ := h
 obtain ⟨au, rfl, u1, u2⟩ := arr32_of_ty ha
 obtain ⟨es', e1, e2, e3⟩ := rows_of_ty (fun y h => ent_of_ty h) es he
 obtain ⟨p, rfl, hpo⟩ := prf_of_ty hp
 refine ⟨⟨au, es', sh, p⟩, ?_, { au := ⟨u1, u2⟩, es := e3, pf := hpo }⟩
 unfold fdC
 rw [c32_eq u2]
 simp [e1, e2]
theorem fdS_of {f : Fd} (h : FdO f) (hv : heavyF f = false) : FdS f ∧ f.es.length ≤ 60 := by
 unfold heavyF at hv
 simp only [Bool.or_eq_false_iff, decide_eq_false_iff_not] at hv
 obtain ⟨⟨h1, h2⟩, h3⟩ := hv
 have hp := entS_of2 h.pf.1 h.pf.2 h3
 exact ⟨{ au := h.au, es := fun e he => ({ h.es e he with key' := by have := (heavyEs_no h2).2 e he; omega, val' := by have := (heavyEs_no h2).2 e he; omega } : EntS e), pf := ⟨hp.1, hp.2⟩, el := by omega }, by omega⟩
end
section
--KR
attribute [local irreducible] ifB fitP Does Weaker
theorem cutE_to (l : List Ent) (n : Nat) : cutB (rowsC entC l) none (some (n : Int)) 133 = rowsC entC (l.take n) := by
 show List.take ((n : Int).toNat * 133) (rowsC entC l) = _
 rw [Int.toNat_natCast, Nat.mul_comm, rowsC_take entC_length]
theorem mod_len1 (k : Int) (n : Nat) : ∃ c : Nat, (k % 18446744073709551616).tmod ((n : Int) + 1) = (c : Int) ∧ c ≤ n := by
 obtain ⟨c, h1, h2⟩ := mod_len k (n := n + 1) (by omega)
 exact ⟨c, by rw [← h1]; rfl, by omega⟩
def takeF (f : Fd) (k : Nat) : Fd := ⟨f.au, f.es.take k, f.shut, f.pf⟩
theorem takeF_S {f : Fd} (h : FdS f) (k : Nat) : FdS (takeF f k) := { au := h.au, es := fun e he => h.es e (List.mem_of_mem_take he), pf := h.pf, el := by have := h.el; simp [takeF]; omega }
set_option maxRecDepth 20000 in
set_option maxHeartbeats 4000000 in
theorem feedBeginnings_ok (f : Fd) (k : Int) (of : FdO f) (hk : -9223372036854775808 ≤ k ∧ k < 9223372036854775808) : ACall Tryz.prog 9 [.agg (fdC f), .int .i64 k] (.bool true) [] := by
 have v1 := heavy17_ok f
 refine ACall.of_does TTok Tryz.func9 rfl Tryz.call9 rfl (wpc_sound (M := MFd) (PL := PL0) (CU := cutAt [100001, 100003, 100004, 100005, 100006, 100007, 100009, 100011, 100012, 100013, 100014]) TTok mixed _ _ _ ?_)
 conv => whnf
 repeat ((refine ⟨rfl, ?_⟩); conv => whnf)
 refine Does.freeze 0 rfl (Does.tidy [(1, .int .i64 k), (2, .rop (fdC f))] [] 1 114 rfl rfl rfl (by kernel_rfl) (by kernel_rfl) ?_)
 refine wpc_sound (M := MFd) (PL := PL0) (CU := noCut) TTok mixed _ _ _ ?_
 conv => whnf
 repeat ((refine ⟨_, rfl, ?_⟩); conv => whnf)
 refine ⟨(show pureL _ = true from fdC_pure f), ?_⟩
 conv => whnf
 repeat ((refine ⟨rfl, ?_⟩); conv => whnf)
 cases hv : heavyF f <;> rw [hv] at v1
 case true =>
  refine ⟨_, _, v1, by first | rfl | simp [noRoIf, noRoL, noRoV, noRoL_bys], ?_⟩
  conv => whnf
  repeat ((first | refine ifB_t ?_ | refine ⟨rfl, ?_⟩); conv => whnf)
  rfl
 refine ⟨_, _, v1, by first | rfl | simp [noRoIf, noRoL, noRoV, noRoL_bys], ?_⟩
 conv => whnf
 repeat ((first | refine ifB_f ?_ | refine ⟨_, rfl, ?_⟩); conv => whnf)
 obtain ⟨hf, hl60⟩ := fdS_of of hv
 have rm := rfeed_ok f hf
 refine ⟨(show pureL _ = true from fdC_pure f), ?_⟩
 conv => whnf
 repeat ((refine ⟨rfl, ?_⟩); conv => whnf)
 cases hr : lookR f <;> rw [hr] at rm
 case false =>
  refine ⟨_, _, rm, by first | rfl | simp [noRoIf, noRoL, noRoV, noRoL_bys], ?_⟩
  conv => whnf
  repeat ((first | refine ifB_t ?_ | refine ifB_f ?_ | refine ⟨rfl, ?_⟩); conv => whnf)
  rfl
 refine ⟨_, _, rm, by first | rfl | simp [noRoIf, noRoL, noRoV, noRoL_bys], ?_⟩
 conv => whnf
 repeat ((refine ifB_f ?_); conv => whnf)
 have w64 : IntKind.u64.wrap k = k % 18446744073709551616 := wrap_u64 k
 obtain ⟨c, hc, hcl⟩ := mod_len1 k f.es.length
 have tf := ktwinf_ok f hf (by omega)
 clear v1 rm
 conv => whnf
 refine wpc_sound (M := MFd) (PL := PL0) (CU := noCut) TTok mixed _ _ _ ?_
 conv => whnf
 refine fit_wrap ?_
 rw [w64]
 conv => whnf
 repeat ((first | (refine fit_i64 ⟨by first | omega | rfl | (dsimp only; omega), by first | omega | rfl | (dsimp only; omega)⟩ ?_) | (refine fit_u64 ⟨by first | omega | rfl | (dsimp only; omega), by first | omega | rfl | (dsimp only; omega)⟩ ?_) | refine ⟨_, rfl, ?_⟩ | (refine And.intro (by first | omega | rfl | (dsimp only; omega)) ?_)); conv => whnf)
 rw [hc]
 conv => whnf
 refine Does.tidy [(1, .int .i64 c), (2, .rop (fdC f))] [] 1 114 rfl rfl rfl (by kernel_rfl) (by kernel_rfl) ?_
 refine wpc_sound (M := MFd) (PL := PL0) (CU := noCut) TTok mixed _ _ _ ?_
 conv => whnf
 repeat ((refine ⟨_, rfl, ?_⟩); conv => whnf)
 refine ⟨(show pureL _ = true from fdC_pure f), ?_⟩
 conv => whnf
 repeat ((refine ⟨rfl, ?_⟩); conv => whnf)
 refine ⟨_, _, tf, by first | rfl | simp [noRoIf, noRoL, noRoV, noRoL_bys], ?_⟩
 conv => whnf
 repeat ((first | refine ⟨(⟨by kernel_rfl, by kernel_rfl, Nat.le_of_ble_eq_true (by kernel_rfl)⟩ : AV.ones _ = true ∧ _ ∧ _), ?_⟩ | refine ⟨rfl, ?_⟩); conv => whnf)
 refine Does.tidy [(1, .int .i64 c), (2, .rop (fdC f)), (5, .ptr 1 0)] [(1, fdC f)] 2 114 rfl rfl rfl (by kernel_rfl) (by kernel_rfl) ?_
 refine wpc_sound (M := MFd) (PL := PL0) (CU := noCut) TTok mixed _ _ _ ?_
 conv => whnf
 repeat ((refine ⟨_, rfl, ?_⟩); conv => whnf)
 refine ⟨⟨by rw [ents_len, Nat.mul_comm], show (0 : Int) ≤ c ∧ (c : Int) ≤ f.es.length from ⟨by omega, by omega⟩⟩, ?_⟩
 conv => whnf
 repeat ((refine ⟨(⟨by kernel_rfl, by kernel_rfl, Nat.le_of_ble_eq_true (by kernel_rfl)⟩ : AV.ones _ = true ∧ _ ∧ _), ?_⟩); conv => whnf)
 refine Does.tidy [(1, .int .i64 c), (2, .rop (fdC f)), (5, .ptr 1 0)] [(1, c32 f.au (.ro c (cutB (rowsC entC f.es) none (some (c : Int)) 133) :: .bool f.shut :: prfC f.pf))] 2 114 rfl rfl rfl (by kernel_rfl) (by kernel_rfl) ?_
 rw [cutE_to, show c32 f.au (.ro c (rowsC entC (f.es.take c)) :: .bool f.shut :: prfC f.pf) = fdC (takeF f c) by unfold fdC takeF; rw [List.length_take, Nat.min_eq_left hcl]]
 refine Does.freeze 1 rfl (Does.tidy [(1, .int .i64 c), (2, .rop (fdC f)), (5, .rop (fdC (takeF f c)))] [] 2 114 rfl rfl rfl (by kernel_rfl) (by kernel_rfl) ?_)
 have hg := takeF_S hf c
 have lg : lookR (takeF f c) = true := look_take hr c
 have h1 := flast_ok (takeF f c) hg
 have h2 := fcheck_ok (takeF f c) hg
 have h3 := fat_ok (takeF f c) c hg (by omega)
 have h4 := fat_ok (takeF f c) (c + 1) hg (by omega)
 rw [lg, if_pos rfl] at h1 h2
 rw [if_pos rfl, if_pos rfl] at h1
 have gl : (takeF f c).es.length = c := by simp [takeF]; omega
 rw [gl] at h1
 refine wpc_sound (M := MFd) (PL := PL0) (CU := noCut) TTok mixed _ _ _ ?_
 conv => whnf
 repeat ((refine ⟨_, rfl, ?_⟩); conv => whnf)
 refine ⟨(show pureL _ = true from fdC_pure (takeF f c)), ?_⟩
 conv => whnf
 repeat ((refine ⟨rfl, ?_⟩); conv => whnf)
 refine ⟨_, _, h1, by first | rfl | simp [noRoIf, noRoL, noRoV, noRoL_bys], ?_⟩
 conv => whnf
 repeat ((first | refine ⟨(⟨by kernel_rfl, by kernel_rfl, Nat.le_of_ble_eq_true (by kernel_rfl)⟩ : AV.ones _ = true ∧ _ ∧ _), ?_⟩ | refine ⟨rfl, ?_⟩); conv => whnf)
 refine Does.freeze 2 (zs := c32 (folL (takeF f c).au (takeF f c).es).1 []) (by kernel_rfl) (Does.tidy [(1, .int .i64 c), (2, .rop (fdC f)), (5, .rop (fdC (takeF f c))), (6, .int .i64 c), (7, .rop (c32 (folL (takeF f c).au (takeF f c).es).1 [])), (8, .int .i64 0)] [] 3 114 rfl rfl rfl (by kernel_rfl) (by kernel_rfl) ?_)
 refine wpc_sound (M := MFd) (PL := PL0) (CU := noCut) TTok mixed _ _ _ ?_
 conv => whnf
 repeat ((refine ⟨_, rfl, ?_⟩); conv => whnf)
 refine ⟨(show pureL _ = true from fdC_pure (takeF f c)), ?_⟩
 conv => whnf
 repeat ((refine ⟨rfl, ?_⟩); conv => whnf)
 refine ⟨_, _, h2, by first | rfl | simp [noRoIf, noRoL, noRoV, noRoL_bys], ?_⟩
 conv => whnf
 repeat ((first | refine ifB_f ?_ | (refine ifB_neg (decide_eq_false (by first | omega | rfl | (dsimp only; omega))) ?_)); conv => whnf)
 refine wpc_sound (M := MFd) (PL := PL0) (CU := noCut) TTok mixed _ _ _ ?_
 have fl := fol_len hg
 have hw := wakes17_ok
 by_cases c0 : c = 0
 ·subst c0
  have fz : (folL (takeF f 0).au (takeF f 0).es).1 = z32 := rfl
  rw [fz] at fl ⊢
  conv => whnf
  repeat ((first | refine ifB_t ?_ | refine ⟨_, rfl, ?_⟩); conv => whnf)
  refine ⟨z32, z32, ⟨rfl, by kernel_rfl, by kernel_rfl, rfl, rfl⟩, ?_⟩
  rw [dt rfl]
  conv => whnf
  repeat ((first | refine ifB_t ?_ | refine ⟨rfl, ?_⟩); conv => whnf)
  refine ⟨_, _, hw, by first | rfl | simp [noRoIf, noRoL, noRoV, noRoL_bys], ?_⟩
  conv => whnf
  repeat ((first | refine ifB_t ?_ | refine ⟨rfl, ?_⟩); conv => whnf)
  rfl
 obtain ⟨j, rfl⟩ : ∃ j, c = j + 1 := ⟨c - 1, by omega⟩
 have hj : j < f.es.length := by omega
 have hw1 : (folL (takeF f (j + 1)).au (takeF f (j + 1)).es).1 = shaL (entB f.es[j]).1 := fol_last hr j hj
 have hm := List.getElem_mem hj
 have he := hf.es _ hm
 have her := fol_R (w := z32) (show (folGo f.au 0 z32 f.es).2 = true from look_fol hr) _ hm
 have a3 : atF (takeF f (j + 1)) ((j + 1 : Nat) : Int) = (f.es[j], 0) := by
  unfold atF
  rw [lg, gl, if_neg (by decide), if_neg (by omega), show (((j + 1 : Nat) : Int) - 1).toNat = j by omega, show (takeF f (j + 1)).es = f.es.take (j + 1) from rfl, List.getD_eq_getElem?_getD, List.getElem?_eq_getElem (by simp; omega)]
  simp
 have a4 : atF (takeF f (j + 1)) (((j + 1 : Nat) : Int) + 1) = (ent0, 10) := by
  unfold atF
  rw [lg, gl, if_neg (by decide), if_pos (by omega)]
 rw [a3] at h3
 rw [a4] at h4
 dsimp only at h3 h4
 have h5 := eid_ok f.es[j] he
 rw [show idE f.es[j] = (shaL (entB f.es[j]).1, 0) by unfold idE; rw [if_pos her]] at h5
 have h6 := kent_ok f.es[j] f.es[j] he he
 rw [dt rfl] at h6
 rw [hw1] at fl ⊢
 generalize shaL (entB f.es[j]).1 = i at fl h5 ⊢
 conv => whnf
 repeat ((refine ifB_f ?_); conv => whnf)
 refine wpc_sound (M := MFd) (PL := PL0) (CU := noCut) TTok mixed _ _ _ ?_
 conv => whnf
 repeat ((refine ⟨_, rfl, ?_⟩); conv => whnf)
 refine ⟨(show pureL _ = true from fdC_pure (takeF f (j + 1))), ?_⟩
 conv => whnf
 repeat ((refine ⟨rfl, ?_⟩); conv => whnf)
 refine ⟨_, _, h3, by first | rfl | simp [noRoIf, noRoL, noRoV, noRoL_bys], ?_⟩
 conv => whnf
 repeat ((first | refine ⟨(⟨by kernel_rfl, by kernel_rfl, Nat.le_of_ble_eq_true (by kernel_rfl)⟩ : AV.ones _ = true ∧ _ ∧ _), ?_⟩ | refine ⟨rfl, ?_⟩); conv => whnf)
 refine Does.freeze 3 (zs := entC f.es[j]) (by kernel_rfl) (Does.tidy [(1, .int .i64 ((j + 1 : Nat) : Int)), (2, .rop (fdC f)), (5, .rop (fdC (takeF f (j + 1)))), (7, .rop (c32 i [])), (8, .int .i64 0), (9, .rop (entC f.es[j]))] [] 4 114 rfl rfl rfl (by kernel_rfl) (by kernel_rfl) ?_)
 refine wpc_sound (M := MFd) (PL := PL0) (CU := noCut) TTok mixed _ _ _ ?_
 conv => whnf
 repeat ((first | (refine fit_i64 ⟨by first | omega | rfl | (dsimp only; omega), by first | omega | rfl | (dsimp only; omega)⟩ ?_) | refine ⟨_, rfl, ?_⟩ | (refine ⟨⟨?_, ?_, ?_⟩, ?_⟩; (focus omega); (focus (first | omega | (simp; done) | (simp; omega))); (focus (first | (rw [prfs_len]; simp; omega) | (rw [ents_len]; simp; omega) | (rw [hds_len]; simp; omega) | (rw [lets_len]; simp; omega))))); conv => whnf)
 refine ⟨_, takeN_row entC_length (j := j) hj (by simp; omega) rfl, ?_⟩
 conv => whnf
 repeat ((first | refine ⟨entC_pure _, ?_⟩ | refine ⟨rfl, ?_⟩); conv => whnf)
 refine ⟨_, _, h5, by first | rfl | simp [noRoIf, noRoL, noRoV, noRoL_bys], ?_⟩
 conv => whnf
 repeat ((first | refine ⟨(⟨by kernel_rfl, by kernel_rfl, Nat.le_of_ble_eq_true (by kernel_rfl)⟩ : AV.ones _ = true ∧ _ ∧ _), ?_⟩ | refine ⟨rfl, ?_⟩); conv => whnf)
 refine Does.freeze 4 (zs := c32 i []) (by kernel_rfl) (Does.tidy [(1, .int .i64 ((j + 1 : Nat) : Int)), (2, .rop (fdC f)), (5, .rop (fdC (takeF f (j + 1)))), (7, .rop (c32 i [])), (8, .int .i64 0), (9, .rop (entC f.es[j])), (10, .rop (c32 i [])), (11, .int .i64 0)] [] 5 114 rfl rfl rfl (by kernel_rfl) (by kernel_rfl) ?_)
 refine wpc_sound (M := MFd) (PL := PL0) (CU := noCut) TTok mixed _ _ _ ?_
 conv => whnf
 repeat ((first | (refine fit_i64 ⟨by first | omega | rfl | (dsimp only; omega), by first | omega | rfl | (dsimp only; omega)⟩ ?_) | refine ⟨_, rfl, ?_⟩); conv => whnf)
 refine ⟨(show pureL _ = true from fdC_pure (takeF f (j + 1))), ?_⟩
 conv => whnf
 repeat ((refine ⟨rfl, ?_⟩); conv => whnf)
 refine ⟨_, _, h4, by first | rfl | simp [noRoIf, noRoL, noRoV, noRoL_bys], ?_⟩
 conv => whnf
 repeat ((first | refine ⟨(⟨by kernel_rfl, by kernel_rfl, Nat.le_of_ble_eq_true (by kernel_rfl)⟩ : AV.ones _ = true ∧ _ ∧ _), ?_⟩ | refine ⟨rfl, ?_⟩); conv => whnf)
 refine Does.tidy [(1, .int .i64 ((j + 1 : Nat) : Int)), (2, .rop (fdC f)), (7, .rop (c32 i [])), (8, .int .i64 0), (9, .rop (entC f.es[j])), (10, .rop (c32 i [])), (11, .int .i64 0), (12, .ptr 5 0), (13, .int .i64 10)] [(5, entC ent0)] 6 114 rfl rfl rfl (by kernel_rfl) (by kernel_rfl) ?_
 refine Does.quiet TTok mixed (M := MFd) [] [11, 13, 17, 21, 22] (takesTo [0, 1, 2, 3, 4, 5, 6, 7, 8, 9, 10, 11, 12, 13, 14, 15, 16, 17] (.all [(18, (takesTo [19, 20, 21, 22, 23, 24, 25] (.all [(26, (takes [27, 28]))])))])) (by kernel_rfl) ?_
 conv => whnf
 repeat ((first | refine ifB_t ?_ | (refine fit_i64 ⟨by first | omega | rfl | (dsimp only; omega), by first | omega | rfl | (dsimp only; omega)⟩ ?_) | refine ⟨_, rfl, ?_⟩ | (refine ⟨⟨?_, ?_, ?_⟩, ?_⟩; (focus omega); (focus (first | omega | (simp; done) | (simp; omega))); (focus (first | (rw [prfs_len]; simp; omega) | (rw [ents_len]; simp; omega) | (rw [hds_len]; simp; omega) | (rw [lets_len]; simp; omega))))); conv => whnf)
 refine ⟨_, takeN_row entC_length (j := j) hj (by simp; omega) rfl, ?_⟩
 conv => whnf
 repeat ((first | refine ifB_t ?_ | refine ⟨entC_pure _, ?_⟩ | refine ⟨rfl, ?_⟩); conv => whnf)
 refine ⟨_, _, h6, by first | rfl | simp [noRoIf, noRoL, noRoV, noRoL_bys], ?_⟩
 conv => whnf
 repeat ((first | refine ifB_t ?_ | refine ⟨_, rfl, ?_⟩); conv => whnf)
 refine ⟨i, i, ⟨rfl, c32_map fl, c32_map fl, fl, fl⟩, ?_⟩
 rw [dt rfl]
 conv => whnf
 repeat ((first | refine ifB_t ?_ | (refine ifB_pos (decide_eq_true (by first | omega | rfl | (dsimp only; omega))) ?_) | refine ⟨rfl, ?_⟩); conv => whnf)
 refine ⟨_, _, hw, by first | rfl | simp [noRoIf, noRoL, noRoV, noRoL_bys], ?_⟩
 conv => whnf
 repeat ((first | refine ifB_t ?_ | refine ⟨rfl, ?_⟩); conv => whnf)
 rfl
end
section

open Go Go.Shelf Go.Lib
theorem first_eq : ∀ c : Fin 256, firstT c.val = utf8First.getD c.val 0 := by decide +kernel
theorem acc_eq : ∀ i : Fin 16, accLo i.val = utf8Ranges.getD (2 * i.val) 0 ∧ accHi i.val = utf8Ranges.getD (2 * i.val + 1) 0 := by decide +kernel
theorem tabOk_of {W : World} (h : Lib.Utf8Tabs 1 2 W) : TabOk (env0 W) := by
 obtain ⟨h1, h2⟩ := h
 have l1 : utf8First.length = 256 := by decide +kernel
 have l2 : utf8Ranges.length = 32 := by decide +kernel
 have s0 : 1 < W.heap.size := World.block_lt_of_cell? _ _ (h1 0 (by omega))
 have s1 : 2 < W.heap.size := World.block_lt_of_cell? _ _ (h2 0 (by omega)).1
 intro g k l hg
 unfold tabs at hg
 by_cases g0 : g = 1
 ·subst g0
  simp only [Nat.beq_refl, cond_true, Option.some.injEq, Prod.mk.injEq] at hg
  obtain ⟨rfl, rfl⟩ := hg
  refine ⟨s0, fun hv => hv, fun j x hx => ?_⟩
  have hj : j < 256 := by rw [← l1]; exact (List.getElem?_eq_some_iff.1 hx).1
  have := h1 j hj
  have e := first_eq ⟨j, hj⟩
  simp only at e
  rw [e, List.getD_eq_getElem?_getD, hx] at this
  exact this
 ·have hb : Nat.beq g 1 = false := by
   cases hh : Nat.beq g 1
   ·rfl
   ·exact absurd (Nat.eq_of_beq_eq_true hh) g0
  rw [hb, cond_false] at hg
  by_cases g1 : g = 2
  ·subst g1
   simp only [Nat.beq_refl, cond_true, Option.some.injEq, Prod.mk.injEq] at hg
   obtain ⟨rfl, rfl⟩ := hg
   refine ⟨s1, fun hv => hv, fun j x hx => ?_⟩
   have hj : j < 32 := by rw [← l2]; exact (List.getElem?_eq_some_iff.1 hx).1
   have e := acc_eq ⟨j / 2, by omega⟩
   obtain ⟨q1, q2⟩ := h2 (j / 2) (by omega)
   simp only at e
   rw [e.1] at q1
   rw [e.2] at q2
   rcases Nat.mod_two_eq_zero_or_one j with hm | hm
   ·have ej : 2 * (j / 2) = j := by omega
    rw [ej, List.getD_eq_getElem?_getD, hx] at q1
    exact q1
   ·have ej : 2 * (j / 2) + 1 = j := by omega
    rw [ej, List.getD_eq_getElem?_getD, hx] at q2
    exact q2
  ·have hb : Nat.beq g 2 = false := by
    cases hh : Nat.beq g 2
    ·rfl
    ·exact absurd (Nat.eq_of_beq_eq_true hh) g1
   rw [hb, cond_false] at hg
   cases hg
def utRen : Ren := ⟨fun x => x, fun n => if n = 5 then 5 else if n = 119 then 163 else if n = 138 then 165 else 166, fun n => if n = 3 then 1 else 2⟩
theorem tabOk_of_laid {W : World} (hL : laidMet Tryz.prog [("unicode/utf8.acceptRanges", Rows.laid_unicode_utf8_acceptRanges), ("unicode/utf8.first", Rows.laid_unicode_utf8_first)] W) : TabOk (env0 W) := by
 have e1 : Rows.laid_unicode_utf8_first = Lib.firstData := Pinned.utf8First_eq
 have e2 : (Rows.laid_unicode_utf8_acceptRanges : DataW Unit) = Lib.acceptData := by kernel_rfl
 rw [e1, e2] at hL
 exact tabOk_of (utf8Tabs_of_readsT (P := Tryz.prog) (ρ := utRen) ⟨by kernel_rfl, by kernel_rfl, by kernel_rfl, by kernel_rfl⟩ ⟨by kernel_rfl, by kernel_rfl, by kernel_rfl, by kernel_rfl, by kernel_rfl, by kernel_rfl, by kernel_rfl⟩
  (Lib.laidMet.reads hL (.tail _ (.head _))) (Lib.laidMet.reads hL (.head _)))
end
end Go.Proofs.YtbkclacjamlebaaGreatDoor.Abs
