/- Texts EB to FA5, merged. -/
import Derived.Test.YtgcmddhdnfmdnaaGreatDoorU9
set_option linter.unusedVariables false
set_option linter.unusedSimpArgs false
namespace Go.Proofs.YtgcmddhdnfmdnaaGreatDoor.Abs
open Go
section

attribute [local irreducible] ifB fitP Does Weaker
def orElse : List (Nat × List Mode) → (FuncId → List Mode) → FuncId → List Mode
 | [], o, g => o g
 | (f, m) :: r, o, g => cond (Nat.beq g f) m (orElse r o g)
def rowM : Mode := .rf [.rd, .rd]
def MR : FuncId → List Mode := orElse [(93, [rowM, .rd]), (65, [rowM]), (69, [rowM]), (67, [rowM]), (66, [rowM]), (64, [rowM]),
 (70, [rowM]), (71, [rowM]), (63, [rowM, .rd, .rd]), (62, [.rd]), (111, [.rd]), (110, [.rd]), (112, [.rd]), (113, [.rd])] MC
theorem whole_toks (l : List Tok) : (List.drop 0 (toksC l)).take (l.length * 3) = toksC l := by rw [List.drop_zero]; exact List.take_of_length_le (by rw [toksC_length]; omega)
theorem num_ok (n : Int) : ACall Tryz.prog 111 [.int .i64 n] (.agg (tokC ⟨1, n, []⟩)) [] := by
 refine ACall.of_does TTok Tryz.func111 rfl Tryz.call111 rfl (wpc_sound (M := MR) (PL := PL0) (CU := noCut) TTok mixed _ _ _ ?_)
 conv => whnf
 repeat ((first | refine ⟨rfl, ?_⟩ | refine ⟨_, rfl, ?_⟩ | refine ⟨⟨rfl, rfl⟩, ?_⟩ | (refine ⟨⟨rfl, rfl, ?_⟩, ?_⟩; (focus (first | exact Nat.le_of_ble_eq_true rfl | (simp; done))))); conv => whnf)
 rfl
theorem list_ok (n : Int) : ACall Tryz.prog 110 [.int .i64 n] (.agg (tokC ⟨5, n, []⟩)) [] := by
 refine ACall.of_does TTok Tryz.func110 rfl Tryz.call110 rfl (wpc_sound (M := MR) (PL := PL0) (CU := noCut) TTok mixed _ _ _ ?_)
 conv => whnf
 repeat ((first | refine ⟨rfl, ?_⟩ | refine ⟨_, rfl, ?_⟩ | refine ⟨⟨rfl, rfl⟩, ?_⟩ | (refine ⟨⟨rfl, rfl, ?_⟩, ?_⟩; (focus (first | exact Nat.le_of_ble_eq_true rfl | (simp; done))))); conv => whnf)
 rfl
theorem cstr_ok (b : List Int) : ACall Tryz.prog 112 [.ro b.length (bys b)] (.agg (tokC ⟨3, 0, b⟩)) [] := by
 refine ACall.of_does TTok Tryz.func112 rfl Tryz.call112 rfl (wpc_sound (M := MR) (PL := PL0) (CU := noCut) TTok mixed _ _ _ ?_)
 conv => whnf
 repeat ((first | refine ⟨rfl, ?_⟩ | refine ⟨_, rfl, ?_⟩ | refine ⟨⟨rfl, rfl⟩, ?_⟩ | (refine ⟨⟨rfl, rfl, ?_⟩, ?_⟩; (focus (first | assumption | exact pureL_bys _ | exact pureL_toks _))) | (refine ⟨⟨rfl, rfl, ?_⟩, ?_⟩; (focus (first | exact Nat.le_of_ble_eq_true rfl | (simp; done))))); conv => whnf)
 rfl
theorem next_no (l : List Tok) (bad : Bool) (k : Int) (h : bad = true ∨ l = [] ∨ ∃ t r, l = t :: r ∧ t.k ≠ k) :
  ACall Tryz.prog 93 [.ref [.ro l.length (toksC l), .bool bad], .int .i64 k] (.agg (tokC ⟨0, 0, []⟩)) [.ref [.ro l.length (toksC l), .bool true]] := by
 refine ACall.of_does TTok Tryz.func93 rfl Tryz.call93 rfl (wpc_sound (M := MR) (PL := PL0) (CU := noCut) TTok mixed _ _ _ ?_)
 cases bad with
 | true =>
  conv => whnf
  repeat ((first | refine ifB_t ?_ | refine ⟨rfl, ?_⟩ | refine ⟨_, rfl, ?_⟩ | refine ⟨⟨rfl, rfl⟩, ?_⟩ | (refine ⟨⟨rfl, rfl, ?_⟩, ?_⟩; (focus (first | assumption | exact pureL_bys _ | exact pureL_toks _))) | (refine ⟨⟨rfl, rfl, ?_⟩, ?_⟩; (focus (first | exact Nat.le_of_ble_eq_true rfl | (simp; done))))); conv => whnf)
  rfl
 | false =>
  cases l with
  | nil =>
   conv => whnf
   repeat ((first | refine ifB_t ?_ | refine ifB_f ?_ | refine ⟨rfl, ?_⟩ | refine ⟨_, rfl, ?_⟩ | refine ⟨⟨rfl, rfl⟩, ?_⟩ | (refine ⟨⟨rfl, rfl, ?_⟩, ?_⟩; (focus (first | assumption | exact pureL_bys _ | exact pureL_toks _))) | (refine ⟨⟨rfl, rfl, ?_⟩, ?_⟩; (focus (first | exact Nat.le_of_ble_eq_true rfl | (simp; done))))); conv => whnf)
   rfl
  | cons t r =>
   have hk : t.k ≠ k := by
    rcases h with h | h | ⟨t', r', h, hk⟩
    ·cases h
    ·cases h
    ·cases h; exact hk
   conv => whnf
   repeat ((first | refine ifB_f ?_ | (refine ifB_pos (decide_eq_true (by first | omega | rfl | (dsimp only; omega))) ?_) | refine ⟨rfl, ?_⟩ | refine ⟨_, rfl, ?_⟩ | refine ⟨⟨rfl, rfl⟩, ?_⟩ | (refine ⟨⟨rfl, rfl, ?_⟩, ?_⟩; (focus (first | assumption | exact pureL_bys _ | exact pureL_toks _))) | (refine ⟨⟨rfl, rfl, ?_⟩, ?_⟩; (focus (first | exact Nat.le_of_ble_eq_true rfl | (simp; done)))) | (refine And.intro ?_ ?_; (focus (first | (simp [toksC_length]; done) | (simp [toksC_length]; omega))))); conv => whnf)
   rfl
theorem next_yes (t : Tok) (r : List Tok) :
  ACall Tryz.prog 93 [.ref [.ro (t :: r).length (toksC (t :: r)), .bool false], .int .i64 t.k] (.agg (tokC t)) [.ref [.ro r.length (toksC r), .bool false]] := by
 refine ACall.of_does TTok Tryz.func93 rfl Tryz.call93 rfl (wpc_sound (M := MR) (PL := PL0) (CU := noCut) TTok mixed _ _ _ ?_)
 conv => whnf
 repeat ((first | refine ifB_f ?_ | (refine ifB_neg (decide_eq_false (by first | omega | rfl | (dsimp only; omega))) ?_) | refine ⟨rfl, ?_⟩ | refine ⟨_, rfl, ?_⟩ | (refine ⟨⟨rfl, rfl, ?_⟩, ?_⟩; (focus (first | exact Nat.le_of_ble_eq_true rfl | (simp; done)))) | (refine And.intro ?_ ?_; (focus (first | (simp [toksC_length]; done) | (simp [toksC_length]; omega))))); conv => whnf)
 refine ⟨⟨by rw [toksC_length]; exact Nat.mul_comm _ _, by simp [okB]; omega⟩, ?_⟩
 conv => whnf
 repeat ((first | refine ⟨rfl, ?_⟩ | refine ⟨_, rfl, ?_⟩ | refine ⟨⟨rfl, rfl⟩, ?_⟩ | (refine ⟨⟨rfl, rfl, ?_⟩, ?_⟩; (focus (first | assumption | exact pureL_bys _ | exact pureL_toks _))) | (refine ⟨⟨rfl, rfl, ?_⟩, ?_⟩; (focus (first | exact Nat.le_of_ble_eq_true rfl | (simp; done))))); conv => whnf)
 rfl
structure Rw where
 l : List Tok
 bad : Bool
def rowC (r : Rw) : List AV := [.ro r.l.length (toksC r.l), .bool r.bad]
def rNext (k : Int) (r : Rw) : Tok × Rw := if r.bad = true then (⟨0, 0, []⟩, ⟨r.l, true⟩) else match r.l with
 | [] => (⟨0, 0, []⟩, ⟨[], true⟩)
 | t :: q => if t.k = k then (t, ⟨q, false⟩) else (⟨0, 0, []⟩, ⟨t :: q, true⟩)
theorem next_ok (r : Rw) (k : Int) : ACall Tryz.prog 93 [.ref (rowC r), .int .i64 k] (.agg (tokC (rNext k r).1)) [.ref (rowC (rNext k r).2)] := by
 obtain ⟨l, bad⟩ := r
 unfold rNext rowC
 cases bad with
 | true => exact next_no l true k (.inl rfl)
 | false =>
  cases l with
  | nil => exact next_no [] false k (.inr (.inl rfl))
  | cons t q =>
   simp only [Bool.false_eq_true, if_false]
   by_cases h : t.k = k
   ·simp only [if_pos h]
    subst h
    exact next_yes t q
   ·simp only [if_neg h]
    exact next_no (t :: q) false k (.inr (.inr ⟨t, q, rfl, h⟩))
theorem rnum_ok (r : Rw) : ACall Tryz.prog 65 [.ref (rowC r)] (.int .i64 (rNext 1 r).1.n) [.ref (rowC (rNext 1 r).2)] := by
 have h := next_ok r 1
 refine ACall.of_does TTok Tryz.func65 rfl Tryz.call65 rfl (wpc_sound (M := MR) (PL := PL0) (CU := noCut) TTok mixed _ _ _ ?_)
 conv => whnf
 repeat ((first | refine ⟨rfl, ?_⟩ | (refine And.intro ?_ ?_; (focus (first | (simp only [pureL, pureV, pureL_bys, Bool.and_true, Bool.and_self]; done) | (simp only [pureL, pureV, pureL_bys, pureL_toks, Bool.and_true, Bool.and_self]; done))))); conv => whnf)
 refine ⟨_, _, h, by first | rfl | simp [noRoIf, noRoL, noRoV, noRoL_bys], ?_⟩
 conv => whnf
 repeat ((first | refine ⟨rfl, ?_⟩ | refine ⟨_, rfl, ?_⟩ | refine ⟨⟨rfl, rfl⟩, ?_⟩ | (refine ⟨⟨rfl, rfl, ?_⟩, ?_⟩; (focus (first | assumption | exact pureL_bys _ | exact pureL_toks _)))); conv => whnf)
 rfl
theorem rlist_ok (r : Rw) : ACall Tryz.prog 66 [.ref (rowC r)] (.int .i64 (rNext 5 r).1.n) [.ref (rowC (rNext 5 r).2)] := by
 have h := next_ok r 5
 refine ACall.of_does TTok Tryz.func66 rfl Tryz.call66 rfl (wpc_sound (M := MR) (PL := PL0) (CU := noCut) TTok mixed _ _ _ ?_)
 conv => whnf
 repeat ((first | refine ⟨rfl, ?_⟩ | (refine And.intro ?_ ?_; (focus (first | (simp only [pureL, pureV, pureL_bys, Bool.and_true, Bool.and_self]; done) | (simp only [pureL, pureV, pureL_bys, pureL_toks, Bool.and_true, Bool.and_self]; done))))); conv => whnf)
 refine ⟨_, _, h, by first | rfl | simp [noRoIf, noRoL, noRoV, noRoL_bys], ?_⟩
 conv => whnf
 repeat ((first | refine ⟨rfl, ?_⟩ | refine ⟨_, rfl, ?_⟩ | refine ⟨⟨rfl, rfl⟩, ?_⟩ | (refine ⟨⟨rfl, rfl, ?_⟩, ?_⟩; (focus (first | assumption | exact pureL_bys _ | exact pureL_toks _)))); conv => whnf)
 rfl
theorem rstr_ok (r : Rw) : ACall Tryz.prog 69 [.ref (rowC r)] (.ro (rNext 3 r).1.b.length (bys (rNext 3 r).1.b)) [.ref (rowC (rNext 3 r).2)] := by
 have h := next_ok r 3
 refine ACall.of_does TTok Tryz.func69 rfl Tryz.call69 rfl (wpc_sound (M := MR) (PL := PL0) (CU := noCut) TTok mixed _ _ _ ?_)
 conv => whnf
 repeat ((first | refine ⟨rfl, ?_⟩ | (refine And.intro ?_ ?_; (focus (first | (simp only [pureL, pureV, pureL_bys, Bool.and_true, Bool.and_self]; done) | (simp only [pureL, pureV, pureL_bys, pureL_toks, Bool.and_true, Bool.and_self]; done))))); conv => whnf)
 refine ⟨_, _, h, by first | rfl | simp [noRoIf, noRoL, noRoV, noRoL_bys], ?_⟩
 conv => whnf
 repeat ((first | refine ⟨rfl, ?_⟩ | refine ⟨_, rfl, ?_⟩ | (refine ⟨⟨rfl, rfl, ?_⟩, ?_⟩; (focus (first | assumption | exact pureL_bys _ | exact pureL_toks _)))); conv => whnf)
 rfl
theorem rdone_ok (r : Rw) : ACall Tryz.prog 71 [.ref (rowC r)] (.bool (!r.bad && decide (r.l = []))) [.ref (rowC r)] := by
 refine ACall.of_does TTok Tryz.func71 rfl Tryz.call71 rfl (wpc_sound (M := MR) (PL := PL0) (CU := noCut) TTok mixed _ _ _ ?_)
 obtain ⟨l, bad⟩ := r
 cases bad <;> cases l
 all_goals
  conv => whnf
  repeat ((first | refine ifB_t ?_ | refine ifB_f ?_ | refine ⟨rfl, ?_⟩ | refine ⟨_, rfl, ?_⟩ | (refine ⟨⟨rfl, rfl, ?_⟩, ?_⟩; (focus (first | assumption | exact pureL_bys _ | exact pureL_toks _)))); conv => whnf)
  rfl
def rOpen (b : List Int) : Rw := ⟨(decR validR b).1, decide ((decR validR b).2 ≠ 0)⟩
theorem open_ok (b : List Int) (hb : Byt b) (hl : b.length ≤ 1099511627776) : ACall Tryz.prog 62 [.ro b.length (bys b)] (.ref (rowC (rOpen b))) [] := by
 have h := decode_ok b hb hl
 unfold rOpen rowC
 generalize decR validR b = q at h ⊢
 obtain ⟨l, e⟩ := q
 dsimp only at h ⊢
 refine ACall.of_does TTok Tryz.func62 rfl Tryz.call62 rfl (wpc_sound (M := MR) (PL := PL0) (CU := cutAt [100002]) TTok mixed _ _ _ ?_)
 conv => whnf
 repeat ((first | refine ⟨pureL_bys _, ?_⟩ | refine ⟨rfl, ?_⟩); conv => whnf)
 refine ⟨_, _, h, by first | rfl | simp [noRoIf, noRoL, noRoV, noRoL_bys], ?_⟩
 conv => whnf
 refine Does.freeze 0 rfl (Does.weakerTo' (env := [(3, .ro l.length (toksC l)), (4, .int .i64 e)]) (heap := []) (nx := 0) (n := 15) [] rfl rfl ⟨⟨rfl, whole_toks _, pureL_toks _⟩, ⟨rfl, rfl⟩, trivial⟩ trivial (wpc_sound (M := MR) (PL := PL0) (CU := noCut) TTok mixed _ _ _ ?_))
 conv => whnf
 repeat ((first | refine ⟨rfl, ?_⟩ | (refine ⟨⟨rfl, rfl, ?_⟩, ?_⟩; (focus (first | assumption | exact pureL_bys _ | exact pureL_toks _)))); conv => whnf)
 rfl
theorem demsP_bys {H : Heap} : ∀ (l : List Int) (K : List Nat → Prop), K [] → demsP H (bys l) (bys l) K
 | [], K, h => by simpa [demsP, bys] using h
 | x :: l, K, h => by
  simp only [bys, List.map_cons, demsP, demP]
  exact ⟨⟨trivial, trivial⟩, demsP_bys l _ h⟩
theorem takeN_all : ∀ {m : Nat} {cs : List AV}, cs.length = m → takeN m cs = some cs
 | 0, [], _ => rfl
 | m + 1, c :: cs, h => by
  have ih := takeN_all (m := m) (cs := cs) (by simpa using h)
  simp [takeN, ih]
def rArr (m : Nat) (r : Rw) : List Int × Rw := if (rNext 3 r).1.b.length = m then ((rNext 3 r).1.b, (rNext 3 r).2) else (List.replicate m 0, ⟨(rNext 3 r).2.l, true⟩)
theorem rid_ok (r : Rw) : ACall Tryz.prog 64 [.ref (rowC r)] (.agg (bys (rArr 32 r).1)) [.ref (rowC (rArr 32 r).2)] := by
 have h := rstr_ok r
 unfold rArr
 generalize rNext 3 r = q at h ⊢
 obtain ⟨t, l, bad⟩ := q
 dsimp only at h ⊢
 refine ACall.of_does TTok Tryz.func64 rfl Tryz.call64 rfl (wpc_sound (M := MR) (PL := PL0) (CU := noCut) TTok mixed _ _ _ ?_)
 conv => whnf
 repeat ((first | refine ⟨rfl, ?_⟩ | (refine And.intro ?_ ?_; (focus (first | (simp only [pureL, pureV, pureL_bys, Bool.and_true, Bool.and_self]; done) | (simp only [pureL, pureV, pureL_bys, pureL_toks, Bool.and_true, Bool.and_self]; done))))); conv => whnf)
 refine ⟨_, _, h, by first | rfl | simp [noRoIf, noRoL, noRoV, noRoL_bys], ?_⟩
 conv => whnf
 refine ifB_dec (fun k1 => ?_) (fun k1 => ?_)
 ·rw [if_neg (by omega)]
  conv => whnf
  repeat ((first | refine ⟨rfl, ?_⟩ | refine ⟨_, rfl, ?_⟩ | refine ⟨⟨rfl, rfl⟩, ?_⟩ | (refine ⟨⟨rfl, rfl, ?_⟩, ?_⟩; (focus (first | assumption | exact pureL_bys _ | exact pureL_toks _))) | (refine ⟨⟨rfl, rfl, ?_⟩, ?_⟩; (focus (first | exact Nat.le_of_ble_eq_true rfl | (simp; done))))); conv => whnf)
  rfl
 ·rw [if_pos (by omega)]
  conv => whnf
  repeat ((refine And.intro ?_ ?_; (focus (first | (simp [limB, lenB, offB]; done) | (simp [limB, lenB, offB]; omega)))); conv => whnf)
  refine ⟨_, takeN_all (cs := bys t.b) (by simp; omega), ?_⟩
  conv => whnf
  refine ⟨⟨ones_bys _, by simp [cellsA]; omega⟩, ?_⟩
  conv => whnf
  refine ⟨bys t.b, ?_, ?_⟩
  ·show takeN 32 (setN (List.replicate 32 (AV.int .u8 0)) 0 (bys t.b)) = some (bys t.b)
   rw [setN_eq _ _ _ (by simp; omega)]
   have : (List.replicate 32 (AV.int .u8 0)).take 0 ++ bys t.b ++ (List.replicate 32 (AV.int .u8 0)).drop (0 + (bys t.b).length) = bys t.b := by rw [List.drop_eq_nil_of_le (by simp; omega)]; simp
   rw [this]
   exact takeN_all (by simp; omega)
  conv => whnf
  repeat ((first | refine ⟨rfl, ?_⟩ | (refine ⟨⟨rfl, rfl, ?_⟩, ?_⟩; (focus (first | assumption | exact pureL_bys _ | exact pureL_toks _)))); conv => whnf)
  exact demsP_bys _ _ rfl
def rWant (m f : Int) (r : Rw) : Rw :=
 if (rNext 5 r).1.n ≠ m then ⟨(rNext 5 r).2.l, true⟩ else if (rNext 1 (rNext 5 r).2).1.n ≠ f then ⟨(rNext 1 (rNext 5 r).2).2.l, true⟩ else (rNext 1 (rNext 5 r).2).2
theorem rwant_ok (r : Rw) (m f : Int) : ACall Tryz.prog 63 [.ref (rowC r), .int .i64 m, .int .i64 f] (.tuple []) [.ref (rowC (rWant m f r))] := by
 have h := rlist_ok r
 have h2 := rnum_ok (rNext 5 r).2
 unfold rWant
 generalize rNext 5 r = q at h h2 ⊢
 obtain ⟨t, r1⟩ := q
 dsimp only at h h2 ⊢
 generalize rNext 1 r1 = q at h2 ⊢
 obtain ⟨t2, r2⟩ := q
 dsimp only at h2 ⊢
 refine ACall.of_does TTok Tryz.func63 rfl Tryz.call63 rfl (wpc_sound (M := MR) (PL := PL0) (CU := noCut) TTok mixed _ _ _ ?_)
 conv => whnf
 repeat ((first | refine ⟨rfl, ?_⟩ | (refine And.intro ?_ ?_; (focus (first | (simp only [pureL, pureV, pureL_bys, Bool.and_true, Bool.and_self]; done) | (simp only [pureL, pureV, pureL_bys, pureL_toks, Bool.and_true, Bool.and_self]; done))))); conv => whnf)
 refine ⟨_, _, h, by first | rfl | simp [noRoIf, noRoL, noRoV, noRoL_bys], ?_⟩
 conv => whnf
 refine ifB_dec (fun k1 => ?_) (fun k1 => ?_)
 ·rw [if_pos k1]
  conv => whnf
  repeat ((first | refine ifB_t ?_ | refine ⟨rfl, ?_⟩ | (refine ⟨⟨rfl, rfl, ?_⟩, ?_⟩; (focus (first | assumption | exact pureL_bys _ | exact pureL_toks _))) | (refine ⟨⟨rfl, rfl, ?_⟩, ?_⟩; (focus (first | exact Nat.le_of_ble_eq_true rfl | (simp; done))))); conv => whnf)
  rfl
 ·rw [if_neg k1]
  conv => whnf
  repeat ((first | refine ifB_f ?_ | refine ⟨rfl, ?_⟩ | (refine And.intro ?_ ?_; (focus (first | (simp only [pureL, pureV, pureL_bys, Bool.and_true, Bool.and_self]; done) | (simp only [pureL, pureV, pureL_bys, pureL_toks, Bool.and_true, Bool.and_self]; done))))); conv => whnf)
  refine ⟨_, _, h2, by first | rfl | simp [noRoIf, noRoL, noRoV, noRoL_bys], ?_⟩
  conv => whnf
  repeat ((refine ifB_f ?_); conv => whnf)
  refine ifB_dec (fun k2 => ?_) (fun k2 => ?_)
  ·rw [if_pos k2]
   conv => whnf
   repeat ((first | refine ⟨rfl, ?_⟩ | (refine ⟨⟨rfl, rfl, ?_⟩, ?_⟩; (focus (first | assumption | exact pureL_bys _ | exact pureL_toks _))) | (refine ⟨⟨rfl, rfl, ?_⟩, ?_⟩; (focus (first | exact Nat.le_of_ble_eq_true rfl | (simp; done))))); conv => whnf)
   rfl
  ·rw [if_neg k2]
   conv => whnf
   repeat ((first | refine ⟨rfl, ?_⟩ | (refine ⟨⟨rfl, rfl, ?_⟩, ?_⟩; (focus (first | assumption | exact pureL_bys _ | exact pureL_toks _)))); conv => whnf)
   rfl
theorem rtext_ok (r : Rw) (hb : Byt (rNext 4 r).1.b) : ACall Tryz.prog 67 [.ref (rowC r)] (.str (rNext 4 r).1.b) [.ref (rowC (rNext 4 r).2)] := by
 have h := next_ok r 4
 generalize rNext 4 r = q at h hb ⊢
 refine ACall.of_does TTok Tryz.func67 rfl Tryz.call67 rfl (wpc_sound (M := MR) (PL := PL0) (CU := noCut) TTok mixed _ _ _ ?_)
 conv => whnf
 repeat ((first | refine ⟨rfl, ?_⟩ | (refine And.intro ?_ ?_; (focus (first | (simp only [pureL, pureV, pureL_bys, Bool.and_true, Bool.and_self]; done) | (simp only [pureL, pureV, pureL_bys, pureL_toks, Bool.and_true, Bool.and_self]; done))))); conv => whnf)
 refine ⟨_, _, h, by first | rfl | simp [noRoIf, noRoL, noRoV, noRoL_bys], ?_⟩
 conv => whnf
 repeat ((first | refine ⟨_, rfl, ?_⟩ | (refine And.intro ?_ ?_; (focus (first | (simp [limB, lenB, offB]; done) | (simp [limB, lenB, offB]; omega))))); conv => whnf)
 refine ⟨q.1.b, ⟨rfl, fun x hx => ⟨(hb x hx).1, by have := (hb x hx).2; omega⟩⟩, ?_⟩
 conv => whnf
 repeat ((first | refine ⟨rfl, ?_⟩ | (refine ⟨⟨rfl, rfl, ?_⟩, ?_⟩; (focus (first | assumption | exact pureL_bys _ | exact pureL_toks _)))); conv => whnf)
 rfl
theorem rsig_ok (r : Rw) : ACall Tryz.prog 70 [.ref (rowC r)] (.agg (bys (rArr 64 r).1)) [.ref (rowC (rArr 64 r).2)] := by
 have h := rstr_ok r
 unfold rArr
 generalize rNext 3 r = q at h ⊢
 obtain ⟨t, l, bad⟩ := q
 dsimp only at h ⊢
 refine ACall.of_does TTok Tryz.func70 rfl Tryz.call70 rfl (wpc_sound (M := MR) (PL := PL0) (CU := noCut) TTok mixed _ _ _ ?_)
 conv => whnf
 repeat ((first | refine ⟨rfl, ?_⟩ | (refine And.intro ?_ ?_; (focus (first | (simp only [pureL, pureV, pureL_bys, Bool.and_true, Bool.and_self]; done) | (simp only [pureL, pureV, pureL_bys, pureL_toks, Bool.and_true, Bool.and_self]; done))))); conv => whnf)
 refine ⟨_, _, h, by first | rfl | simp [noRoIf, noRoL, noRoV, noRoL_bys], ?_⟩
 conv => whnf
 refine ifB_dec (fun k1 => ?_) (fun k1 => ?_)
 ·rw [if_neg (by omega)]
  conv => whnf
  repeat ((first | refine ⟨rfl, ?_⟩ | refine ⟨_, rfl, ?_⟩ | refine ⟨⟨rfl, rfl⟩, ?_⟩ | (refine ⟨⟨rfl, rfl, ?_⟩, ?_⟩; (focus (first | assumption | exact pureL_bys _ | exact pureL_toks _))) | (refine ⟨⟨rfl, rfl, ?_⟩, ?_⟩; (focus (first | exact Nat.le_of_ble_eq_true rfl | (simp; done))))); conv => whnf)
  rfl
 ·rw [if_pos (by omega)]
  conv => whnf
  repeat ((refine And.intro ?_ ?_; (focus (first | (simp [limB, lenB, offB]; done) | (simp [limB, lenB, offB]; omega)))); conv => whnf)
  refine ⟨_, takeN_all (cs := bys t.b) (by simp; omega), ?_⟩
  conv => whnf
  refine ⟨⟨ones_bys _, by simp [cellsA]; omega⟩, ?_⟩
  conv => whnf
  refine ⟨bys t.b, ?_, ?_⟩
  ·show takeN 64 (setN (List.replicate 64 (AV.int .u8 0)) 0 (bys t.b)) = some (bys t.b)
   rw [setN_eq _ _ _ (by simp; omega)]
   have : (List.replicate 64 (AV.int .u8 0)).take 0 ++ bys t.b ++ (List.replicate 64 (AV.int .u8 0)).drop (0 + (bys t.b).length) = bys t.b := by rw [List.drop_eq_nil_of_le (by simp; omega)]; simp
   rw [this]
   exact takeN_all (by simp; omega)
  conv => whnf
  repeat ((first | refine ⟨rfl, ?_⟩ | (refine ⟨⟨rfl, rfl, ?_⟩, ?_⟩; (focus (first | assumption | exact pureL_bys _ | exact pureL_toks _)))); conv => whnf)
  exact demsP_bys _ _ rfl
end
section

structure Ent where
 au : List Int
 seq : Int
 prev : List Int
 stamp : Int
 kind : Int
 key : List Int
 val : List Int
 sig : List Int
 deriving DecidableEq
def c32 (l : List Int) (r : List AV) : List AV := .int .u8 (l.getD 0 0) :: .int .u8 (l.getD 1 0) :: .int .u8 (l.getD 2 0) :: .int .u8 (l.getD 3 0) :: .int .u8 (l.getD 4 0) :: .int .u8 (l.getD 5 0) :: .int .u8 (l.getD 6 0) :: .int .u8 (l.getD 7 0) :: .int .u8 (l.getD 8 0) :: .int .u8 (l.getD 9 0) :: .int .u8 (l.getD 10 0) :: .int .u8 (l.getD 11 0) :: .int .u8 (l.getD 12 0) :: .int .u8 (l.getD 13 0) :: .int .u8 (l.getD 14 0) :: .int .u8 (l.getD 15 0) :: .int .u8 (l.getD 16 0) :: .int .u8 (l.getD 17 0) :: .int .u8 (l.getD 18 0) :: .int .u8 (l.getD 19 0) :: .int .u8 (l.getD 20 0) :: .int .u8 (l.getD 21 0) :: .int .u8 (l.getD 22 0) :: .int .u8 (l.getD 23 0) :: .int .u8 (l.getD 24 0) :: .int .u8 (l.getD 25 0) :: .int .u8 (l.getD 26 0) :: .int .u8 (l.getD 27 0) :: .int .u8 (l.getD 28 0) :: .int .u8 (l.getD 29 0) :: .int .u8 (l.getD 30 0) :: .int .u8 (l.getD 31 0) :: r
def c64 (l : List Int) (r : List AV) : List AV := .int .u8 (l.getD 0 0) :: .int .u8 (l.getD 1 0) :: .int .u8 (l.getD 2 0) :: .int .u8 (l.getD 3 0) :: .int .u8 (l.getD 4 0) :: .int .u8 (l.getD 5 0) :: .int .u8 (l.getD 6 0) :: .int .u8 (l.getD 7 0) :: .int .u8 (l.getD 8 0) :: .int .u8 (l.getD 9 0) :: .int .u8 (l.getD 10 0) :: .int .u8 (l.getD 11 0) :: .int .u8 (l.getD 12 0) :: .int .u8 (l.getD 13 0) :: .int .u8 (l.getD 14 0) :: .int .u8 (l.getD 15 0) :: .int .u8 (l.getD 16 0) :: .int .u8 (l.getD 17 0) :: .int .u8 (l.getD 18 0) :: .int .u8 (l.getD 19 0) :: .int .u8 (l.getD 20 0) :: .int .u8 (l.getD 21 0) :: .int .u8 (l.getD 22 0) :: .int .u8 (l.getD 23 0) :: .int .u8 (l.getD 24 0) :: .int .u8 (l.getD 25 0) :: .int .u8 (l.getD 26 0) :: .int .u8 (l.getD 27 0) :: .int .u8 (l.getD 28 0) :: .int .u8 (l.getD 29 0) :: .int .u8 (l.getD 30 0) :: .int .u8 (l.getD 31 0) :: .int .u8 (l.getD 32 0) :: .int .u8 (l.getD 33 0) :: .int .u8 (l.getD 34 0) :: .int .u8 (l.getD 35 0) :: .int .u8 (l.getD 36 0) :: .int .u8 (l.getD 37 0) :: .int .u8 (l.getD 38 0) :: .int .u8 (l.getD 39 0) :: .int .u8 (l.getD 40 0) :: .int .u8 (l.getD 41 0) :: .int .u8 (l.getD 42 0) :: .int .u8 (l.getD 43 0) :: .int .u8 (l.getD 44 0) :: .int .u8 (l.getD 45 0) :: .int .u8 (l.getD 46 0) :: .int .u8 (l.getD 47 0) :: .int .u8 (l.getD 48 0) :: .int .u8 (l.getD 49 0) :: .int .u8 (l.getD 50 0) :: .int .u8 (l.getD 51 0) :: .int .u8 (l.getD 52 0) :: .int .u8 (l.getD 53 0) :: .int .u8 (l.getD 54 0) :: .int .u8 (l.getD 55 0) :: .int .u8 (l.getD 56 0) :: .int .u8 (l.getD 57 0) :: .int .u8 (l.getD 58 0) :: .int .u8 (l.getD 59 0) :: .int .u8 (l.getD 60 0) :: .int .u8 (l.getD 61 0) :: .int .u8 (l.getD 62 0) :: .int .u8 (l.getD 63 0) :: r
def roW (l : List Int) : AV := .ro l.length (List.take (l.length * 1) (List.drop 0 (bys l)))
theorem roW_eq (l : List Int) : roW l = .ro l.length (bys l) := by unfold roW; rw [whole_bys]
def exN : Nat → Nat → List Int → List AV → List AV
 | 0, _, _, r => r
 | n + 1, i, l, r => .int .u8 (l.getD i 0) :: exN n (i + 1) l r
theorem exN_eq : ∀ (n i : Nat) (l : List Int) (r : List AV), i + n = l.length → exN n i l r = bys (l.drop i) ++ r
 | 0, i, l, r, h => by rw [exN, List.drop_eq_nil_of_le (by omega)]; rfl
 | n + 1, i, l, r, h => by
  have hi : i < l.length := by omega
  rw [exN, exN_eq n (i + 1) l r (by omega), List.drop_eq_getElem_cons hi, List.getD_eq_getElem?_getD, List.getElem?_eq_getElem hi]
  rfl
theorem c32_eq {l : List Int} (h : l.length = 32) (r : List AV) : c32 l r = bys l ++ r := (show c32 l r = exN 32 0 l r from rfl).trans (exN_eq 32 0 l r (by omega))
set_option maxRecDepth 4000 in
theorem c64_eq {l : List Int} (h : l.length = 64) (r : List AV) : c64 l r = bys l ++ r := (show c64 l r = exN 64 0 l r from rfl).trans (exN_eq 64 0 l r (by omega))
theorem c32_map {l : List Int} (h : l.length = 32) : c32 l [] = l.map (AV.int .u8) := by rw [c32_eq h, List.append_nil]; rfl
theorem c64_map {l : List Int} (h : l.length = 64) : c64 l [] = l.map (AV.int .u8) := by rw [c64_eq h, List.append_nil]; rfl
theorem okB_none (n : Nat) : okB none none n := by simp [okB]
theorem cut32 {l : List Int} (h : l.length = 32) (r : List AV) : cutB ((c32 l r).take (32 * 1)) none none 1 = bys l := by
 rw [c32_eq h, List.take_append_of_le_length (by simp [h]), List.take_of_length_le (by simp [h])]
 simp [cutB, offB, lenB, endB, h]
theorem cut64 {l : List Int} (h : l.length = 64) (r : List AV) : cutB ((c64 l r).take (64 * 1)) none none 1 = bys l := by
 rw [c64_eq h, List.take_append_of_le_length (by simp [h]), List.take_of_length_le (by simp [h])]
 simp [cutB, offB, lenB, endB, h]
theorem c32_pure (l : List Int) (r : List AV) : pureL (c32 l r) = pureL r := by simp [c32, pureL, pureV]
theorem c64_pure (l : List Int) (r : List AV) : pureL (c64 l r) = pureL r := by simp [c64, pureL, pureV]
theorem c32_frz (i : Nat) (zs : List AV) (l : List Int) (r : List AV) : frzL i zs (c32 l r) = c32 l (frzL i zs r) := by simp [c32, frzL, frzV]
theorem c64_frz (i : Nat) (zs : List AV) (l : List Int) (r : List AV) : frzL i zs (c64 l r) = c64 l (frzL i zs r) := by simp [c64, frzL, frzV]
theorem c32_app (l : List Int) (r q : List AV) : c32 l r ++ q = c32 l (r ++ q) := rfl
theorem c64_app (l : List Int) (r q : List AV) : c64 l r ++ q = c64 l (r ++ q) := rfl
theorem c32_les {o : Nat → Option Nat} {l : List Int} {r q : List AV} (h : lesP o r q) : lesP o (c32 l r) (c32 l q) := by
 simp only [c32, lesP, leP, and_self, true_and]; exact h
theorem c64_les {o : Nat → Option Nat} {l : List Int} {r q : List AV} (h : lesP o r q) : lesP o (c64 l r) (c64 l q) := by
 simp only [c64, lesP, leP, and_self, true_and]; exact h
theorem c32_len (l : List Int) (r : List AV) : (c32 l r).length = 32 + r.length := by simp [c32]; omega
theorem c64_len (l : List Int) (r : List AV) : (c64 l r).length = 64 + r.length := by simp [c64]; omega
def opC (e : Ent) : List AV := [.int .i64 e.kind, .str e.key, .ro e.val.length (bys e.val)]
def entC (e : Ent) : List AV := c32 e.au (.int .i64 e.seq :: c32 e.prev (.int .i64 e.stamp :: .int .i64 e.kind :: .str e.key :: .ro e.val.length (bys e.val) :: c64 e.sig []))
structure EntOk (e : Ent) : Prop where
 au : Byt e.au ∧ e.au.length = 32
 seq : -9223372036854775808 ≤ e.seq ∧ e.seq < 9223372036854775808
 prev : Byt e.prev ∧ e.prev.length = 32
 stamp : -9223372036854775808 ≤ e.stamp ∧ e.stamp < 9223372036854775808
 kind : -9223372036854775808 ≤ e.kind ∧ e.kind < 9223372036854775808
 key : Byt e.key ∧ e.key.length ≤ 9223372036854775807
 val : Byt e.val ∧ e.val.length ≤ 9223372036854775807
 sig : Byt e.sig ∧ e.sig.length = 64
def z32 : List Int := List.replicate 32 0
def z64 : List Int := List.replicate 64 0
def ent0 : Ent := ⟨z32, 0, z32, 0, 0, [], [], z64⟩
theorem entC_length (e : Ent) : (entC e).length = 133 := by simp [entC, c32_len, c64_len]
theorem entC_pure (e : Ent) : pureL (entC e) = true := by simp [entC, c32_pure, c64_pure, pureL, pureV, pureL_bys]
theorem entC_frz (i : Nat) (zs : List AV) (e : Ent) : frzL i zs (entC e) = entC e := by simp [entC, c32_frz, c64_frz, frzL, frzV, frzL_bys]
theorem lesP_ent {o : Nat → Option Nat} (e : Ent) {q : List AV} (h : q = entC e) : lesP o (entC e) q := by
 subst h
 unfold entC
 refine c32_les ⟨⟨rfl, rfl⟩, c32_les ⟨⟨rfl, rfl⟩, ⟨rfl, rfl⟩, rfl, ⟨rfl, rfl, pureL_bys _⟩, c64_les trivial⟩⟩
theorem lesP_app'' {o : Nat → Option Nat} : ∀ {a a' b b' : List AV}, lesP o a a' → lesP o b b' → lesP o (a ++ b) (a' ++ b')
 | [], [], _, _, _, h => h
 | [], _ :: _, _, _, h, _ => h.elim
 | _ :: _, [], _, _, h, _ => h.elim
 | x :: a, y :: a', b, b', h, k => ⟨h.1, lesP_app'' h.2 k⟩
theorem c32_dems {H : Heap} {l : List Int} {r q : List AV} {K : List Nat → Prop} (h : demsP H r q K) : demsP H (c32 l r) (c32 l q) K := by
 simp only [c32, demsP, demP, and_self, true_and, List.nil_append]; exact h
set_option maxRecDepth 4000 in
theorem c64_dems {H : Heap} {l : List Int} {r q : List AV} {K : List Nat → Prop} (h : demsP H r q K) : demsP H (c64 l r) (c64 l q) K := by
 simp only [c64, demsP, demP, and_self, true_and, List.nil_append]; exact h
theorem ent_dems {H : Heap} (e : Ent) {K : List Nat → Prop} (h : K []) : demsP H (entC e) (entC e) K := by
 unfold entC
 refine c32_dems ?_
 simp only [demsP, demP, and_self, true_and, List.nil_append]
 refine c32_dems ?_
 simp only [demsP, demP, and_self, true_and, List.nil_append]
 refine ⟨pureL_bys _, c64_dems ?_⟩
 simpa only [demsP] using h
theorem ent_int_dems {H : Heap} {e : Ent} {n : Int} {zs : List AV} {K : List Nat → Prop} (hz : zs = entC e) (h : K []) : demsP H [.tuple [.agg (entC e), .int .i64 n]] [.tuple [.agg zs, .int .i64 n]] K := by
 subst hz
 simp only [demsP, demP]
 refine ent_dems e ?_
 simpa only [and_self, true_and, List.nil_append] using h
def entV (e : Ent) (v : AV) : List AV := c32 e.au (.int .i64 e.seq :: c32 e.prev (.int .i64 e.stamp :: .int .i64 e.kind :: .str e.key :: v :: c64 e.sig []))
def zeroE : List AV := entV ent0 .nil
theorem ent0_dems {H : Heap} {K : List Nat → Prop} (h : K []) : demsP H (entC ent0) zeroE K := by
 unfold entC zeroE entV
 refine c32_dems ?_
 simp only [demsP, demP, and_self, true_and, List.nil_append]
 refine c32_dems ?_
 simp only [demsP, demP, and_self, true_and, List.nil_append]
 refine ⟨⟨rfl, rfl⟩, c64_dems ?_⟩
 simpa only [demsP] using h
theorem ent0_int_dems {H : Heap} {n : Int} {zs : List AV} {K : List Nat → Prop} (hz : zs = zeroE) (h : K []) : demsP H [.tuple [.agg (entC ent0), .int .i64 n]] [.tuple [.agg zs, .int .i64 n]] K := by
 subst hz
 simp only [demsP, demP]
 refine ent0_dems ?_
 simpa only [and_self, true_and, List.nil_append] using h
theorem rArr_len (m : Nat) (r : Rw) : (rArr m r).1.length = m := by
 unfold rArr
 split
 ·assumption
 ·simp
theorem rid_ok' (r : Rw) : ACall Tryz.prog 64 [.ref (rowC r)] (.agg (c32 (rArr 32 r).1 [])) [.ref (rowC (rArr 32 r).2)] := by
 rw [c32_eq (rArr_len 32 r), List.append_nil]; exact rid_ok r
theorem rsig_ok' (r : Rw) : ACall Tryz.prog 70 [.ref (rowC r)] (.agg (c64 (rArr 64 r).1 [])) [.ref (rowC (rArr 64 r).2)] := by
 rw [c64_eq (rArr_len 64 r), List.append_nil]; exact rsig_ok r
end
section
--KR
attribute [local irreducible] ifB fitP Does Weaker
def opR (e : Ent) : Bool := decide (1 ≤ e.key.length) && decide (e.key.length ≤ 16) && validR e.key && ((decide (e.kind = 1) && decide (e.val.length ≤ 40)) || (decide (e.kind = 2) && decide (e.val.length = 0)))
def entR (e : Ent) : Bool := decide (1 ≤ e.seq) && decide (e.seq ≤ 200) && (decide (e.seq ≠ 1) || decide (e.prev = z32)) && decide (0 ≤ e.stamp) && opR e
def ME : FuncId → List Mode := orElse [(60, [.rd]), (38, [.rd]), (89, [.rd, .rd]), (59, [.rd, .rd]), (36, [.rd]), (37, [.rd]), (40, [.rd]), (55, [.rd]), (82, [.rd]),
 (46, [.rd, .rd]), (12, [.rd, .rd]), (18, [.rd]), (999999, [.rd]), (999999, [.rd]), (47, [.rd])] MR
theorem dt {p : Prop} [Decidable p] (h : p) : decide p = true := decide_eq_true h
theorem df {p : Prop} [Decidable p] (h : ¬ p) : decide p = false := decide_eq_false h
theorem op_ok (e : Ent) (hk : Byt e.key) (hl : e.key.length ≤ 1099511627776) (hv : e.val.length ≤ 1099511627776) : ACall Tryz.prog 60 [.agg (opC e)] (.bool (opR e)) [] := by
 have hu := utf8_ok e.key hk hl
 unfold opR
 refine ACall.of_does TTok Tryz.func60 rfl Tryz.call60 rfl (wpc_sound (M := MR) (PL := PL0) (CU := noCut) TTok mixed _ _ _ ?_)
 by_cases c1 : 1 ≤ e.key.length
 ·rw [dt c1]
  by_cases c2 : e.key.length ≤ 16
  ·rw [dt c2]
   cases c3 : validR e.key <;> rw [c3] at hu
   ·conv => whnf
    repeat ((first | refine ifB_f ?_ | (refine ifB_neg (decide_eq_false (by first | omega | rfl | (dsimp only; omega))) ?_) | refine ⟨pureL_bys _, ?_⟩ | (refine Or.inl ⟨⟨rfl, ?_⟩, ?_⟩; (focus (first | rfl | (simp; done) | (rw [toksC_length]; omega)))) | refine ⟨rfl, ?_⟩ | refine ⟨_, rfl, ?_⟩); conv => whnf)
    refine ⟨_, _, hu, by first | rfl | simp [noRoIf, noRoL, noRoV, noRoL_bys], ?_⟩
    conv => whnf
    repeat ((first | refine ifB_t ?_ | refine ifB_f ?_ | refine ⟨rfl, ?_⟩); conv => whnf)
    rfl
   ·by_cases c4 : e.kind = 1
    ·rw [dt c4, df (show ¬ e.kind = 2 by omega)]
     by_cases c5 : e.val.length ≤ 40
     ·rw [dt c5]
      conv => whnf
      repeat ((first | refine ifB_f ?_ | (refine ifB_neg (decide_eq_false (by first | omega | rfl | (dsimp only; omega))) ?_) | refine ⟨pureL_bys _, ?_⟩ | (refine Or.inl ⟨⟨rfl, ?_⟩, ?_⟩; (focus (first | rfl | (simp; done) | (rw [toksC_length]; omega)))) | refine ⟨rfl, ?_⟩ | refine ⟨_, rfl, ?_⟩); conv => whnf)
      refine ⟨_, _, hu, by first | rfl | simp [noRoIf, noRoL, noRoV, noRoL_bys], ?_⟩
      conv => whnf
      repeat ((first | refine ifB_t ?_ | refine ifB_f ?_ | (refine ifB_pos (decide_eq_true (by first | omega | rfl | (dsimp only; omega))) ?_) | refine ⟨rfl, ?_⟩ | refine ⟨_, rfl, ?_⟩); conv => whnf)
      rfl
     ·rw [df c5]
      conv => whnf
      repeat ((first | refine ifB_f ?_ | (refine ifB_neg (decide_eq_false (by first | omega | rfl | (dsimp only; omega))) ?_) | refine ⟨pureL_bys _, ?_⟩ | (refine Or.inl ⟨⟨rfl, ?_⟩, ?_⟩; (focus (first | rfl | (simp; done) | (rw [toksC_length]; omega)))) | refine ⟨rfl, ?_⟩ | refine ⟨_, rfl, ?_⟩); conv => whnf)
      refine ⟨_, _, hu, by first | rfl | simp [noRoIf, noRoL, noRoV, noRoL_bys], ?_⟩
      conv => whnf
      repeat ((first | refine ifB_t ?_ | refine ifB_f ?_ | (refine ifB_neg (decide_eq_false (by first | omega | rfl | (dsimp only; omega))) ?_) | (refine ifB_pos (decide_eq_true (by first | omega | rfl | (dsimp only; omega))) ?_) | refine ⟨rfl, ?_⟩ | refine ⟨_, rfl, ?_⟩); conv => whnf)
      rfl
    ·rw [df c4]
     by_cases c6 : e.kind = 2
     ·rw [dt c6]
      by_cases c7 : e.val.length = 0
      ·rw [dt c7]
       conv => whnf
       repeat ((first | refine ifB_f ?_ | (refine ifB_neg (decide_eq_false (by first | omega | rfl | (dsimp only; omega))) ?_) | refine ⟨pureL_bys _, ?_⟩ | (refine Or.inl ⟨⟨rfl, ?_⟩, ?_⟩; (focus (first | rfl | (simp; done) | (rw [toksC_length]; omega)))) | refine ⟨rfl, ?_⟩ | refine ⟨_, rfl, ?_⟩); conv => whnf)
       refine ⟨_, _, hu, by first | rfl | simp [noRoIf, noRoL, noRoV, noRoL_bys], ?_⟩
       conv => whnf
       repeat ((first | refine ifB_t ?_ | refine ifB_f ?_ | (refine ifB_neg (decide_eq_false (by first | omega | rfl | (dsimp only; omega))) ?_) | (refine ifB_pos (decide_eq_true (by first | omega | rfl | (dsimp only; omega))) ?_) | refine ⟨_, rfl, ?_⟩); conv => whnf)
       exact ⟨dt (by omega), rfl⟩
      ·rw [df c7]
       conv => whnf
       repeat ((first | refine ifB_f ?_ | (refine ifB_neg (decide_eq_false (by first | omega | rfl | (dsimp only; omega))) ?_) | refine ⟨pureL_bys _, ?_⟩ | (refine Or.inl ⟨⟨rfl, ?_⟩, ?_⟩; (focus (first | rfl | (simp; done) | (rw [toksC_length]; omega)))) | refine ⟨rfl, ?_⟩ | refine ⟨_, rfl, ?_⟩); conv => whnf)
       refine ⟨_, _, hu, by first | rfl | simp [noRoIf, noRoL, noRoV, noRoL_bys], ?_⟩
       conv => whnf
       repeat ((first | refine ifB_t ?_ | refine ifB_f ?_ | (refine ifB_neg (decide_eq_false (by first | omega | rfl | (dsimp only; omega))) ?_) | (refine ifB_pos (decide_eq_true (by first | omega | rfl | (dsimp only; omega))) ?_) | refine ⟨_, rfl, ?_⟩); conv => whnf)
       exact ⟨df (by omega), rfl⟩
     ·rw [df c6]
      conv => whnf
      repeat ((first | refine ifB_f ?_ | (refine ifB_neg (decide_eq_false (by first | omega | rfl | (dsimp only; omega))) ?_) | refine ⟨pureL_bys _, ?_⟩ | (refine Or.inl ⟨⟨rfl, ?_⟩, ?_⟩; (focus (first | rfl | (simp; done) | (rw [toksC_length]; omega)))) | refine ⟨rfl, ?_⟩ | refine ⟨_, rfl, ?_⟩); conv => whnf)
      refine ⟨_, _, hu, by first | rfl | simp [noRoIf, noRoL, noRoV, noRoL_bys], ?_⟩
      conv => whnf
      repeat ((first | refine ifB_f ?_ | (refine ifB_neg (decide_eq_false (by first | omega | rfl | (dsimp only; omega))) ?_) | refine ⟨rfl, ?_⟩ | refine ⟨_, rfl, ?_⟩); conv => whnf)
      rfl
  ·rw [df c2]
   conv => whnf
   repeat ((first | refine ifB_t ?_ | refine ifB_f ?_ | (refine ifB_neg (decide_eq_false (by first | omega | rfl | (dsimp only; omega))) ?_) | (refine ifB_pos (decide_eq_true (by first | omega | rfl | (dsimp only; omega))) ?_) | refine ⟨rfl, ?_⟩ | refine ⟨_, rfl, ?_⟩); conv => whnf)
   rfl
 ·rw [df c1]
  conv => whnf
  repeat ((first | refine ifB_t ?_ | (refine ifB_pos (decide_eq_true (by first | omega | rfl | (dsimp only; omega))) ?_) | refine ⟨rfl, ?_⟩ | refine ⟨_, rfl, ?_⟩); conv => whnf)
  rfl
structure EntS (e : Ent) : Prop extends EntOk e where
 key' : e.key.length ≤ 1000000000
 val' : e.val.length ≤ 1000000000
theorem check_entry_ok (e : Ent) (he : EntS e) : ACall Tryz.prog 38 [.agg (entC e)] (.int .i64 (if entR e then 0 else 1)) [] := by
 have ho := op_ok e he.key.1 (by have := he.key'; omega) (by have := he.val'; omega)
 unfold entR
 refine ACall.of_does TTok Tryz.func38 rfl Tryz.call38 rfl (wpc_sound (M := ME) (PL := PL0) (CU := noCut) TTok mixed _ _ _ ?_)
 by_cases c1 : 1 ≤ e.seq
 ·rw [dt c1]
  by_cases c2 : e.seq ≤ 200
  ·rw [dt c2]
   by_cases c3 : e.seq = 1
   ·rw [df (show ¬ e.seq ≠ 1 by omega)]
    by_cases c4 : e.prev = z32
    ·rw [dt c4]
     by_cases c5 : 0 ≤ e.stamp
     ·rw [dt c5]
      conv => whnf
      repeat ((first | refine ifB_t ?_ | refine ifB_f ?_ | (refine ifB_neg (decide_eq_false (by first | omega | rfl | (dsimp only; omega))) ?_) | (refine ifB_pos (decide_eq_true (by first | omega | rfl | (dsimp only; omega))) ?_) | refine ⟨rfl, ?_⟩ | refine ⟨_, rfl, ?_⟩); conv => whnf)
      refine ⟨e.prev, z32, ⟨rfl, c32_map he.prev.2, rfl, he.prev.2, rfl⟩, ?_⟩
      conv => whnf
      repeat ((first | refine ifB_t ?_ | refine ifB_f ?_); conv => whnf)
      rw [dt c4]
      conv => whnf
      repeat ((first | refine ifB_f ?_ | (refine ifB_neg (decide_eq_false (by first | omega | rfl | (dsimp only; omega))) ?_) | refine ⟨entC_pure _, ?_⟩ | refine ⟨rfl, ?_⟩ | refine ⟨_, rfl, ?_⟩); conv => whnf)
      cases c6 : opR e <;> rw [c6] at ho
      ·refine ⟨_, _, ho, by first | rfl | simp [noRoIf, noRoL, noRoV, noRoL_bys], ?_⟩
       conv => whnf
       repeat ((first | refine ifB_t ?_ | refine ifB_f ?_ | refine ⟨⟨rfl, rfl⟩, ?_⟩); conv => whnf)
       rfl
      ·refine ⟨_, _, ho, by first | rfl | simp [noRoIf, noRoL, noRoV, noRoL_bys], ?_⟩
       conv => whnf
       repeat ((first | refine ifB_f ?_ | refine ⟨⟨rfl, rfl⟩, ?_⟩); conv => whnf)
       rfl
     ·rw [df c5]
      conv => whnf
      repeat ((first | refine ifB_t ?_ | refine ifB_f ?_ | (refine ifB_neg (decide_eq_false (by first | omega | rfl | (dsimp only; omega))) ?_) | (refine ifB_pos (decide_eq_true (by first | omega | rfl | (dsimp only; omega))) ?_) | refine ⟨rfl, ?_⟩ | refine ⟨_, rfl, ?_⟩); conv => whnf)
      refine ⟨e.prev, z32, ⟨rfl, c32_map he.prev.2, rfl, he.prev.2, rfl⟩, ?_⟩
      conv => whnf
      repeat ((first | refine ifB_t ?_ | refine ifB_f ?_); conv => whnf)
      rw [dt c4]
      conv => whnf
      repeat ((first | refine ifB_t ?_ | refine ifB_f ?_ | (refine ifB_pos (decide_eq_true (by first | omega | rfl | (dsimp only; omega))) ?_) | refine ⟨_, rfl, ?_⟩ | refine ⟨⟨rfl, rfl⟩, ?_⟩); conv => whnf)
      rfl
    ·rw [df c4]
     conv => whnf
     repeat ((first | refine ifB_t ?_ | refine ifB_f ?_ | (refine ifB_neg (decide_eq_false (by first | omega | rfl | (dsimp only; omega))) ?_) | (refine ifB_pos (decide_eq_true (by first | omega | rfl | (dsimp only; omega))) ?_) | refine ⟨rfl, ?_⟩ | refine ⟨_, rfl, ?_⟩); conv => whnf)
     refine ⟨e.prev, z32, ⟨rfl, c32_map he.prev.2, rfl, he.prev.2, rfl⟩, ?_⟩
     conv => whnf
     repeat ((first | refine ifB_t ?_ | refine ifB_f ?_); conv => whnf)
     rw [df c4]
     conv => whnf
     repeat ((first | refine ifB_t ?_ | refine ⟨⟨rfl, rfl⟩, ?_⟩); conv => whnf)
     rfl
   ·rw [dt (show e.seq ≠ 1 from c3)]
    by_cases c5 : 0 ≤ e.stamp
    ·rw [dt c5]
     conv => whnf
     repeat ((first | refine ifB_f ?_ | (refine ifB_neg (decide_eq_false (by first | omega | rfl | (dsimp only; omega))) ?_) | refine ⟨entC_pure _, ?_⟩ | refine ⟨rfl, ?_⟩ | refine ⟨_, rfl, ?_⟩); conv => whnf)
     cases c6 : opR e <;> rw [c6] at ho
     ·refine ⟨_, _, ho, by first | rfl | simp [noRoIf, noRoL, noRoV, noRoL_bys], ?_⟩
      conv => whnf
      repeat ((first | refine ifB_t ?_ | refine ifB_f ?_ | refine ⟨⟨rfl, rfl⟩, ?_⟩); conv => whnf)
      rfl
     ·refine ⟨_, _, ho, by first | rfl | simp [noRoIf, noRoL, noRoV, noRoL_bys], ?_⟩
      conv => whnf
      repeat ((first | refine ifB_f ?_ | refine ⟨⟨rfl, rfl⟩, ?_⟩); conv => whnf)
      rfl
    ·rw [df c5]
     conv => whnf
     repeat ((first | refine ifB_t ?_ | refine ifB_f ?_ | (refine ifB_neg (decide_eq_false (by first | omega | rfl | (dsimp only; omega))) ?_) | (refine ifB_pos (decide_eq_true (by first | omega | rfl | (dsimp only; omega))) ?_) | refine ⟨rfl, ?_⟩ | refine ⟨_, rfl, ?_⟩ | refine ⟨⟨rfl, rfl⟩, ?_⟩); conv => whnf)
     rfl
  ·rw [df c2]
   conv => whnf
   repeat ((first | refine ifB_t ?_ | refine ifB_f ?_ | (refine ifB_neg (decide_eq_false (by first | omega | rfl | (dsimp only; omega))) ?_) | (refine ifB_pos (decide_eq_true (by first | omega | rfl | (dsimp only; omega))) ?_) | refine ⟨rfl, ?_⟩ | refine ⟨_, rfl, ?_⟩ | refine ⟨⟨rfl, rfl⟩, ?_⟩); conv => whnf)
   rfl
 ·rw [df c1]
  conv => whnf
  repeat ((first | refine ifB_t ?_ | (refine ifB_pos (decide_eq_true (by first | omega | rfl | (dsimp only; omega))) ?_) | refine ⟨rfl, ?_⟩ | refine ⟨_, rfl, ?_⟩ | refine ⟨⟨rfl, rfl⟩, ?_⟩); conv => whnf)
  rfl
end
section
--KR
attribute [local irreducible] ifB fitP Does Weaker
def entT (many : Int) (e : Ent) : List Tok := [⟨5, many, []⟩, ⟨1, 1, []⟩, ⟨3, 0, e.au⟩, ⟨1, e.seq, []⟩, ⟨3, 0, e.prev⟩, ⟨1, e.stamp, []⟩, ⟨5, 3, []⟩, ⟨1, e.kind, []⟩, ⟨4, 0, e.key⟩, ⟨3, 0, e.val⟩]
def entTs (e : Ent) : List Tok := entT 7 e ++ [⟨3, 0, e.sig⟩]
theorem ctext_ok (s : List Int) (hs : Byt s) (hl : s.length ≤ 17592186044416) : ACall Tryz.prog 113 [.str s] (.agg (tokC ⟨4, 0, s⟩)) [] := by
 refine ACall.of_does TTok Tryz.func113 rfl Tryz.call113 rfl (wpc_sound (M := MR) (PL := PL0) (CU := cutAt [99999]) TTok mixed _ _ _ ?_)
 conv => whnf
 repeat ((first | refine ⟨(⟨by kernel_rfl, by kernel_rfl, Nat.le_of_ble_eq_true (by kernel_rfl)⟩ : AV.ones _ = true ∧ _ ∧ _), ?_⟩ | refine ⟨rfl, ?_⟩); conv => whnf)
 refine Does.freeze 1 rfl (wpc_sound (M := ME) (PL := PL0) (CU := noCut) TTok mixed _ _ _ ?_)
 conv => whnf
 repeat ((first | refine ⟨_, rfl, ?_⟩ | refine ⟨⟨rfl, rfl⟩, ?_⟩); conv => whnf)
 exact ⟨⟨rfl, whole_bys s, pureL_bys _⟩, rfl⟩
def PLrow : Nat → Bool × Plan := plans [(1, (false, (takesTo [0, 3, 4, 6, 7, 9, 10, 12, 13, 16, 17, 18, 20, 21, 22, 24, 25, 26] (.all [(1, (.all [(2, (.all [(5, (.all [(8, (.all [(11, (.all [(14, (.all [(15, (.all [(19, (.all [(23, (.all [(27, (.all [(28, (takes [29]))]))]))]))]))]))]))]))]))]))]))]))))]
set_option maxRecDepth 20000 in
set_option maxHeartbeats 4000000 in
theorem row6_ok (e : Ent) (he : EntS e) : ACall Tryz.prog 89 [.agg (entC e), .int .i64 6] (.own 10 3 (toksC (entT 6 e))) [] := by
 refine ACall.of_does TTok Tryz.func89 rfl Tryz.call89 rfl (wpc_sound (M := ME) (PL := PLrow) (CU := cutAt [100001]) TTok mixed _ _ _ ?_)
 conv => whnf
 repeat ((refine ⟨rfl, ?_⟩); conv => whnf)
 refine Does.freeze 0 rfl (wpc_sound (M := ME) (PL := PLrow) (CU := noCut) TTok mixed _ _ _ ?_)
 conv => whnf
 refine ⟨by kernel_rfl, ?_⟩
 conv => whnf
 repeat ((first | (refine ⟨⟨by first | (simp only [List.drop_zero, List.length_drop, hds_len]; omega) | exact Nat.le_of_ble_eq_true (by kernel_rfl), okB_none _⟩, ?_⟩) | refine ⟨rfl, ?_⟩ | refine ⟨_, rfl, ?_⟩); conv => whnf)
 refine ⟨_, _, list_ok 6, by first | rfl | simp [noRoIf, noRoL, noRoV, noRoL_bys], ?_⟩
 conv => whnf
 repeat ((refine ⟨rfl, ?_⟩); conv => whnf)
 refine ⟨_, _, num_ok 1, by first | rfl | simp [noRoIf, noRoL, noRoV, noRoL_bys], ?_⟩
 conv => whnf
 repeat ((refine ⟨rfl, ?_⟩); conv => whnf)
 refine ⟨_, _, (cstr_ok e.au).arg1 he.au.2.symm (cut32 he.au.2 _), by first | rfl | simp [noRoIf, noRoL, noRoV, noRoL_bys], ?_⟩
 conv => whnf
 repeat ((refine ⟨rfl, ?_⟩); conv => whnf)
 refine ⟨_, _, num_ok e.seq, by first | rfl | simp [noRoIf, noRoL, noRoV, noRoL_bys], ?_⟩
 conv => whnf
 repeat ((refine ⟨rfl, ?_⟩); conv => whnf)
 refine ⟨_, _, (cstr_ok e.prev).arg1 he.prev.2.symm (cut32 he.prev.2 _), by first | rfl | simp [noRoIf, noRoL, noRoV, noRoL_bys], ?_⟩
 conv => whnf
 repeat ((refine ⟨rfl, ?_⟩); conv => whnf)
 refine ⟨_, _, num_ok e.stamp, by first | rfl | simp [noRoIf, noRoL, noRoV, noRoL_bys], ?_⟩
 conv => whnf
 repeat ((refine ⟨rfl, ?_⟩); conv => whnf)
 refine ⟨_, _, list_ok 3, by first | rfl | simp [noRoIf, noRoL, noRoV, noRoL_bys], ?_⟩
 conv => whnf
 repeat ((refine ⟨rfl, ?_⟩); conv => whnf)
 refine ⟨_, _, num_ok e.kind, by first | rfl | simp [noRoIf, noRoL, noRoV, noRoL_bys], ?_⟩
 conv => whnf
 repeat ((refine ⟨rfl, ?_⟩); conv => whnf)
 refine ⟨_, _, ctext_ok e.key he.key.1 (by have := he.key'; omega), by first | rfl | simp [noRoIf, noRoL, noRoV, noRoL_bys], ?_⟩
 conv => whnf
 repeat ((first | refine ⟨pureL_bys _, ?_⟩ | refine ⟨rfl, ?_⟩); conv => whnf)
 refine ⟨_, _, cstr_ok e.val, by first | rfl | simp [noRoIf, noRoL, noRoV, noRoL_bys], ?_⟩
 conv => whnf
 repeat ((first | refine ifB_f ?_ | refine ⟨⟨rfl, rfl⟩, ?_⟩); conv => whnf)
 exact ⟨⟨rfl, rfl, rfl, rfl, pureL_toks (entT 6 e)⟩, rfl⟩
set_option maxRecDepth 20000 in
set_option maxHeartbeats 4000000 in
theorem row7_ok (e : Ent) (he : EntS e) : ACall Tryz.prog 89 [.agg (entC e), .int .i64 7] (.own 11 3 (toksC (entTs e))) [] := by
 refine ACall.of_does TTok Tryz.func89 rfl Tryz.call89 rfl (wpc_sound (M := ME) (PL := PLrow) (CU := cutAt [100001]) TTok mixed _ _ _ ?_)
 conv => whnf
 repeat ((refine ⟨rfl, ?_⟩); conv => whnf)
 refine Does.freeze 0 rfl (wpc_sound (M := ME) (PL := PLrow) (CU := noCut) TTok mixed _ _ _ ?_)
 conv => whnf
 refine ⟨by kernel_rfl, ?_⟩
 conv => whnf
 repeat ((first | (refine ⟨⟨by first | (simp only [List.drop_zero, List.length_drop, hds_len]; omega) | exact Nat.le_of_ble_eq_true (by kernel_rfl), okB_none _⟩, ?_⟩) | refine ⟨rfl, ?_⟩ | refine ⟨_, rfl, ?_⟩); conv => whnf)
 refine ⟨_, _, list_ok 7, by first | rfl | simp [noRoIf, noRoL, noRoV, noRoL_bys], ?_⟩
 conv => whnf
 repeat ((refine ⟨rfl, ?_⟩); conv => whnf)
 refine ⟨_, _, num_ok 1, by first | rfl | simp [noRoIf, noRoL, noRoV, noRoL_bys], ?_⟩
 conv => whnf
 repeat ((refine ⟨rfl, ?_⟩); conv => whnf)
 refine ⟨_, _, (cstr_ok e.au).arg1 he.au.2.symm (cut32 he.au.2 _), by first | rfl | simp [noRoIf, noRoL, noRoV, noRoL_bys], ?_⟩
 conv => whnf
 repeat ((refine ⟨rfl, ?_⟩); conv => whnf)
 refine ⟨_, _, num_ok e.seq, by first | rfl | simp [noRoIf, noRoL, noRoV, noRoL_bys], ?_⟩
 conv => whnf
 repeat ((refine ⟨rfl, ?_⟩); conv => whnf)
 refine ⟨_, _, (cstr_ok e.prev).arg1 he.prev.2.symm (cut32 he.prev.2 _), by first | rfl | simp [noRoIf, noRoL, noRoV, noRoL_bys], ?_⟩
 conv => whnf
 repeat ((refine ⟨rfl, ?_⟩); conv => whnf)
 refine ⟨_, _, num_ok e.stamp, by first | rfl | simp [noRoIf, noRoL, noRoV, noRoL_bys], ?_⟩
 conv => whnf
 repeat ((refine ⟨rfl, ?_⟩); conv => whnf)
 refine ⟨_, _, list_ok 3, by first | rfl | simp [noRoIf, noRoL, noRoV, noRoL_bys], ?_⟩
 conv => whnf
 repeat ((refine ⟨rfl, ?_⟩); conv => whnf)
 refine ⟨_, _, num_ok e.kind, by first | rfl | simp [noRoIf, noRoL, noRoV, noRoL_bys], ?_⟩
 conv => whnf
 repeat ((refine ⟨rfl, ?_⟩); conv => whnf)
 refine ⟨_, _, ctext_ok e.key he.key.1 (by have := he.key'; omega), by first | rfl | simp [noRoIf, noRoL, noRoV, noRoL_bys], ?_⟩
 conv => whnf
 repeat ((first | refine ⟨pureL_bys _, ?_⟩ | refine ⟨rfl, ?_⟩); conv => whnf)
 refine ⟨_, _, cstr_ok e.val, by first | rfl | simp [noRoIf, noRoL, noRoV, noRoL_bys], ?_⟩
 conv => whnf
 repeat ((first | refine ifB_t ?_ | (refine ⟨⟨by first | (simp only [List.drop_zero, List.length_drop, hds_len]; omega) | exact Nat.le_of_ble_eq_true (by kernel_rfl), okB_none _⟩, ?_⟩) | refine ⟨rfl, ?_⟩ | refine ⟨⟨rfl, rfl⟩, ?_⟩); conv => whnf)
 refine ⟨_, _, (cstr_ok e.sig).arg1 he.sig.2.symm (cut64 he.sig.2 _), by first | rfl | simp [noRoIf, noRoL, noRoV, noRoL_bys], ?_⟩
 conv => whnf
 repeat ((first | (refine Or.inl ⟨⟨rfl, ?_⟩, ?_⟩; (focus (first | rfl | (simp; done) | (rw [toksC_length]; omega)))) | refine ⟨rfl, ?_⟩ | refine ⟨⟨rfl, rfl⟩, ?_⟩ | (refine ⟨⟨rfl, ?_, ?_, ?_⟩, ?_⟩; (focus (first | (simp; done) | (simp; omega))); (focus (first | exact Or.inl rfl | exact Or.inr (by omega))); (focus (first | (simp [limB, lenB, offB]; done) | (simp [limB, lenB, offB]; omega))))); conv => whnf)
 exact ⟨⟨rfl, rfl, rfl, rfl, pureL_toks (entTs e)⟩, rfl⟩
def entB (e : Ent) : List Int × Int := if entR e then encR validR (entTs e) else ([], 1)
def entBody (e : Ent) : List Int × Int := if entR e then encR validR (entT 6 e) else ([], 1)
theorem entT_ok (many : Int) (hm : 0 ≤ many ∧ many ≤ 100) (e : Ent) (he : EntS e) : ToksOk (entT many e) ∧ ∀ t ∈ entT many e, t.b.length ≤ 1000000000 := by
 have h1 := he.seq; have h2 := he.stamp; have h3 := he.kind; have h4 := he.au; have h5 := he.prev; have h6 := he.key'; have h7 := he.val'
 constructor
 ·intro t ht
  simp only [entT, List.mem_cons, List.mem_singleton, List.not_mem_nil, or_false] at ht
  rcases ht with rfl | rfl | rfl | rfl | rfl | rfl | rfl | rfl | rfl | rfl
  all_goals refine ⟨by dsimp only; omega, by dsimp only; omega, ?_⟩
  all_goals first | exact fun x hx => absurd hx (List.not_mem_nil) | exact h4.1 | exact h5.1 | exact he.key.1 | exact he.val.1
 ·intro t ht
  simp only [entT, List.mem_cons, List.mem_singleton, List.not_mem_nil, or_false] at ht
  rcases ht with rfl | rfl | rfl | rfl | rfl | rfl | rfl | rfl | rfl | rfl
  all_goals dsimp only
  all_goals first | omega | (simp; done)
theorem entTs_ok (e : Ent) (he : EntS e) : ToksOk (entTs e) ∧ ∀ t ∈ entTs e, t.b.length ≤ 1000000000 := by
 have h := entT_ok 7 (by omega) e he
 constructor
 ·intro t ht
  rcases List.mem_append.1 ht with ht | ht
  ·exact h.1 t ht
  ·simp only [List.mem_singleton] at ht
   subst ht
   exact ⟨by dsimp only; omega, by dsimp only; omega, he.sig.1⟩
 ·intro t ht
  rcases List.mem_append.1 ht with ht | ht
  ·exact h.2 t ht
  ·simp only [List.mem_singleton] at ht
   subst ht
   have := he.sig.2
   dsimp only
   omega
end
section
--KR
attribute [local irreducible] ifB fitP Does Weaker
theorem write7_ok (e : Ent) (he : EntS e) : ACall Tryz.prog 59 [.agg (entC e), .int .i64 7] (.tuple [.own (entB e).1.length 1 (bys (entB e).1), .int .i64 (entB e).2]) [] := by
 have hc := check_entry_ok e he
 unfold entB
 refine ACall.of_does TTok Tryz.func59 rfl Tryz.call59 rfl (wpc_sound (M := ME) (PL := PL0) (CU := noCut) TTok mixed _ _ _ ?_)
 cases c1 : entR e <;> rw [c1] at hc
 ·conv => whnf
  repeat ((first | refine ⟨entC_pure _, ?_⟩ | refine ⟨rfl, ?_⟩ | refine ⟨_, rfl, ?_⟩); conv => whnf)
  refine ⟨_, _, hc, by first | rfl | simp [noRoIf, noRoL, noRoV, noRoL_bys], ?_⟩
  conv => whnf
  repeat ((first | refine ifB_t ?_ | refine ⟨⟨rfl, rfl⟩, ?_⟩); conv => whnf)
  rfl
 ·have hr := row7_ok e he
  have ht := entTs_ok e he
  have hb := encode_ok (entTs e) ht.1 (fun t h => by have := ht.2 t h; omega)
  have hl : (entTs e).length = 11 := rfl
  clear ht
  generalize entTs e = l at hr hb hl
  conv => whnf
  repeat ((first | refine ⟨entC_pure _, ?_⟩ | refine ⟨rfl, ?_⟩ | refine ⟨_, rfl, ?_⟩); conv => whnf)
  refine ⟨_, _, hc, by first | rfl | simp [noRoIf, noRoL, noRoV, noRoL_bys], ?_⟩
  conv => whnf
  repeat ((first | refine ifB_f ?_ | refine ⟨entC_pure _, ?_⟩ | refine ⟨rfl, ?_⟩ | refine ⟨_, rfl, ?_⟩); conv => whnf)
  refine ⟨_, _, hr, by first | rfl | simp [noRoIf, noRoL, noRoV, noRoL_bys], ?_⟩
  conv => whnf
  repeat ((first | (refine Or.inl ⟨⟨rfl, ?_⟩, ?_⟩; (focus (first | rfl | (simp; done) | (rw [toksC_length]; omega)))) | refine ⟨rfl, ?_⟩ | (refine And.intro ?_ ?_; (focus (first | (simp only [pureL, pureV, pureL_bys, Bool.and_true, Bool.and_self]; done) | (simp only [pureL, pureV, pureL_bys, pureL_toks, Bool.and_true, Bool.and_self]; done))))); conv => whnf)
  refine ⟨_, _, hb.arg1 hl.symm rfl, by first | rfl | simp [noRoIf, noRoL, noRoV, noRoL_bys], ?_⟩
  conv => whnf
  repeat ((first | refine ⟨⟨rfl, rfl⟩, ?_⟩ | (refine ⟨⟨rfl, rfl, rfl, ?_, pureL_bys _⟩, ?_⟩; (focus (simp; done)))); conv => whnf)
  rfl
theorem write6_ok (e : Ent) (he : EntS e) : ACall Tryz.prog 59 [.agg (entC e), .int .i64 6] (.tuple [.own (entBody e).1.length 1 (bys (entBody e).1), .int .i64 (entBody e).2]) [] := by
 have hc := check_entry_ok e he
 unfold entBody
 refine ACall.of_does TTok Tryz.func59 rfl Tryz.call59 rfl (wpc_sound (M := ME) (PL := PL0) (CU := noCut) TTok mixed _ _ _ ?_)
 cases c1 : entR e <;> rw [c1] at hc
 ·conv => whnf
  repeat ((first | refine ⟨entC_pure _, ?_⟩ | refine ⟨rfl, ?_⟩ | refine ⟨_, rfl, ?_⟩); conv => whnf)
  refine ⟨_, _, hc, by first | rfl | simp [noRoIf, noRoL, noRoV, noRoL_bys], ?_⟩
  conv => whnf
  repeat ((first | refine ifB_t ?_ | refine ⟨⟨rfl, rfl⟩, ?_⟩); conv => whnf)
  rfl
 ·have hr := row6_ok e he
  have ht := entT_ok 6 (by omega) e he
  have hb := encode_ok (entT 6 e) ht.1 (fun t h => by have := ht.2 t h; omega)
  have hl : (entT 6 e).length = 10 := rfl
  clear ht
  generalize entT 6 e = l at hr hb hl
  conv => whnf
  repeat ((first | refine ⟨entC_pure _, ?_⟩ | refine ⟨rfl, ?_⟩ | refine ⟨_, rfl, ?_⟩); conv => whnf)
  refine ⟨_, _, hc, by first | rfl | simp [noRoIf, noRoL, noRoV, noRoL_bys], ?_⟩
  conv => whnf
  repeat ((first | refine ifB_f ?_ | refine ⟨entC_pure _, ?_⟩ | refine ⟨rfl, ?_⟩ | refine ⟨_, rfl, ?_⟩); conv => whnf)
  refine ⟨_, _, hr, by first | rfl | simp [noRoIf, noRoL, noRoV, noRoL_bys], ?_⟩
  conv => whnf
  repeat ((first | (refine Or.inl ⟨⟨rfl, ?_⟩, ?_⟩; (focus (first | rfl | (simp; done) | (rw [toksC_length]; omega)))) | refine ⟨rfl, ?_⟩ | (refine And.intro ?_ ?_; (focus (first | (simp only [pureL, pureV, pureL_bys, Bool.and_true, Bool.and_self]; done) | (simp only [pureL, pureV, pureL_bys, pureL_toks, Bool.and_true, Bool.and_self]; done))))); conv => whnf)
  refine ⟨_, _, hb.arg1 hl.symm rfl, by first | rfl | simp [noRoIf, noRoL, noRoV, noRoL_bys], ?_⟩
  conv => whnf
  repeat ((first | refine ⟨⟨rfl, rfl⟩, ?_⟩ | (refine ⟨⟨rfl, rfl, rfl, ?_, pureL_bys _⟩, ?_⟩; (focus (simp; done)))); conv => whnf)
  rfl
theorem ebytes_ok (e : Ent) (he : EntS e) : ACall Tryz.prog 36 [.agg (entC e)] (.tuple [.own (entB e).1.length 1 (bys (entB e).1), .int .i64 (entB e).2]) [] := by
 have h := write7_ok e he
 generalize entB e = q at h
 refine ACall.of_does TTok Tryz.func36 rfl Tryz.call36 rfl (wpc_sound (M := ME) (PL := PL0) (CU := noCut) TTok mixed _ _ _ ?_)
 conv => whnf
 repeat ((first | refine ⟨entC_pure _, ?_⟩ | refine ⟨rfl, ?_⟩ | refine ⟨_, rfl, ?_⟩); conv => whnf)
 refine ⟨_, _, h, by first | rfl | simp [noRoIf, noRoL, noRoV, noRoL_bys], ?_⟩
 conv => whnf
 repeat ((first | refine ⟨⟨rfl, rfl⟩, ?_⟩ | (refine ⟨⟨rfl, rfl, rfl, ?_, pureL_bys _⟩, ?_⟩; (focus (simp; done)))); conv => whnf)
 rfl
theorem ebody_ok (e : Ent) (he : EntS e) : ACall Tryz.prog 37 [.agg (entC e)] (.tuple [.own (entBody e).1.length 1 (bys (entBody e).1), .int .i64 (entBody e).2]) [] := by
 have h := write6_ok e he
 generalize entBody e = q at h
 refine ACall.of_does TTok Tryz.func37 rfl Tryz.call37 rfl (wpc_sound (M := ME) (PL := PL0) (CU := noCut) TTok mixed _ _ _ ?_)
 conv => whnf
 repeat ((first | refine ⟨entC_pure _, ?_⟩ | refine ⟨rfl, ?_⟩ | refine ⟨_, rfl, ?_⟩); conv => whnf)
 refine ⟨_, _, h, by first | rfl | simp [noRoIf, noRoL, noRoV, noRoL_bys], ?_⟩
 conv => whnf
 repeat ((first | refine ⟨⟨rfl, rfl⟩, ?_⟩ | (refine ⟨⟨rfl, rfl, rfl, ?_, pureL_bys _⟩, ?_⟩; (focus (simp; done)))); conv => whnf)
 rfl
end
section

theorem envL_tidy {f : Nat → AV} : ∀ (env : List (Nat × AV)), env.map (fun p => f p.1) = env.map (fun p => p.2) → ∀ t, envL env t = f t ∨ envL env t = .top
 | [], _, t => .inr rfl
 | (d, x) :: r, h, t => by
  simp only [List.map_cons, List.cons.injEq] at h
  unfold envL
  cases hb : Nat.beq t d with
  | true =>
   obtain rfl : t = d := Nat.eq_of_beq_eq_true hb
   exact .inl h.1.symm
  | false => exact envL_tidy r h.2 t
theorem heapL_none {m : Nat} : ∀ (heap : List (Nat × List AV)), heap.all (fun p => Nat.blt p.1 m) = true → ∀ i, m ≤ i → heapL heap i = none
 | [], _, _, _ => rfl
 | (d, x) :: r, h, i, hi => by
  simp only [List.all_cons, Bool.and_eq_true] at h
  unfold heapL
  cases hb : Nat.beq i d with
  | true =>
   obtain rfl : i = d := Nat.eq_of_beq_eq_true hb
   have := h.1
   rw [Nat.blt_eq] at this
   omega
  | false => exact heapL_none r h.2 i hi
theorem Weaker.tidy {k : Nat} {st : St} (env : List (Nat × AV)) (heap : List (Nat × List AV)) (nx n : Nat) (hn : st.n = n) (hx : st.nx = nx) (hb : heap.all (fun p => Nat.blt p.1 nx) = true)
  (he : env.map (fun p => st.env p.1) = env.map (fun p => p.2)) (hh : (List.range nx).map st.heap = (List.range nx).map (heapL heap)) : Weaker k st (mkSt env heap nx n) := by
 intro Z E a S
 have hH : heapL heap = st.heap := by
  funext i
  rcases Nat.lt_or_ge i nx with hi | hi
  ·have h1 : ((List.range nx).map st.heap)[i]? = some (st.heap i) := by simp [hi]
   have h2 : ((List.range nx).map (heapL heap))[i]? = some (heapL heap i) := by simp [hi]
   rw [hh, h2] at h1
   exact Option.some.inj h1
  ·rw [heapL_none heap hb i hi, (S.heap.fresh i (by omega)).2]
 refine ⟨E, ⟨?_, ?_, S.dfr, ?_⟩, rfl, ?_⟩
 ·intro t
  change RepV E (envL env t) _
  rcases envL_tidy env he t with h | h
  ·rw [h]; exact S.env t
  ·rw [h]; simp [RepV]
 ·exact S.sz.trans hn
 ·change HeapRep Z E (heapL heap) nx
  rw [hH, ← hx]
  exact S.heap
 ·change Flow k E st.heap E (heapL heap)
  rw [hH]
  exact Flow.refl _ _
theorem Does.tidy {P : Program} {k : Nat} {c : Code} {Q : AX → St → Prop} {st : St} (env : List (Nat × AV)) (heap : List (Nat × List AV)) (nx n : Nat) (hn : st.n = n) (hx : st.nx = nx) (hb : heap.all (fun p => Nat.blt p.1 nx) = true)
  (he : env.map (fun p => st.env p.1) = env.map (fun p => p.2)) (hh : (List.range nx).map st.heap = (List.range nx).map (heapL heap)) (h : Does P k c Q (mkSt env heap nx n)) : Does P k c Q st :=
 Does.weaker (Weaker.tidy env heap nx n hn hx hb he hh) h
theorem ACall.args {P : Program} {f : FuncId} {xs ys : List AV} {r : AV} {outs : List AV} (h : ACall P f ys r outs) (e : xs = ys) : ACall P f xs r outs := by
 subst e; exact h
end
section
--KR
attribute [local irreducible] ifB fitP Does Weaker demsP
def RwOk (r : Rw) : Prop := ToksOk r.l ∧ ∀ t ∈ r.l, t.b.length ≤ 1000000000
theorem rNext_rok {r : Rw} (h : RwOk r) (k : Int) : RwOk (rNext k r).2 ∧ TokOk (rNext k r).1 ∧ (rNext k r).1.b.length ≤ 1000000000 := by
 have z : TokOk ⟨0, 0, []⟩ := ⟨by dsimp only; omega, by dsimp only; omega, fun x hx => absurd hx (List.not_mem_nil)⟩
 obtain ⟨l, bad⟩ := r
 unfold rNext
 split
 ·exact ⟨h, z, by simp⟩
 ·cases l with
  | nil => exact ⟨h, z, by simp⟩
  | cons t q =>
   dsimp only
   split
   ·exact ⟨⟨fun x hx => h.1 x (List.mem_cons_of_mem _ hx), fun x hx => h.2 x (List.mem_cons_of_mem _ hx)⟩, h.1 t List.mem_cons_self, h.2 t List.mem_cons_self⟩
   ·exact ⟨h, z, by simp⟩
theorem rArr_rok {r : Rw} (h : RwOk r) (m : Nat) : RwOk (rArr m r).2 ∧ Byt (rArr m r).1 ∧ (rArr m r).1.length = m := by
 refine ⟨?_, ?_, rArr_len m r⟩
 ·unfold rArr
  split
  ·exact (rNext_rok h 3).1
  ·exact (rNext_rok h 3).1
 ·unfold rArr
  split
  ·exact (rNext_rok h 3).2.1.2.2
  ·intro x hx
   rw [List.mem_replicate] at hx
   omega
theorem rWant_rok {r : Rw} (h : RwOk r) (m f : Int) : RwOk (rWant m f r) := by
 have h1 := (rNext_rok h 5).1
 have h2 := (rNext_rok h1 1).1
 unfold rWant
 split
 ·exact h1
 ·split
  ·exact h2
  ·exact h2
theorem rOpen_rok {b : List Int} (hb : Byt b) (hl : b.length ≤ 1000000000) : RwOk (rOpen b) := by
 unfold rOpen RwOk
 rcases decR_or validR b with h | ⟨l, h, _, hp⟩
 ·rw [h]
  exact ⟨fun t ht => absurd ht (List.not_mem_nil), fun t ht => absurd ht (List.not_mem_nil)⟩
 ·rw [h]
  have := pItem_toks b hb 7 ⟨0, [], false⟩ ⟨by simp [ToksOk], by simp⟩
  rw [hp] at this
  exact ⟨this.1, fun t ht => Nat.le_trans (this.2 t ht) hl⟩
theorem entV_whole (e : Ent) : entV e (.ro e.val.length (List.take (e.val.length * 1) (List.drop 0 (bys e.val)))) = entC e := by rw [whole_bys]; rfl
def rdE (r : Rw) : Ent × Int :=
 match rArr 32 r with
 | (au, r1) => match rNext 1 r1 with
  | (s, r2) => match rArr 32 r2 with
   | (prev, r3) => match rNext 1 r3 with
    | (st, r4) => match rNext 5 r4 with
     | (li, r5) => if li.n ≠ 3 then (ent0, 3) else match rNext 1 r5 with
      | (ki, r6) => match rNext 4 r6 with
       | (ke, r7) => match rNext 3 r7 with
        | (va, r8) => match rArr 64 r8 with
         | (sig, r9) => if (!r9.bad && decide (r9.l = [])) = true then (if entR ⟨au, s.n, prev, st.n, ki.n, ke.b, va.b, sig⟩ = true then (⟨au, s.n, prev, st.n, ki.n, ke.b, va.b, sig⟩, 0) else (ent0, 3)) else (ent0, 3)
def rdEnt (b : List Int) : Ent × Int := rdE (rWant 7 1 (rOpen b))
set_option maxRecDepth 20000 in
set_option maxHeartbeats 1500000 in
theorem eread_ok (b : List Int) (hb : Byt b) (hl : b.length ≤ 1000000000) : ACall Tryz.prog 40 [.ro b.length (bys b)] (.tuple [.agg (entC (rdEnt b).1), .int .i64 (rdEnt b).2]) [] := by
 have k0 := rOpen_rok hb hl
 have h0 := open_ok b hb (by omega)
 unfold rdEnt
 generalize rOpen b = r0 at k0 h0 ⊢
 have h1 := rwant_ok r0 7 1
 have k1 := rWant_rok k0 7 1
 generalize rWant 7 1 r0 = r1 at h1 k1 ⊢
 unfold rdE
 have h2 := rid_ok' r1
 have k2 := rArr_rok k1 32
 generalize rArr 32 r1 = q at h2 k2 ⊢
 obtain ⟨au, r2⟩ := q
 dsimp only at h2 k2 ⊢
 have h3 := rnum_ok r2
 have k3 := rNext_rok k2.1 1
 generalize rNext 1 r2 = q at h3 k3 ⊢
 obtain ⟨s, r3⟩ := q
 dsimp only at h3 k3 ⊢
 have h4 := rid_ok' r3
 have k4 := rArr_rok k3.1 32
 generalize rArr 32 r3 = q at h4 k4 ⊢
 obtain ⟨prev, r4⟩ := q
 dsimp only at h4 k4 ⊢
 have h5 := rnum_ok r4
 have k5 := rNext_rok k4.1 1
 generalize rNext 1 r4 = q at h5 k5 ⊢
 obtain ⟨st, r5⟩ := q
 dsimp only at h5 k5 ⊢
 have h6 := rlist_ok r5
 have k6 := rNext_rok k5.1 5
 generalize rNext 5 r5 = q at h6 k6 ⊢
 obtain ⟨li, r6⟩ := q
 dsimp only at h6 k6 ⊢
 have h7 := rnum_ok r6
 have k7 := rNext_rok k6.1 1
 generalize rNext 1 r6 = q at h7 k7 ⊢
 obtain ⟨ki, r7⟩ := q
 dsimp only at h7 k7 ⊢
 have k8 := rNext_rok k7.1 4
 have h8 := rtext_ok r7 k8.2.1.2.2
 generalize rNext 4 r7 = q at h8 k8 ⊢
 obtain ⟨ke, r8⟩ := q
 dsimp only at h8 k8 ⊢
 have h9 := rstr_ok r8
 have k9 := rNext_rok k8.1 3
 generalize rNext 3 r8 = q at h9 k9 ⊢
 obtain ⟨va, r9⟩ := q
 dsimp only at h9 k9 ⊢
 have h10 := rsig_ok' r9
 have k10 := rArr_rok k9.1 64
 generalize rArr 64 r9 = q at h10 k10 ⊢
 obtain ⟨sig, r10⟩ := q
 dsimp only at h10 k10 ⊢
 have h11 := rdone_ok r10
 generalize (!r10.bad && decide (r10.l = [])) = dn at h11 ⊢
 have hcl := bclone_ok va.b (by have := k9.2.2; omega)
 have he : EntS ⟨au, s.n, prev, st.n, ki.n, ke.b, va.b, sig⟩ :=
  { au := k2.2, seq := k3.2.1.2.1, prev := k4.2, stamp := k5.2.1.2.1, kind := k7.2.1.2.1, key := ⟨k8.2.1.2.2, by have := k8.2.2; dsimp only; omega⟩, val := ⟨k9.2.1.2.2, by have := k9.2.2; dsimp only; omega⟩, sig := k10.2, key' := k8.2.2, val' := k9.2.2 }
 have h12 := check_entry_ok _ he
 refine ACall.of_does TTok Tryz.func40 rfl Tryz.call40 rfl (wpc_sound (M := ME) (PL := PL0) (CU := cutAt [100004, 100007, 100008, 100010]) TTok mixed _ _ _ ?_)
 conv => whnf
 repeat ((first | refine ⟨pureL_bys _, ?_⟩ | refine ⟨rfl, ?_⟩); conv => whnf)
 refine ⟨_, _, h0, by first | rfl | simp [noRoIf, noRoL, noRoV, noRoL_bys], ?_⟩
 conv => whnf
 repeat ((first | refine ⟨rfl, ?_⟩ | (refine And.intro ?_ ?_; (focus (first | (simp only [pureL, pureV, pureL_bys, Bool.and_true, Bool.and_self]; done) | (simp only [pureL, pureV, pureL_bys, pureL_toks, Bool.and_true, Bool.and_self]; done))))); conv => whnf)
 refine ⟨_, _, h1, by first | rfl | simp [noRoIf, noRoL, noRoV, noRoL_bys], ?_⟩
 conv => whnf
 repeat ((first | refine ⟨rfl, ?_⟩ | (refine And.intro ?_ ?_; (focus (first | (simp only [pureL, pureV, pureL_bys, Bool.and_true, Bool.and_self]; done) | (simp only [pureL, pureV, pureL_bys, pureL_toks, Bool.and_true, Bool.and_self]; done))))); conv => whnf)
 refine ⟨_, _, h2, by first | rfl | simp [noRoIf, noRoL, noRoV, noRoL_bys], ?_⟩
 conv => whnf
 repeat ((first | refine ⟨rfl, ?_⟩ | (refine And.intro ?_ ?_; (focus (first | (simp only [pureL, pureV, pureL_bys, Bool.and_true, Bool.and_self]; done) | (simp only [pureL, pureV, pureL_bys, pureL_toks, Bool.and_true, Bool.and_self]; done))))); conv => whnf)
 refine ⟨_, _, h3, by first | rfl | simp [noRoIf, noRoL, noRoV, noRoL_bys], ?_⟩
 conv => whnf
 repeat ((first | refine ⟨rfl, ?_⟩ | (refine And.intro ?_ ?_; (focus (first | (simp only [pureL, pureV, pureL_bys, Bool.and_true, Bool.and_self]; done) | (simp only [pureL, pureV, pureL_bys, pureL_toks, Bool.and_true, Bool.and_self]; done))))); conv => whnf)
 refine ⟨_, _, h4, by first | rfl | simp [noRoIf, noRoL, noRoV, noRoL_bys], ?_⟩
 conv => whnf
 repeat ((first | refine ⟨rfl, ?_⟩ | (refine And.intro ?_ ?_; (focus (first | (simp only [pureL, pureV, pureL_bys, Bool.and_true, Bool.and_self]; done) | (simp only [pureL, pureV, pureL_bys, pureL_toks, Bool.and_true, Bool.and_self]; done))))); conv => whnf)
 refine ⟨_, _, h5, by first | rfl | simp [noRoIf, noRoL, noRoV, noRoL_bys], ?_⟩
 conv => whnf
 repeat ((first | refine ⟨(⟨by kernel_rfl, by kernel_rfl, Nat.le_of_ble_eq_true (by kernel_rfl)⟩ : AV.ones _ = true ∧ _ ∧ _), ?_⟩ | refine ⟨rfl, ?_⟩ | refine ⟨⟨rfl, rfl⟩, ?_⟩); conv => whnf)
 refine Does.tidy [(2, .ptr 0 0), (4, .ptr 1 0), (5, .ptr 2 0)] [(0, zeroE), (1, rowC r5), (2, c32 au (.int .i64 s.n :: c32 prev (.int .i64 st.n :: .int .i64 0 :: .str [] :: .nil :: c64 z64 [])))] 3 45 rfl rfl rfl (by kernel_rfl) (by kernel_rfl) ?_
 clear h0 h1 h2 h3 h4 h5
 refine wpc_sound (M := ME) (PL := PL0) (CU := noCut) TTok mixed _ _ _ ?_
 conv => whnf
 repeat ((first | refine ⟨rfl, ?_⟩ | (refine And.intro ?_ ?_; (focus (first | (simp only [pureL, pureV, pureL_bys, Bool.and_true, Bool.and_self]; done) | (simp only [pureL, pureV, pureL_bys, pureL_toks, Bool.and_true, Bool.and_self]; done))))); conv => whnf)
 refine ⟨_, _, h6, by first | rfl | simp [noRoIf, noRoL, noRoV, noRoL_bys], ?_⟩
 conv => whnf
 by_cases c1 : li.n ≠ 3
 ·rw [if_pos c1]
  refine ifB_pos (dt c1) ?_
  conv => whnf
  repeat ((first | refine ⟨(⟨by kernel_rfl, by kernel_rfl, Nat.le_of_ble_eq_true (by kernel_rfl)⟩ : AV.ones _ = true ∧ _ ∧ _), ?_⟩ | refine ⟨_, rfl, ?_⟩); conv => whnf)
  refine ent0_int_dems (by kernel_rfl) ?_
  rfl
 rw [if_neg c1]
 refine ifB_neg (df c1) ?_
 conv => whnf
 repeat ((first | refine ⟨rfl, ?_⟩ | (refine And.intro ?_ ?_; (focus (first | (simp only [pureL, pureV, pureL_bys, Bool.and_true, Bool.and_self]; done) | (simp only [pureL, pureV, pureL_bys, pureL_toks, Bool.and_true, Bool.and_self]; done))))); conv => whnf)
 refine ⟨_, _, h7, by first | rfl | simp [noRoIf, noRoL, noRoV, noRoL_bys], ?_⟩
 conv => whnf
 repeat ((first | refine ⟨rfl, ?_⟩ | (refine And.intro ?_ ?_; (focus (first | (simp only [pureL, pureV, pureL_bys, Bool.and_true, Bool.and_self]; done) | (simp only [pureL, pureV, pureL_bys, pureL_toks, Bool.and_true, Bool.and_self]; done))))); conv => whnf)
 refine ⟨_, _, h8, by first | rfl | simp [noRoIf, noRoL, noRoV, noRoL_bys], ?_⟩
 conv => whnf
 repeat ((first | refine ⟨rfl, ?_⟩ | (refine And.intro ?_ ?_; (focus (first | (simp only [pureL, pureV, pureL_bys, Bool.and_true, Bool.and_self]; done) | (simp only [pureL, pureV, pureL_bys, pureL_toks, Bool.and_true, Bool.and_self]; done))))); conv => whnf)
 refine ⟨_, _, h9, by first | rfl | simp [noRoIf, noRoL, noRoV, noRoL_bys], ?_⟩
 conv => whnf
 repeat ((first | refine ⟨pureL_bys _, ?_⟩ | refine ⟨rfl, ?_⟩); conv => whnf)
 refine ⟨_, _, hcl, by first | rfl | simp [noRoIf, noRoL, noRoV, noRoL_bys], ?_⟩
 conv => whnf
 repeat ((refine ⟨(⟨by kernel_rfl, by kernel_rfl, Nat.le_of_ble_eq_true (by kernel_rfl)⟩ : AV.ones _ = true ∧ _ ∧ _), ?_⟩); conv => whnf)
 refine Does.tidy [(2, .ptr 0 0), (4, .ptr 1 0), (5, .ptr 2 0)] [(0, zeroE), (1, rowC r9), (2, entV ⟨au, s.n, prev, st.n, ki.n, ke.b, va.b, z64⟩ (.sl 3 0 va.b.length 1 false)), (3, bys va.b)] 4 45 rfl rfl rfl (by kernel_rfl) (by kernel_rfl) ?_
 clear h6 h7 h8 h9 hcl
 refine wpc_sound (M := ME) (PL := PL0) (CU := noCut) TTok mixed _ _ _ ?_
 conv => whnf
 repeat ((first | refine ⟨rfl, ?_⟩ | (refine And.intro ?_ ?_; (focus (first | (simp only [pureL, pureV, pureL_bys, Bool.and_true, Bool.and_self]; done) | (simp only [pureL, pureV, pureL_bys, pureL_toks, Bool.and_true, Bool.and_self]; done))))); conv => whnf)
 refine ⟨_, _, h10, by first | rfl | simp [noRoIf, noRoL, noRoV, noRoL_bys], ?_⟩
 conv => whnf
 repeat ((refine ⟨(⟨by kernel_rfl, by kernel_rfl, Nat.le_of_ble_eq_true (by kernel_rfl)⟩ : AV.ones _ = true ∧ _ ∧ _), ?_⟩); conv => whnf)
 refine Does.freeze 3 rfl (Does.tidy [(2, .ptr 0 0), (4, .ptr 1 0), (5, .ptr 2 0)] [(0, zeroE), (1, rowC r10), (2, entC ⟨au, s.n, prev, st.n, ki.n, ke.b, va.b, sig⟩)] 4 45 rfl rfl rfl (by kernel_rfl) (by rw [← entV_whole]; kernel_rfl) ?_)
 clear h10
 generalize (⟨au, s.n, prev, st.n, ki.n, ke.b, va.b, sig⟩ : Ent) = e at h12 ⊢
 refine wpc_sound (M := ME) (PL := PL0) (CU := noCut) TTok mixed _ _ _ ?_
 conv => whnf
 repeat ((first | refine ⟨rfl, ?_⟩ | (refine And.intro ?_ ?_; (focus (first | (simp only [pureL, pureV, pureL_bys, Bool.and_true, Bool.and_self]; done) | (simp only [pureL, pureV, pureL_bys, pureL_toks, Bool.and_true, Bool.and_self]; done))))); conv => whnf)
 refine ⟨_, _, h11, by first | rfl | simp [noRoIf, noRoL, noRoV, noRoL_bys], ?_⟩
 conv => whnf
 cases dn
 ·conv => whnf
  repeat ((first | refine ifB_t ?_ | refine ⟨(⟨by kernel_rfl, by kernel_rfl, Nat.le_of_ble_eq_true (by kernel_rfl)⟩ : AV.ones _ = true ∧ _ ∧ _), ?_⟩ | refine ⟨_, rfl, ?_⟩); conv => whnf)
  refine ent0_int_dems (by kernel_rfl) ?_
  rfl
 simp only [if_true]
 cases c2 : entR e <;> rw [c2] at h12
 ·conv => whnf
  repeat ((first | refine ifB_f ?_ | refine ⟨entC_pure _, ?_⟩ | refine ⟨rfl, ?_⟩ | refine ⟨_, rfl, ?_⟩); conv => whnf)
  refine ⟨_, _, h12, by first | rfl | simp [noRoIf, noRoL, noRoV, noRoL_bys], ?_⟩
  conv => whnf
  repeat ((first | refine ifB_t ?_ | refine ifB_f ?_ | refine ⟨(⟨by kernel_rfl, by kernel_rfl, Nat.le_of_ble_eq_true (by kernel_rfl)⟩ : AV.ones _ = true ∧ _ ∧ _), ?_⟩ | refine ⟨_, rfl, ?_⟩); conv => whnf)
  refine ent0_int_dems (by kernel_rfl) ?_
  rfl
 ·conv => whnf
  repeat ((first | refine ifB_f ?_ | refine ⟨entC_pure _, ?_⟩ | refine ⟨rfl, ?_⟩ | refine ⟨_, rfl, ?_⟩); conv => whnf)
  refine ⟨_, _, h12, by first | rfl | simp [noRoIf, noRoL, noRoV, noRoL_bys], ?_⟩
  conv => whnf
  repeat ((refine ifB_f ?_); conv => whnf)
  refine Does.tidy [(2, .ptr 0 0), (5, .ptr 2 0)] [(0, zeroE), (1, rowC r10), (2, entC e)] 4 45 rfl rfl rfl (by kernel_rfl) (by kernel_rfl) ?_
  refine wpc_sound (M := ME) (PL := PL0) (CU := noCut) TTok mixed _ _ _ ?_
  conv => whnf
  refine ⟨entC e, by kernel_rfl, ?_⟩
  conv => whnf
  refine ⟨(⟨by kernel_rfl, by kernel_rfl, Nat.le_of_ble_eq_true (by kernel_rfl)⟩ : AV.ones _ = true ∧ _ ∧ _), ?_⟩
  conv => whnf
  refine ⟨entC e, by kernel_rfl, ?_⟩
  conv => whnf
  refine ent_int_dems (by kernel_rfl) ?_
  rfl
end
section
--KR
attribute [local irreducible] ifB fitP Does Weaker
structure Prf where
 a : Ent
 b : Ent
 deriving DecidableEq
def prfC (p : Prf) : List AV := entC p.a ++ entC p.b
structure PrfS (p : Prf) : Prop where
 a : EntS p.a
 b : EntS p.b
def prf0 : Prf := ⟨ent0, ent0⟩
theorem entB_byt {e : Ent} (he : EntS e) : Byt (entB e).1 ∧ (entB e).1.length ≤ 32768 := by
 unfold entB
 split
 ·refine ⟨encR_byt _ (entTs_ok e he).1, ?_⟩
  rcases encR_or validR (entTs e) with h | ⟨a, h⟩
  ·rw [h]; simp
  ·have := encR_len h
   rw [h]; exact this
 ·exact ⟨fun x hx => absurd hx (List.not_mem_nil), by simp⟩
theorem ent_dems' {H : Heap} (e : Ent) {r q : List AV} {K : List Nat → Prop} (h : demsP H r q K) : demsP H (entC e ++ r) (entC e ++ q) K := by
 unfold entC
 simp only [c32_app, List.cons_append]
 refine c32_dems ?_
 simp only [demsP, demP, and_self, true_and, List.nil_append]
 refine c32_dems ?_
 simp only [demsP, demP, and_self, true_and, List.nil_append]
 refine ⟨pureL_bys _, ?_⟩
 simp only [c64_app]
 exact c64_dems h
theorem ent0_dems' {H : Heap} {r q : List AV} {K : List Nat → Prop} (h : demsP H r q K) : demsP H (entC ent0 ++ r) (zeroE ++ q) K := by
 unfold entC zeroE entV
 simp only [c32_app, List.cons_append]
 refine c32_dems ?_
 simp only [demsP, demP, and_self, true_and, List.nil_append]
 refine c32_dems ?_
 simp only [demsP, demP, and_self, true_and, List.nil_append]
 refine ⟨⟨rfl, rfl⟩, ?_⟩
 simp only [c64_app]
 exact c64_dems h
theorem prf_int_dems {H : Heap} {p : Prf} {n : Int} {zs : List AV} {K : List Nat → Prop} (hz : zs = prfC p) (h : K []) : demsP H [.tuple [.agg (prfC p), .int .i64 n]] [.tuple [.agg zs, .int .i64 n]] K := by
 subst hz
 simp only [demsP, demP]
 refine ent_dems' p.a ?_
 refine ent_dems p.b ?_
 simpa only [and_self, true_and, List.nil_append] using h
theorem prf0_int_dems {H : Heap} {n : Int} {zs : List AV} {K : List Nat → Prop} (hz : zs = zeroE ++ zeroE) (h : K []) : demsP H [.tuple [.agg (prfC prf0), .int .i64 n]] [.tuple [.agg zs, .int .i64 n]] K := by
 subst hz
 simp only [demsP, demP]
 refine ent0_dems' ?_
 refine ent0_dems ?_
 simpa only [and_self, true_and, List.nil_append] using h
def ordR (a b : Ent) : Int := if (entB a).2 ≠ 0 then 0 else if (entB b).2 ≠ 0 then 0 else if a.au ≠ b.au then 0 else if a.seq ≠ b.seq then 0 else cmpI (entB a).1 (entB b).1
def prfR (p : Prf) : Bool := decide (ordR p.a p.b < 0)
set_option maxHeartbeats 1000000 in
theorem order_ok (a b : Ent) (ha : EntS a) (hb : EntS b) : ACall Tryz.prog 46 [.agg (entC a), .agg (entC b)] (.int .i64 (ordR a b)) [] := by
 have h1 := ebytes_ok a ha
 have h2 := ebytes_ok b hb
 have b1 := entB_byt ha
 have b2 := entB_byt hb
 unfold ordR
 generalize entB a = p at h1 b1 ⊢
 generalize entB b = q at h2 b2 ⊢
 obtain ⟨x, e⟩ := p
 obtain ⟨y, f⟩ := q
 dsimp only at h1 b1 h2 b2 ⊢
 have hc := compare_ok x y b1.1 b2.1
 refine ACall.of_does TTok Tryz.func46 rfl Tryz.call46 rfl (wpc_sound (M := ME) (PL := PL0) (CU := cutAt [100003]) TTok mixed _ _ _ ?_)
 conv => whnf
 repeat ((first | refine ⟨entC_pure _, ?_⟩ | refine ⟨rfl, ?_⟩ | refine ⟨_, rfl, ?_⟩); conv => whnf)
 refine ⟨_, _, h1, by first | rfl | simp [noRoIf, noRoL, noRoV, noRoL_bys], ?_⟩
 conv => whnf
 repeat ((first | refine ⟨entC_pure _, ?_⟩ | refine ⟨rfl, ?_⟩ | refine ⟨_, rfl, ?_⟩); conv => whnf)
 refine ⟨_, _, h2, by first | rfl | simp [noRoIf, noRoL, noRoV, noRoL_bys], ?_⟩
 conv => whnf
 refine Does.tidy [(2, .ptr 0 0), (3, .ptr 1 0), (5, .sl 2 0 x.length 1 false), (6, .int .i64 e), (7, .sl 3 0 y.length 1 false), (8, .int .i64 f)] [(0, entC a), (1, entC b), (2, bys x), (3, bys y)] 4 42 rfl rfl rfl (by kernel_rfl) (by kernel_rfl) ?_
 refine wpc_sound (M := ME) (PL := PL0) (CU := noCut) TTok mixed _ _ _ ?_
 by_cases c1 : e ≠ 0
 ·rw [if_pos c1]
  conv => whnf
  repeat ((first | refine ifB_t ?_ | (refine ifB_pos (decide_eq_true (by first | omega | rfl | (dsimp only; omega))) ?_) | refine ⟨⟨rfl, rfl⟩, ?_⟩); conv => whnf)
  rfl
 rw [if_neg c1]
 by_cases c2 : f ≠ 0
 ·rw [if_pos c2]
  conv => whnf
  repeat ((first | refine ifB_t ?_ | refine ifB_f ?_ | (refine ifB_neg (decide_eq_false (by first | omega | rfl | (dsimp only; omega))) ?_) | (refine ifB_pos (decide_eq_true (by first | omega | rfl | (dsimp only; omega))) ?_) | refine ⟨⟨rfl, rfl⟩, ?_⟩); conv => whnf)
  rfl
 rw [if_neg c2]
 by_cases c3 : a.au ≠ b.au
 ·rw [if_pos c3]
  conv => whnf
  repeat ((first | refine ifB_f ?_ | (refine ifB_neg (decide_eq_false (by first | omega | rfl | (dsimp only; omega))) ?_) | refine ⟨_, rfl, ?_⟩); conv => whnf)
  refine ⟨a.au, b.au, ⟨rfl, c32_map ha.au.2, c32_map hb.au.2, ha.au.2, hb.au.2⟩, ?_⟩
  conv => whnf
  repeat ((refine ifB_f ?_); conv => whnf)
  rw [df (show ¬ a.au = b.au from c3)]
  conv => whnf
  repeat ((first | refine ifB_t ?_ | refine ⟨⟨rfl, rfl⟩, ?_⟩); conv => whnf)
  rfl
 rw [if_neg c3]
 by_cases c4 : a.seq ≠ b.seq
 ·rw [if_pos c4]
  conv => whnf
  repeat ((first | refine ifB_f ?_ | (refine ifB_neg (decide_eq_false (by first | omega | rfl | (dsimp only; omega))) ?_) | refine ⟨_, rfl, ?_⟩); conv => whnf)
  refine ⟨a.au, b.au, ⟨rfl, c32_map ha.au.2, c32_map hb.au.2, ha.au.2, hb.au.2⟩, ?_⟩
  conv => whnf
  repeat ((refine ifB_f ?_); conv => whnf)
  rw [dt (show a.au = b.au from Classical.not_not.1 c3)]
  conv => whnf
  repeat ((first | refine ifB_f ?_ | (refine ifB_pos (decide_eq_true (by first | omega | rfl | (dsimp only; omega))) ?_) | refine ⟨_, rfl, ?_⟩ | refine ⟨⟨rfl, rfl⟩, ?_⟩); conv => whnf)
  rfl
 rw [if_neg c4]
 conv => whnf
 repeat ((first | refine ifB_f ?_ | (refine ifB_neg (decide_eq_false (by first | omega | rfl | (dsimp only; omega))) ?_) | refine ⟨_, rfl, ?_⟩); conv => whnf)
 refine ⟨a.au, b.au, ⟨rfl, c32_map ha.au.2, c32_map hb.au.2, ha.au.2, hb.au.2⟩, ?_⟩
 conv => whnf
 repeat ((refine ifB_f ?_); conv => whnf)
 rw [dt (show a.au = b.au from Classical.not_not.1 c3)]
 conv => whnf
 repeat ((first | refine ifB_f ?_ | (refine ifB_neg (decide_eq_false (by first | omega | rfl | (dsimp only; omega))) ?_) | refine ⟨pureL_bys _, ?_⟩ | (refine Or.inl ⟨⟨rfl, ?_⟩, ?_⟩; (focus (first | rfl | (simp; done) | (rw [toksC_length]; omega)))) | refine ⟨rfl, ?_⟩ | refine ⟨_, rfl, ?_⟩); conv => whnf)
 refine ⟨_, _, hc, by first | rfl | simp [noRoIf, noRoL, noRoV, noRoL_bys], ?_⟩
 conv => whnf
 repeat ((refine ⟨⟨rfl, rfl⟩, ?_⟩); conv => whnf)
 rfl
set_option maxRecDepth 20000 in
set_option maxHeartbeats 1000000 in
theorem check_proof_ok (p : Prf) (hp : PrfS p) : ACall Tryz.prog 18 [.agg (prfC p)] (.int .i64 (if prfR p then 0 else 1)) [] := by
 have h := order_ok p.a p.b hp.a hp.b
 unfold prfR
 refine ACall.of_does TTok Tryz.func18 rfl Tryz.call18 rfl (wpc_sound (M := ME) (PL := PL0) (CU := noCut) TTok mixed _ _ _ ?_)
 conv => whnf
 repeat ((first | refine ⟨entC_pure _, ?_⟩ | refine ⟨rfl, ?_⟩ | refine ⟨_, rfl, ?_⟩); conv => whnf)
 refine ⟨_, _, h, by first | rfl | simp [noRoIf, noRoL, noRoV, noRoL_bys], ?_⟩
 conv => whnf
 refine ifB_dec (fun c => ?_) (fun c => ?_)
 ·rw [df (show ¬ ordR p.a p.b < 0 by omega)]
  conv => whnf
  repeat ((refine ⟨⟨rfl, rfl⟩, ?_⟩); conv => whnf)
  rfl
 ·rw [dt (show ordR p.a p.b < 0 by omega)]
  conv => whnf
  repeat ((refine ⟨⟨rfl, rfl⟩, ?_⟩); conv => whnf)
  rfl
end
section
--KR
attribute [local irreducible] ifB fitP Does Weaker demsP
end
section
--KR
section rows
variable {α : Type}
def rowsC (f : α → List AV) : List α → List AV
 | [] => []
 | x :: r => f x ++ rowsC f r
theorem rowsC_length {f : α → List AV} {n : Nat} (hf : ∀ x, (f x).length = n) : ∀ l : List α, (rowsC f l).length = n * l.length
 | [] => rfl
 | e :: r => by simp only [rowsC, List.length_append, hf, rowsC_length hf r, List.length_cons, Nat.mul_add]; omega
theorem rowsC_pure {f : α → List AV} (hf : ∀ x, pureL (f x) = true) : ∀ l : List α, pureL (rowsC f l) = true
 | [] => rfl
 | e :: r => by simp only [rowsC, pureL_app, hf, rowsC_pure hf r, Bool.and_self]
theorem rowsC_drop {f : α → List AV} {n : Nat} (hf : ∀ x, (f x).length = n) : ∀ (l : List α) (j : Nat), (rowsC f l).drop (n * j) = rowsC f (l.drop j)
 | [], j => by simp [rowsC]
 | e :: r, 0 => by simp [rowsC]
 | e :: r, j + 1 => by
  simp only [rowsC, List.drop_succ_cons, ← rowsC_drop hf r j]
  rw [show n * (j + 1) = (f e).length + n * j by rw [hf, Nat.mul_add]; omega, List.drop_append]
  simp
theorem rowsC_at {f : α → List AV} {n : Nat} (hf : ∀ x, (f x).length = n) {l : List α} {j m : Nat} (h : j < l.length) (hm : m = n * j) : (rowsC f l).drop m = f l[j] ++ rowsC f (l.drop (j + 1)) := by
 subst hm
 rw [rowsC_drop hf, List.drop_eq_getElem_cons h]
 rfl
end rows
theorem prfC_length (p : Prf) : (prfC p).length = 266 := by simp [prfC, entC_length]
theorem prfC_pure (p : Prf) : pureL (prfC p) = true := by simp [prfC, pureL_app, entC_pure]
theorem entC_les {o : Nat → Option Nat} (e : Ent) : lesP o (entC e) (entC e) := lesP_ent e rfl
structure Hd where
 au : List Int
 len : Int
 id : List Int
 shut : Bool
 deriving DecidableEq
def hdC (h : Hd) : List AV := c32 h.au (.int .i64 h.len :: c32 h.id [.bool h.shut])
structure HdS (h : Hd) : Prop where
 au : Byt h.au ∧ h.au.length = 32
 len : -9223372036854775808 ≤ h.len ∧ h.len < 9223372036854775808
 id : Byt h.id ∧ h.id.length = 32
theorem hdC_length (h : Hd) : (hdC h).length = 66 := by simp [hdC, c32_len]
theorem hdC_pure (h : Hd) : pureL (hdC h) = true := by simp [hdC, c32_pure, pureL, pureV]
structure Msg where
 kind : Int
 frm : Int
 to : Int
 hs : List Hd
 ps : List Prf
 es : List Ent
 deriving DecidableEq
def msgC (m : Msg) : List AV := [.int .i64 m.kind, .int .i64 m.frm, .int .i64 m.to, .ro m.hs.length (rowsC hdC m.hs), .ro m.ps.length (rowsC prfC m.ps), .ro m.es.length (rowsC entC m.es)]
structure MsgS (m : Msg) : Prop where
 kind : -9223372036854775808 ≤ m.kind ∧ m.kind < 9223372036854775808
 frm : -9223372036854775808 ≤ m.frm ∧ m.frm < 9223372036854775808
 to : -9223372036854775808 ≤ m.to ∧ m.to < 9223372036854775808
 hs : ∀ h ∈ m.hs, HdS h
 ps : ∀ p ∈ m.ps, PrfS p
 es : ∀ e ∈ m.es, EntS e
 hl : m.hs.length ≤ 1000000000
 pl : m.ps.length ≤ 1000000000
 el : m.es.length ≤ 1000000000
theorem hds_len (l : List Hd) : (rowsC hdC l).length = 66 * l.length := rowsC_length hdC_length l
theorem prfs_len (l : List Prf) : (rowsC prfC l).length = 266 * l.length := rowsC_length prfC_length l
theorem ents_len (l : List Ent) : (rowsC entC l).length = 133 * l.length := rowsC_length entC_length l
theorem hds_pure (l : List Hd) : pureL (rowsC hdC l) = true := rowsC_pure hdC_pure l
theorem prfs_pure (l : List Prf) : pureL (rowsC prfC l) = true := rowsC_pure prfC_pure l
theorem ents_pure (l : List Ent) : pureL (rowsC entC l) = true := rowsC_pure entC_pure l
theorem msgC_pure (m : Msg) : pureL (msgC m) = true := by simp [msgC, pureL, pureV, hds_pure, prfs_pure, ents_pure]
end
section
--KR
attribute [local irreducible] ifB fitP Does Weaker
def MW : FuncId → List Mode := orElse [(999999, [.rd]), (999999, [.rd]), (999999, [.rd]), (999999, [.rd]), (999999, [.rd]), (999999, [rowM]), (999999, [rowM]),
 (999999, [.rd, .rd]), (999999, [.rd, .rd]), (999999, [.rd, .rd]),
 (999999, [.rd, .rd]), (999999, [.rd]), (999999, [.rd])] ME
end
section
--KR
attribute [local irreducible] ifB fitP Does Weaker
end
section
--KR
attribute [local irreducible] ifB fitP Does Weaker
end
section
--KR
attribute [local irreducible] ifB fitP Does Weaker
end
section
--KR
attribute [local irreducible] ifB fitP Does Weaker
end
section
--KR
attribute [local irreducible] ifB fitP Does Weaker
end
section

theorem roOf_own {E' : Env} {Z : Nat → Prop} {len esz : Nat} {cs : List AV} {u : Value} {Y : List Nat} (hV : ∀ b, Z b → E'.V b) (hZ : ∀ b ∈ Y, ¬ Z b) (h : RepB E' (.own len esz cs) u Y) :
  RepB ⟨E'.η, E'.ρ, Z, E'.w⟩ (.ro len cs) u [] := by
 simp only [RepB] at h ⊢
 obtain ⟨hp, a, cap, rfl, hl, hc⟩ := h
 refine ⟨by simpa [pureV] using hp, ?_, trivial⟩
 simp only [RepV]
 refine ⟨a, cap, rfl, hl, ?_⟩
 rcases hc with ⟨_, hcs, _⟩ | ⟨n, c, e, fr, rfl, rfl, hh, _, _, hcl, hr⟩
 ·exact .inl hcs
 ·refine .inr ⟨n, 0, rfl, hZ n (by simp), ?_⟩
  refine repM_of_get _ _ _ fun j x hx => ?_
  have hr' := pureL_rep (E := E') (E' := ⟨E'.η, E'.ρ, Z, E'.w⟩) ⟨rfl, rfl⟩ hV cs _ hp hr
  obtain ⟨u, hu, hru⟩ := repL_get _ _ hr' j x hx
  have hj : j < cs.length := by
   rcases Nat.lt_or_ge j cs.length with h' | h'
   ·exact h'
   ·rw [List.getElem?_eq_none h'] at hx; cases hx
  rw [List.getElem?_take_of_lt hj, Array.getElem?_toList] at hu
  exact ⟨u, by simp [World.cell?, hh, hu], hru⟩
theorem ACall.roRes {P : Program} {f : FuncId} {args : List AV} {len esz : Nat} {cs : List AV} (h : ACall P f args (.own len esz cs) []) : ACall P f args (.ro len cs) [] := by
 refine ⟨h.1, fun Z E vals X hh hr hn hz => ?_⟩
 refine (h.2 Z E vals X hh hr hn hz).mono ?_
 rintro e w' ⟨v, E', Xr, he, hw, hη, hev, hV, hB, hnd, hX⟩
 refine ⟨v, ⟨E'.η, E'.ρ, Z, E'.w⟩, [], he, hw, hη, hev, fun b => by simp, ?_, List.nodup_nil, fun b hb => absurd hb (List.not_mem_nil)⟩
 simp only [List.nil_append, RepBL] at hB ⊢
 obtain ⟨u, us, Y, Y', e1, e2, h1, h2, h3⟩ := hB
 refine ⟨u, us, [], [], e1, rfl, ?_, h2, rfl⟩
 exact roOf_own (fun b hb => (hV b).2 (.inl hb)) (fun b hb => (hX b (by rw [e2]; exact List.mem_append_left _ hb)).1) h1
theorem ACall.roRes2 {P : Program} {f : FuncId} {args : List AV} {len esz : Nat} {cs : List AV} {y : AV} (hy : (∃ k n, y = .int k n) ∨ ∃ b, y = .bool b) (h : ACall P f args (.tuple [.own len esz cs, y]) []) : ACall P f args (.tuple [.ro len cs, y]) [] := by
 refine ⟨h.1, fun Z E vals X hh hr hn hz => ?_⟩
 refine (h.2 Z E vals X hh hr hn hz).mono ?_
 rintro e w' ⟨v, E', Xr, he, hw, hη, hev, hV, hB, hnd, hX⟩
 refine ⟨v, ⟨E'.η, E'.ρ, Z, E'.w⟩, [], he, hw, hη, hev, fun b => by simp, ?_, List.nodup_nil, fun b hb => absurd hb (List.not_mem_nil)⟩
 simp only [List.nil_append, RepBL] at hB ⊢
 obtain ⟨u, us, Y, Y', e1, e2, h1, h2, h3⟩ := hB
 refine ⟨u, us, [], [], e1, rfl, ?_, h2, rfl⟩
 simp only [RepB, RepBL] at h1 ⊢
 obtain ⟨vs, rfl, u1, us1, Y1, Y2, f1, f2, k1, u2, us2, Y3, Y4, f3, f4, k2, k3, k4⟩ := h1
 refine ⟨vs, rfl, u1, us1, [], [], f1, rfl, ?_, u2, us2, [], [], f3, rfl, ?_, k3, rfl⟩
 ·exact roOf_own (fun b hb => (hV b).2 (.inl hb)) (fun b hb => (hX b (by rw [e2, f2]; exact List.mem_append_left _ (List.mem_append_left _ hb))).1) k1
 ·rcases hy with ⟨k, n, rfl⟩ | ⟨b, rfl⟩
  ·simp only [RepB, pureV, RepV] at k2 ⊢
   exact ⟨trivial, k2.2.1, trivial⟩
  ·simp only [RepB, pureV, RepV] at k2 ⊢
   exact ⟨trivial, k2.2.1, trivial⟩
end
section
--KR
attribute [local irreducible] ifB fitP Does Weaker
def MK : FuncId → List Mode := orElse [(48, [.rd, .rd]), (13, [.rd, .rd]), (14, [.rd, .rd]), (22, [.rd, .rd]), (999999, [.rd, .rd]), (999999, [.rd, .rd]), (999999, [.rd, .rd]), (999999, [.rd, .rd]), (41, [.rd, .rd]),
 (11, [.rd]), (57, [.rd]), (29, [.rd]), (999999, [.rd])] MW
def opEq (a b : Ent) : Bool := decide (a.kind = b.kind) && decide (a.key = b.key) && decide (a.val = b.val)
theorem kop_ok (a b : Ent) (ha : EntS a) : ACall Tryz.prog 48 [.agg (opC a), .agg (opC b)] (.bool (opEq a b)) [] := by
 have h := bytes_ok a.val b.val (by have := ha.val'; omega)
 unfold opEq
 refine ACall.of_does TTok Tryz.func48 rfl Tryz.call48 rfl (wpc_sound (M := MK) (PL := PL0) (CU := noCut) TTok mixed _ _ _ ?_)
 by_cases c1 : a.kind = b.kind
 ·rw [dt c1]
  by_cases c2 : a.key = b.key
  ·rw [dt c2]
   conv => whnf
   repeat ((first | refine ifB_t ?_ | (refine ifB_pos (decide_eq_true (by first | omega | rfl | (dsimp only; omega))) ?_) | refine ⟨pureL_bys _, ?_⟩ | refine ⟨rfl, ?_⟩ | refine ⟨_, rfl, ?_⟩); conv => whnf)
   refine ⟨_, _, h, by first | rfl | simp [noRoIf, noRoL, noRoV, noRoL_bys], ?_⟩
   conv => whnf
   repeat ((first | refine ifB_t ?_ | refine ⟨rfl, ?_⟩); conv => whnf)
   rfl
  ·rw [df c2]
   conv => whnf
   repeat ((first | refine ifB_t ?_ | refine ifB_f ?_ | (refine ifB_neg (decide_eq_false (by first | omega | rfl | (dsimp only; omega))) ?_) | (refine ifB_pos (decide_eq_true (by first | omega | rfl | (dsimp only; omega))) ?_) | refine ⟨rfl, ?_⟩ | refine ⟨_, rfl, ?_⟩); conv => whnf)
   rfl
 ·rw [df c1]
  conv => whnf
  repeat ((first | refine ifB_f ?_ | (refine ifB_neg (decide_eq_false (by first | omega | rfl | (dsimp only; omega))) ?_) | refine ⟨rfl, ?_⟩ | refine ⟨_, rfl, ?_⟩); conv => whnf)
  rfl
theorem ent_eq (a b : Ent) : decide (a = b) = (decide (a.au = b.au) && decide (a.seq = b.seq) && decide (a.prev = b.prev) && decide (a.stamp = b.stamp) && opEq a b && decide (a.sig = b.sig)) := by
 unfold opEq
 obtain ⟨a1, a2, a3, a4, a5, a6, a7, a8⟩ := a
 obtain ⟨b1, b2, b3, b4, b5, b6, b7, b8⟩ := b
 rw [Bool.eq_iff_iff]
 simp only [Bool.and_eq_true, decide_eq_true_eq, Ent.mk.injEq]
 constructor
 ·rintro ⟨rfl, rfl, rfl, rfl, rfl, rfl, rfl, rfl⟩; simp
 ·rintro ⟨⟨⟨⟨⟨rfl, rfl⟩, rfl⟩, rfl⟩, ⟨⟨rfl, rfl⟩, rfl⟩⟩, rfl⟩; simp
set_option maxRecDepth 20000 in
set_option maxHeartbeats 4000000 in
theorem kent_ok (a b : Ent) (ha : EntS a) (hb : EntS b) : ACall Tryz.prog 13 [.agg (entC a), .agg (entC b)] (.bool (decide (a = b))) [] := by
 have h := kop_ok a b ha
 rw [ent_eq]
 refine ACall.of_does TTok Tryz.func13 rfl Tryz.call13 rfl (wpc_sound (M := MK) (PL := PL0) (CU := cutAt [100001]) TTok mixed _ _ _ ?_)
 conv => whnf
 repeat ((refine ⟨rfl, ?_⟩); conv => whnf)
 refine Does.freeze 0 rfl (Does.freeze 1 (zs := entC b) (by show some (frzL 0 _ (entC b)) = _; rw [entC_frz]) (Does.tidy [(2, .rop (entC a)), (3, .rop (entC b))] [] 2 45 rfl rfl rfl (by kernel_rfl) (by kernel_rfl) ?_))
 refine wpc_sound (M := MK) (PL := PL0) (CU := noCut) TTok mixed _ _ _ ?_
 conv => whnf
 repeat ((refine ⟨_, rfl, ?_⟩); conv => whnf)
 refine ⟨a.au, b.au, ⟨rfl, c32_map ha.au.2, c32_map hb.au.2, ha.au.2, hb.au.2⟩, ?_⟩
 conv => whnf
 by_cases c1 : a.au = b.au
 ·rw [dt c1]
  conv => whnf
  repeat ((first | refine ifB_t ?_ | refine ⟨_, rfl, ?_⟩); conv => whnf)
  by_cases c2 : a.seq = b.seq
  ·rw [dt c2]
   conv => whnf
   repeat ((first | refine ifB_t ?_ | refine ⟨_, rfl, ?_⟩); conv => whnf)
   refine ⟨a.prev, b.prev, ⟨rfl, c32_map ha.prev.2, c32_map hb.prev.2, ha.prev.2, hb.prev.2⟩, ?_⟩
   conv => whnf
   repeat ((refine ifB_t ?_); conv => whnf)
   by_cases c3 : a.prev = b.prev
   ·rw [dt c3]
    conv => whnf
    repeat ((first | refine ifB_t ?_ | refine ⟨_, rfl, ?_⟩); conv => whnf)
    by_cases c4 : a.stamp = b.stamp
    ·rw [dt c4]
     conv => whnf
     repeat ((first | refine ifB_t ?_ | refine ⟨entC_pure _, ?_⟩ | refine ⟨rfl, ?_⟩ | refine ⟨_, rfl, ?_⟩); conv => whnf)
     cases c5 : opEq a b <;> rw [c5] at h
     ·refine ⟨_, _, h, by first | rfl | simp [noRoIf, noRoL, noRoV, noRoL_bys], ?_⟩
      conv => whnf
      repeat ((first | refine ifB_t ?_ | refine ifB_f ?_ | refine ⟨rfl, ?_⟩); conv => whnf)
      rfl
     ·refine ⟨_, _, h, by first | rfl | simp [noRoIf, noRoL, noRoV, noRoL_bys], ?_⟩
      conv => whnf
      repeat ((first | refine ifB_t ?_ | refine ⟨_, rfl, ?_⟩); conv => whnf)
      refine ⟨a.sig, b.sig, ⟨rfl, c64_map ha.sig.2, c64_map hb.sig.2, ha.sig.2, hb.sig.2⟩, ?_⟩
      conv => whnf
      repeat ((first | refine ifB_t ?_ | refine ⟨rfl, ?_⟩); conv => whnf)
      rfl
    ·rw [df c4]
     conv => whnf
     repeat ((first | refine ifB_f ?_ | refine ⟨rfl, ?_⟩); conv => whnf)
     rfl
   ·rw [df c3]
    conv => whnf
    repeat ((first | refine ifB_f ?_ | refine ⟨rfl, ?_⟩); conv => whnf)
    rfl
  ·rw [df c2]
   conv => whnf
   repeat ((first | refine ifB_f ?_ | refine ⟨rfl, ?_⟩); conv => whnf)
   rfl
 ·rw [df c1]
  conv => whnf
  repeat ((first | refine ifB_f ?_ | refine ⟨rfl, ?_⟩); conv => whnf)
  rfl
end
section
--KR
attribute [local irreducible] ifB fitP Does Weaker
set_option maxRecDepth 20000 in
set_option maxHeartbeats 4000000 in
theorem kprf_ok (a b : Prf) (ha : PrfS a) (hb : PrfS b) : ACall Tryz.prog 14 [.agg (prfC a), .agg (prfC b)] (.bool (decide (a = b))) [] := by
 have h1 := kent_ok a.a b.a ha.a hb.a
 have h2 := kent_ok a.b b.b ha.b hb.b
 have e : decide (a = b) = (decide (a.a = b.a) && decide (a.b = b.b)) := by
  obtain ⟨x, y⟩ := a
  obtain ⟨z, w⟩ := b
  rw [Bool.eq_iff_iff]
  simp
 rw [e]
 refine ACall.of_does TTok Tryz.func14 rfl Tryz.call14 rfl (wpc_sound (M := MK) (PL := PL0) (CU := cutAt [100001]) TTok mixed _ _ _ ?_)
 conv => whnf
 repeat ((refine ⟨rfl, ?_⟩); conv => whnf)
 refine Does.tidy [(2, .ptr 0 0), (3, .ptr 1 0)] [(0, prfC a), (1, prfC b)] 2 17 rfl rfl rfl (by kernel_rfl) (by kernel_rfl) ?_
 refine wpc_sound (M := MK) (PL := PL0) (CU := noCut) TTok mixed _ _ _ ?_
 by_cases c1 : a.a = b.a
 ·rw [dt c1] at h1 ⊢
  conv => whnf
  repeat ((first | refine ⟨entC_pure _, ?_⟩ | refine ⟨rfl, ?_⟩ | refine ⟨_, rfl, ?_⟩); conv => whnf)
  refine ⟨_, _, h1, by first | rfl | simp [noRoIf, noRoL, noRoV, noRoL_bys], ?_⟩
  conv => whnf
  repeat ((first | refine ifB_t ?_ | refine ⟨entC_pure _, ?_⟩ | refine ⟨rfl, ?_⟩ | refine ⟨_, rfl, ?_⟩); conv => whnf)
  refine ⟨_, _, h2, by first | rfl | simp [noRoIf, noRoL, noRoV, noRoL_bys], ?_⟩
  conv => whnf
  repeat ((first | refine ifB_t ?_ | refine ⟨rfl, ?_⟩); conv => whnf)
  rfl
 ·rw [df c1] at h1 ⊢
  conv => whnf
  repeat ((first | refine ⟨entC_pure _, ?_⟩ | refine ⟨rfl, ?_⟩ | refine ⟨_, rfl, ?_⟩); conv => whnf)
  refine ⟨_, _, h1, by first | rfl | simp [noRoIf, noRoL, noRoV, noRoL_bys], ?_⟩
  conv => whnf
  repeat ((first | refine ifB_f ?_ | refine ⟨rfl, ?_⟩); conv => whnf)
  rfl
end
section
--KR
attribute [local irreducible] ifB fitP Does Weaker
end
section
--KR
attribute [local irreducible] ifB fitP Does Weaker
end
section
--KR
attribute [local irreducible] ifB fitP Does Weaker demsP
theorem entV_val (e : Ent) : entV e (roW e.val) = entC e := by rw [roW_eq]; rfl
theorem ent_dems1 {H : Heap} {e : Ent} {zs : List AV} {K : List Nat → Prop} (hz : zs = entC e) (h : K []) : demsP H [.agg (entC e)] [.agg zs] K := by
 subst hz
 simp only [demsP, demP]
 refine ent_dems e ?_
 simpa only [and_self, true_and, List.nil_append] using h
set_option maxRecDepth 20000 in
set_option maxHeartbeats 2000000 in
theorem ktwin_ok (e : Ent) (he : EntS e) : ACall Tryz.prog 11 [.agg (entC e)] (.agg (entC e)) [] := by
 have h := twin_ok e.val (by have := he.val'; omega)
 refine ACall.of_does TTok Tryz.func11 rfl Tryz.call11 rfl (wpc_sound (M := MK) (PL := PL0) (CU := cutAt [100002]) TTok mixed _ _ _ ?_)
 conv => whnf
 repeat ((first | refine ⟨pureL_bys _, ?_⟩ | refine ⟨rfl, ?_⟩ | refine ⟨_, rfl, ?_⟩); conv => whnf)
 refine ⟨_, _, h, by first | rfl | simp [noRoIf, noRoL, noRoV, noRoL_bys], ?_⟩
 conv => whnf
 repeat ((refine ⟨(⟨by kernel_rfl, by kernel_rfl, Nat.le_of_ble_eq_true (by kernel_rfl)⟩ : AV.ones _ = true ∧ _ ∧ _), ?_⟩); conv => whnf)
 refine Does.freeze 2 rfl (Does.tidy [(1, .ptr 0 0), (2, .ptr 1 0)] [(0, entC e), (1, zeroE)] 3 10 rfl rfl rfl (by kernel_rfl) (by rw [← entV_val]; kernel_rfl) ?_)
 refine wpc_sound (M := MK) (PL := PL0) (CU := noCut) TTok mixed _ _ _ ?_
 conv => whnf
 refine ⟨entC e, by kernel_rfl, ?_⟩
 conv => whnf
 refine ⟨(⟨by kernel_rfl, by kernel_rfl, Nat.le_of_ble_eq_true (by kernel_rfl)⟩ : AV.ones _ = true ∧ _ ∧ _), ?_⟩
 conv => whnf
 refine ⟨entC e, by kernel_rfl, ?_⟩
 conv => whnf
 refine ent_dems1 (by kernel_rfl) ?_
 rfl
end
end Go.Proofs.YtgcmddhdnfmdnaaGreatDoor.Abs
