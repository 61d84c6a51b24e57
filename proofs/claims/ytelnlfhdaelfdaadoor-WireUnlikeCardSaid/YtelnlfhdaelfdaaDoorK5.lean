/- Texts EH to FA6, merged. -/
import Derived.Test.YtelnlfhdaelfdaaDoorK4
section
--KR
set_option linter.unusedVariables false
set_option linter.unusedSimpArgs false
namespace Go.Proofs.YtelnlfhdaelfdaaDoor.Abs
open Go
attribute [local irreducible] ifB fitP Does Weaker demsP
/-- The proof that a row is. -/
def rdP (r : Rw) : Prf × Int :=
  match rNext 3 r with
  | (x, r1) => match rNext 3 r1 with
    | (y, r2) => if (!r2.bad && decide (r2.l = [])) = true then (if (rdEnt x.b).2 ≠ 0 then (prf0, 3) else if (rdEnt y.b).2 ≠ 0 then (prf0, 3) else if prfR ⟨(rdEnt x.b).1, (rdEnt y.b).1⟩ = true then (⟨(rdEnt x.b).1, (rdEnt y.b).1⟩, 0) else (prf0, 3)) else (prf0, 3)
def rdPrf (b : List Int) : Prf × Int := rdP (rWant 3 2 (rOpen b))
set_option maxRecDepth 20000 in
set_option maxHeartbeats 2000000 in
theorem pread_ok (b : List Int) (hb : Byt b) (hl : b.length ≤ 1000000000) : ACall Tryd.prog 102 [.ro b.length (bys b)] (.tuple [.agg (prfC (rdPrf b).1), .int .i64 (rdPrf b).2]) [] := by
  have k0 := rOpen_rok hb hl
  have h0 := open_ok b hb (by omega)
  unfold rdPrf
  generalize rOpen b = r0 at k0 h0 ⊢
  have h1 := rwant_ok r0 3 2
  have k1 := rWant_rok k0 3 2
  generalize rWant 3 2 r0 = r1 at h1 k1 ⊢
  unfold rdP
  have h2 := rstr_ok r1
  have k2 := rNext_rok k1 3
  generalize rNext 3 r1 = q at h2 k2 ⊢
  obtain ⟨x, r2⟩ := q
  dsimp only at h2 k2 ⊢
  have h3 := rstr_ok r2
  have k3 := rNext_rok k2.1 3
  generalize rNext 3 r2 = q at h3 k3 ⊢
  obtain ⟨y, r3⟩ := q
  dsimp only at h3 k3 ⊢
  have h4 := rdone_ok r3
  generalize (!r3.bad && decide (r3.l = [])) = dn at h4 ⊢
  obtain ⟨_, _, x⟩ := x
  obtain ⟨_, _, y⟩ := y
  dsimp only at k2 k3 h2 h3 ⊢
  have h5 := eread_ok x k2.2.1.2.2 k2.2.2
  have e5 := (rdEnt_entS k2.2.1.2.2 k2.2.2).1
  generalize rdEnt x = q at h5 e5 ⊢
  obtain ⟨a, e⟩ := q
  have h6 := eread_ok y k3.2.1.2.2 k3.2.2
  have e6 := (rdEnt_entS k3.2.1.2.2 k3.2.2).1
  generalize rdEnt y = q at h6 e6 ⊢
  obtain ⟨c, f⟩ := q
  dsimp only at h5 e5 h6 e6 ⊢
  have h7 := check_proof_ok ⟨a, c⟩ ⟨e5, e6⟩
  refine ACall.of_does TTok Tryd.func102 rfl Tryd.call102 rfl (wpc_sound (M := ME) (PL := PL0) (CU := cutAt [100006, 100007, 100008, 100009, 100011]) TTok mixed _ _ _ ?_)
  conv => whnf
  repeat ((first | refine ⟨pureL_bys _, ?_⟩ | refine ⟨rfl, ?_⟩); conv => whnf)
  refine ⟨_, _, h0, by first | rfl | simp [noRoIf, noRoL, noRoV, noRoL_bys], ?_⟩
  conv => whnf
  repeat ((first | refine ⟨rfl, ?_⟩ | (refine And.intro ?_ ?_; (focus (first | (simp only [pureL, pureV, pureL_bys, Bool.and_true, Bool.and_self]; done) | (simp only [pureL, pureV, pureL_bys, pureL_toks, Bool.and_true, Bool.and_self]; done))))); conv => whnf)
  refine ⟨_, _, h1, by first | rfl | simp [noRoIf, noRoL, noRoV, noRoL_bys], ?_⟩
  conv => whnf
  repeat ((first | refine ⟨rfl, ?_⟩ | (refine And.intro ?_ ?_; (focus (first | (simp only [pureL, pureV, pureL_bys, Bool.and_true, Bool.and_self]; done) | (simp only [pureL, pureV, pureL_bys, pureL_toks, Bool.and_true, Bool.and_self]; done))))); conv => whnf)
  refine ⟨_, _, h2, by first | rfl | simp [noRoIf, noRoL, noRoV, noRoL_bys], ?_⟩
  conv => whnf
  repeat ((first | refine ⟨rfl, ?_⟩ | (refine And.intro ?_ ?_; (focus (first | (simp only [pureL, pureV, pureL_bys, Bool.and_true, Bool.and_self]; done) | (simp only [pureL, pureV, pureL_bys, pureL_toks, Bool.and_true, Bool.and_self]; done))))); conv => whnf)
  refine ⟨_, _, h3, by first | rfl | simp [noRoIf, noRoL, noRoV, noRoL_bys], ?_⟩
  conv => whnf
  repeat ((first | refine ⟨rfl, ?_⟩ | (refine And.intro ?_ ?_; (focus (first | (simp only [pureL, pureV, pureL_bys, Bool.and_true, Bool.and_self]; done) | (simp only [pureL, pureV, pureL_bys, pureL_toks, Bool.and_true, Bool.and_self]; done))))); conv => whnf)
  refine ⟨_, _, h4, by first | rfl | simp [noRoIf, noRoL, noRoV, noRoL_bys], ?_⟩
  conv => whnf
  cases dn
  · conv => whnf
    repeat ((first | refine ifB_t ?_ | refine ⟨(⟨by kernel_rfl, by kernel_rfl, Nat.le_of_ble_eq_true (by kernel_rfl)⟩ : AV.ones _ = true ∧ _ ∧ _), ?_⟩ | refine ⟨_, rfl, ?_⟩); conv => whnf)
    refine prf0_int_dems (by kernel_rfl) ?_
    rfl
  simp only [if_true]
  conv => whnf
  repeat ((refine ifB_f ?_); conv => whnf)
  refine Does.tidy [(2, .ptr 0 0), (5, .ro x.length (bys x)), (6, .ro y.length (bys y))] [(0, zeroE ++ zeroE), (1, rowC r3)] 2 50 rfl rfl rfl (by kernel_rfl) (by kernel_rfl) ?_
  clear h0 h1 h2 h3 h4
  refine wpc_sound (M := ME) (PL := PL0) (CU := noCut) TTok mixed _ _ _ ?_
  conv => whnf
  repeat ((first | refine ⟨pureL_bys _, ?_⟩ | refine ⟨rfl, ?_⟩); conv => whnf)
  refine ⟨_, _, h5, by first | rfl | simp [noRoIf, noRoL, noRoV, noRoL_bys], ?_⟩
  conv => whnf
  repeat ((first | refine ⟨(⟨by kernel_rfl, by kernel_rfl, Nat.le_of_ble_eq_true (by kernel_rfl)⟩ : AV.ones _ = true ∧ _ ∧ _), ?_⟩ | refine ⟨rfl, ?_⟩); conv => whnf)
  refine Does.tidy [(2, .ptr 0 0), (6, .ro y.length (bys y)), (7, .ptr 2 0), (8, .int .i64 e)] [(0, zeroE ++ zeroE), (1, rowC r3), (2, entC a)] 3 50 rfl rfl rfl (by kernel_rfl) (by kernel_rfl) ?_
  clear h5
  refine wpc_sound (M := ME) (PL := PL0) (CU := noCut) TTok mixed _ _ _ ?_
  conv => whnf
  repeat ((first | refine ⟨pureL_bys _, ?_⟩ | refine ⟨rfl, ?_⟩); conv => whnf)
  refine ⟨_, _, h6, by first | rfl | simp [noRoIf, noRoL, noRoV, noRoL_bys], ?_⟩
  conv => whnf
  repeat ((first | refine ⟨(⟨by kernel_rfl, by kernel_rfl, Nat.le_of_ble_eq_true (by kernel_rfl)⟩ : AV.ones _ = true ∧ _ ∧ _), ?_⟩ | refine ⟨rfl, ?_⟩); conv => whnf)
  refine Does.tidy [(2, .ptr 0 0), (7, .ptr 2 0), (8, .int .i64 e), (9, .ptr 3 0), (10, .int .i64 f)] [(0, zeroE ++ zeroE), (1, rowC r3), (2, entC a), (3, entC c)] 4 50 rfl rfl rfl (by kernel_rfl) (by kernel_rfl) ?_
  clear h6
  refine wpc_sound (M := ME) (PL := PL0) (CU := noCut) TTok mixed _ _ _ ?_
  conv => whnf
  repeat ((first | refine ⟨(⟨by kernel_rfl, by kernel_rfl, Nat.le_of_ble_eq_true (by kernel_rfl)⟩ : AV.ones _ = true ∧ _ ∧ _), ?_⟩ | refine ⟨rfl, ?_⟩ | refine ⟨_, rfl, ?_⟩ | refine ⟨⟨rfl, rfl⟩, ?_⟩); conv => whnf)
  refine Does.tidy [(2, .ptr 0 0), (8, .int .i64 e), (10, .int .i64 f), (11, .ptr 4 0)] [(0, zeroE ++ zeroE), (1, rowC r3), (2, entC a), (3, entC c), (4, prfC ⟨a, c⟩)] 5 50 rfl rfl rfl (by kernel_rfl) (by kernel_rfl) ?_
  refine wpc_sound (M := ME) (PL := PL0) (CU := noCut) TTok mixed _ _ _ ?_
  by_cases c1 : e ≠ 0
  · rw [if_pos c1]
    conv => whnf
    repeat ((first | refine ifB_t ?_ | (refine ifB_pos (decide_eq_true (by first | omega | rfl | (dsimp only; omega))) ?_) | refine ⟨(⟨by kernel_rfl, by kernel_rfl, Nat.le_of_ble_eq_true (by kernel_rfl)⟩ : AV.ones _ = true ∧ _ ∧ _), ?_⟩ | refine ⟨_, rfl, ?_⟩); conv => whnf)
    refine prf0_int_dems (by kernel_rfl) ?_
    rfl
  rw [if_neg c1]
  by_cases c2 : f ≠ 0
  · rw [if_pos c2]
    conv => whnf
    repeat ((first | refine ifB_t ?_ | refine ifB_f ?_ | (refine ifB_neg (decide_eq_false (by first | omega | rfl | (dsimp only; omega))) ?_) | (refine ifB_pos (decide_eq_true (by first | omega | rfl | (dsimp only; omega))) ?_) | refine ⟨(⟨by kernel_rfl, by kernel_rfl, Nat.le_of_ble_eq_true (by kernel_rfl)⟩ : AV.ones _ = true ∧ _ ∧ _), ?_⟩ | refine ⟨_, rfl, ?_⟩); conv => whnf)
    refine prf0_int_dems (by kernel_rfl) ?_
    rfl
  rw [if_neg c2]
  generalize (⟨a, c⟩ : Prf) = p at h7 ⊢
  conv => whnf
  repeat ((first | refine ifB_f ?_ | (refine ifB_neg (decide_eq_false (by first | omega | rfl | (dsimp only; omega))) ?_) | refine ⟨rfl, ?_⟩ | refine ⟨_, rfl, ?_⟩ | (refine And.intro ?_ ?_; (focus (first | (simp only [pureL, pureV, pureL_bys, Bool.and_true, Bool.and_self]; done) | (simp only [pureL, pureV, pureL_bys, pureL_toks, Bool.and_true, Bool.and_self]; done))))); conv => whnf)
  cases c3 : prfR p <;> rw [c3] at h7
  · refine ⟨_, _, h7, by first | rfl | simp [noRoIf, noRoL, noRoV, noRoL_bys], ?_⟩
    conv => whnf
    repeat ((first | refine ifB_t ?_ | refine ifB_f ?_ | refine ⟨(⟨by kernel_rfl, by kernel_rfl, Nat.le_of_ble_eq_true (by kernel_rfl)⟩ : AV.ones _ = true ∧ _ ∧ _), ?_⟩ | refine ⟨_, rfl, ?_⟩); conv => whnf)
    refine prf0_int_dems (by kernel_rfl) ?_
    rfl
  · refine ⟨_, _, h7, by first | rfl | simp [noRoIf, noRoL, noRoV, noRoL_bys], ?_⟩
    conv => whnf
    repeat ((refine ifB_f ?_); conv => whnf)
    refine Does.tidy [(2, .ptr 0 0), (11, .ptr 4 0)] [(0, zeroE ++ zeroE), (1, rowC r3), (2, entC a), (3, entC c), (4, prfC p)] 5 50 rfl rfl rfl (by kernel_rfl) (by kernel_rfl) ?_
    refine wpc_sound (M := ME) (PL := PL0) (CU := noCut) TTok mixed _ _ _ ?_
    conv => whnf
    refine ⟨prfC p, by kernel_rfl, ?_⟩
    conv => whnf
    refine ⟨(⟨by kernel_rfl, by kernel_rfl, Nat.le_of_ble_eq_true (by kernel_rfl)⟩ : AV.ones _ = true ∧ _ ∧ _), ?_⟩
    conv => whnf
    refine ⟨prfC p, by kernel_rfl, ?_⟩
    conv => whnf
    refine prf_int_dems (by kernel_rfl) ?_
    rfl
end Go.Proofs.YtelnlfhdaelfdaaDoor.Abs
end
section
--KR
set_option linter.unusedVariables false
set_option linter.unusedSimpArgs false
namespace Go.Proofs.YtelnlfhdaelfdaaDoor.Abs
open Go
section rows
variable {α : Type}
def rowsC (f : α → List AV) : List α → List AV
  | [] => []
  | x :: r => f x ++ rowsC f r
theorem rowsC_length {f : α → List AV} {n : Nat} (hf : ∀ x, (f x).length = n) : ∀ l : List α, (rowsC f l).length = n * l.length
  | [] => rfl
  | e :: r => by simp only [rowsC, List.length_append, hf, rowsC_length hf r, List.length_cons, Nat.mul_add]; omega
theorem rowsC_pure {f : α → List AV} (hf : ∀ x, pureL (f x) = true) : ∀ l : List α, pureL (rowsC f l) = true
  | [] => rfl
  | e :: r => by simp only [rowsC, pureL_app, hf, rowsC_pure hf r, Bool.and_self]
theorem rowsC_ones {f : α → List AV} (hf : ∀ x, (f x).all AV.one = true) : ∀ l : List α, (rowsC f l).all AV.one = true
  | [] => rfl
  | e :: r => by simp only [rowsC, List.all_append, hf, rowsC_ones hf r, Bool.and_self]
theorem rowsC_frz {f : α → List AV} {i : Nat} {zs : List AV} (hf : ∀ x, frzL i zs (f x) = f x) : ∀ l : List α, frzL i zs (rowsC f l) = rowsC f l
  | [] => rfl
  | e :: r => by simp only [rowsC, frzL_app, hf, rowsC_frz hf r]
theorem rowsC_append {f : α → List AV} : ∀ a b : List α, rowsC f (a ++ b) = rowsC f a ++ rowsC f b
  | [], b => rfl
  | e :: a, b => by simp only [List.cons_append, rowsC, rowsC_append a b, List.append_assoc]
theorem rowsC_drop {f : α → List AV} {n : Nat} (hf : ∀ x, (f x).length = n) : ∀ (l : List α) (j : Nat), (rowsC f l).drop (n * j) = rowsC f (l.drop j)
  | [], j => by simp [rowsC]
  | e :: r, 0 => by simp [rowsC]
  | e :: r, j + 1 => by
    simp only [rowsC, List.drop_succ_cons, ← rowsC_drop hf r j]
    rw [show n * (j + 1) = (f e).length + n * j by rw [hf, Nat.mul_add]; omega, List.drop_append]
    simp
theorem rowsC_take {f : α → List AV} {n : Nat} (hf : ∀ x, (f x).length = n) : ∀ (l : List α) (j : Nat), (rowsC f l).take (n * j) = rowsC f (l.take j)
  | [], j => by simp [rowsC]
  | e :: r, 0 => by simp [rowsC]
  | e :: r, j + 1 => by
    simp only [rowsC, List.take_succ_cons, ← rowsC_take hf r j]
    rw [show n * (j + 1) = (f e).length + n * j by rw [hf, Nat.mul_add]; omega, List.take_append, List.take_of_length_le (by omega)]
    simp
theorem rowsC_at {f : α → List AV} {n : Nat} (hf : ∀ x, (f x).length = n) {l : List α} {j m : Nat} (h : j < l.length) (hm : m = n * j) : (rowsC f l).drop m = f l[j] ++ rowsC f (l.drop (j + 1)) := by
  subst hm
  rw [rowsC_drop hf, List.drop_eq_getElem_cons h]
  rfl
theorem takeN_row {f : α → List AV} {n : Nat} (hf : ∀ x, (f x).length = n) {l : List α} {j m s : Nat} (h : j < l.length) (hm : m = n * j) (hs : s = n) : takeN s ((rowsC f l).drop m) = some (f l[j]) := by
  rw [rowsC_at hf h hm]; exact takeN_app (by rw [hs, hf])
theorem rowsC_les {f : α → List AV} {o : Nat → Option Nat} (hf : ∀ x, lesP o (f x) (f x)) {xs : List AV} : ∀ {l : List α}, xs = rowsC f l → lesP o (rowsC f l) xs
  | [], h => by subst h; trivial
  | e :: r, h => by subst h; exact lesP_app'' (hf e) (rowsC_les hf rfl)
theorem rowsC_inj {f : α → List AV} {n : Nat} (hn : 0 < n) (hf : ∀ x, (f x).length = n) (hi : ∀ x y, f x = f y → x = y) : ∀ {a b : List α}, rowsC f a = rowsC f b → a = b
  | [], [], _ => rfl
  | [], y :: b, h => by have := congrArg List.length h; simp [rowsC, hf] at this; omega
  | x :: a, [], h => by have := congrArg List.length h; simp [rowsC, hf] at this; omega
  | x :: a, y :: b, h => by
    simp only [rowsC] at h
    obtain ⟨h1, h2⟩ := List.append_inj h (by rw [hf, hf])
    rw [hi x y h1, rowsC_inj hn hf hi h2]
theorem rowsC_whole {f : α → List AV} {n : Nat} (hf : ∀ x, (f x).length = n) (l : List α) : (List.drop 0 (rowsC f l)).take (l.length * n) = rowsC f l := by
  rw [List.drop_zero]; exact List.take_of_length_le (by rw [rowsC_length hf, Nat.mul_comm]; exact Nat.le_refl _)
theorem frzL_noId {i : Nat} {zs : List AV} : True := trivial
end rows
theorem prfC_length (p : Prf) : (prfC p).length = 266 := by simp [prfC, entC_length]
theorem prfC_pure (p : Prf) : pureL (prfC p) = true := by simp [prfC, pureL_app, entC_pure]
theorem prfC_one (p : Prf) : (prfC p).all AV.one = true := by simp only [prfC, List.all_append, entC_one, Bool.and_self]
theorem prfC_frz (i : Nat) (zs : List AV) (p : Prf) : frzL i zs (prfC p) = prfC p := by simp [prfC, frzL_app, entC_frz]
theorem prfC_les {o : Nat → Option Nat} (p : Prf) : lesP o (prfC p) (prfC p) := lesP_app'' (lesP_ent p.a rfl) (lesP_ent p.b rfl)
theorem entC_les {o : Nat → Option Nat} (e : Ent) : lesP o (entC e) (entC e) := lesP_ent e rfl
structure Hd where
  au : List Int
  len : Int
  id : List Int
  shut : Bool
  deriving DecidableEq
def hdC (h : Hd) : List AV := c32 h.au (.int .i64 h.len :: c32 h.id [.bool h.shut])
structure HdS (h : Hd) : Prop where
  au : Byt h.au ∧ h.au.length = 32
  len : -9223372036854775808 ≤ h.len ∧ h.len < 9223372036854775808
  id : Byt h.id ∧ h.id.length = 32
theorem hdC_length (h : Hd) : (hdC h).length = 66 := by simp [hdC, c32_len]
theorem hdC_pure (h : Hd) : pureL (hdC h) = true := by simp [hdC, c32_pure, pureL, pureV]
theorem hdC_one (h : Hd) : (hdC h).all AV.one = true := by simp [hdC, c32_one, AV.one]
theorem hdC_frz (i : Nat) (zs : List AV) (h : Hd) : frzL i zs (hdC h) = hdC h := by simp [hdC, c32_frz, frzL, frzV]
theorem hdC_les {o : Nat → Option Nat} (h : Hd) : lesP o (hdC h) (hdC h) := by
  unfold hdC
  exact c32_les ⟨⟨rfl, rfl⟩, c32_les ⟨rfl, trivial⟩⟩
structure Msg where
  kind : Int
  frm : Int
  to : Int
  hs : List Hd
  ps : List Prf
  es : List Ent
  deriving DecidableEq
def msgC (m : Msg) : List AV := [.int .i64 m.kind, .int .i64 m.frm, .int .i64 m.to, .ro m.hs.length (rowsC hdC m.hs), .ro m.ps.length (rowsC prfC m.ps), .ro m.es.length (rowsC entC m.es)]
structure MsgS (m : Msg) : Prop where
  kind : -9223372036854775808 ≤ m.kind ∧ m.kind < 9223372036854775808
  frm : -9223372036854775808 ≤ m.frm ∧ m.frm < 9223372036854775808
  to : -9223372036854775808 ≤ m.to ∧ m.to < 9223372036854775808
  hs : ∀ h ∈ m.hs, HdS h
  ps : ∀ p ∈ m.ps, PrfS p
  es : ∀ e ∈ m.es, EntS e
  hl : m.hs.length ≤ 1000000000
  pl : m.ps.length ≤ 1000000000
  el : m.es.length ≤ 1000000000
theorem hds_len (l : List Hd) : (rowsC hdC l).length = 66 * l.length := rowsC_length hdC_length l
theorem prfs_len (l : List Prf) : (rowsC prfC l).length = 266 * l.length := rowsC_length prfC_length l
theorem ents_len (l : List Ent) : (rowsC entC l).length = 133 * l.length := rowsC_length entC_length l
theorem hds_pure (l : List Hd) : pureL (rowsC hdC l) = true := rowsC_pure hdC_pure l
theorem prfs_pure (l : List Prf) : pureL (rowsC prfC l) = true := rowsC_pure prfC_pure l
theorem ents_pure (l : List Ent) : pureL (rowsC entC l) = true := rowsC_pure entC_pure l
theorem msgC_pure (m : Msg) : pureL (msgC m) = true := by simp [msgC, pureL, pureV, hds_pure, prfs_pure, ents_pure]
end Go.Proofs.YtelnlfhdaelfdaaDoor.Abs
end
section
--KR
set_option linter.unusedVariables false
set_option linter.unusedSimpArgs false
namespace Go.Proofs.YtelnlfhdaelfdaaDoor.Abs
open Go
attribute [local irreducible] ifB fitP Does Weaker
def MW : FuncId → List Mode := orElse [(61, [.rd]), (57, [.rd]), (31, [.rd]), (30, [.rd]), (33, [.rd]), (71, [rowM]), (72, [rowM]),
  (62, [.rd, .rd]), (65, [.rd, .rd]), (95, [.rd, .rd]),
  (97, [.rd, .rd]), (63, [.rd]), (66, [.rd])] ME
set_option maxRecDepth 20000 in
theorem wtest1_ok (p : Prf) (hp : PrfS p) : ACall Tryd.prog 63 [.agg (prfC p)] (.bool (!prfR p)) [] := by
  have h := check_proof_ok p hp
  refine ACall.of_does TTok Tryd.func63 rfl Tryd.call63 rfl (wpc_sound (M := MW) (PL := PL0) (CU := noCut) TTok mixed _ _ _ ?_)
  cases c : prfR p <;> rw [c] at h
  all_goals
    conv => whnf
    refine ⟨prfC_one p, ?_⟩
    conv => whnf
    refine ⟨prfC p, by kernel_rfl, ?_⟩
    conv => whnf
    refine ⟨prfC_pure p, rfl, ?_⟩
    conv => whnf
    refine ⟨_, _, h, by first | rfl | simp [noRoIf, noRoL, noRoV, noRoL_bys], ?_⟩
    conv => whnf
    repeat ((refine ⟨rfl, ?_⟩); conv => whnf)
    rfl
theorem wtest2_ok (p : Ent) (hp : EntS p) : ACall Tryd.prog 66 [.agg (entC p)] (.bool (!entR p)) [] := by
  have h := check_entry_ok p hp
  refine ACall.of_does TTok Tryd.func66 rfl Tryd.call66 rfl (wpc_sound (M := MW) (PL := PL0) (CU := noCut) TTok mixed _ _ _ ?_)
  cases c : entR p <;> rw [c] at h
  all_goals
    conv => whnf
    refine ⟨entC_one p, ?_⟩
    conv => whnf
    refine ⟨entC p, by kernel_rfl, ?_⟩
    conv => whnf
    refine ⟨entC_pure p, rfl, ?_⟩
    conv => whnf
    refine ⟨_, _, h, by first | rfl | simp [noRoIf, noRoL, noRoV, noRoL_bys], ?_⟩
    conv => whnf
    repeat ((refine ⟨rfl, ?_⟩); conv => whnf)
    rfl
/-- The place of the first one that a test takes, or -1. -/
def firstI {α : Type} (t : α → Bool) : Nat → List α → Int
  | _, [] => -1
  | c, x :: r => if t x then (c : Int) else firstI t (c + 1) r
theorem firstI_lt {α : Type} (t : α → Bool) : ∀ (c : Nat) (l : List α), decide (0 ≤ firstI t c l) = l.any t
  | c, [] => rfl
  | c, x :: r => by
    unfold firstI
    cases h : t x
    · simp [h, firstI_lt t (c + 1) r]
    · simp [h]
theorem firstI_at {α : Type} {t : α → Bool} {l : List α} {c : Nat} (h : c < l.length) : firstI t c (l.drop c) = if t l[c] then (c : Int) else firstI t (c + 1) (l.drop (c + 1)) := by
  rw [List.drop_eq_getElem_cons h]; rfl
theorem index1_ok (l : List Prf) (hl : ∀ p ∈ l, PrfS p) (hn : l.length ≤ 1000000000) : ACall Tryd.prog 95 [.ro l.length (rowsC prfC l), .fn (.func 63) []] (.int .i64 (firstI (fun p => !prfR p) 0 l)) [] := by
  refine ACall.of_does TTok Tryd.func95 rfl Tryd.call95 rfl (wpc_sound (M := MW) (PL := PL0) (CU := noCut) TTok mixed _ _ _ ?_)
  conv => whnf
  refine Does.loop (fun c : Nat => mkSt [(0, .ro l.length (rowsC prfC l)), (1, .fn (.func 63) []), (7, .int .i64 l.length), (8, .int .i64 c)] [] 0 19)
    (fun c => c ≤ l.length ∧ firstI (fun p => !prfR p) c (l.drop c) = firstI (fun p => !prfR p) 0 l) (fun c => l.length - c) ?_ 0 ⟨Nat.zero_le _, by rw [List.drop_zero]⟩ ?_
  · rintro c ⟨hc, hx⟩
    rcases Nat.lt_or_ge c l.length with c1 | c1
    · have ht := wtest1_ok l[c] (hl _ (List.getElem_mem c1))
      rw [firstI_at c1] at hx
      refine wpc_sound (M := MW) (PL := PL0) (CU := noCut) TTok mixed _ _ _ ?_
      conv => whnf
      repeat ((first | (refine ifB_pos (decide_eq_true (by first | omega | rfl | (dsimp only; omega))) ?_) | (refine ⟨⟨?_, ?_, ?_⟩, ?_⟩; (focus omega); (focus (first | omega | (simp; done) | (simp; omega))); (focus (first | (rw [prfs_len]; simp; omega) | (rw [ents_len]; simp; omega) | (rw [hds_len]; simp; omega) | (rw [lets_len]; simp; omega))))); conv => whnf)
      refine ⟨_, takeN_row prfC_length c1 (by simp; omega) rfl, ?_⟩
      conv => whnf
      refine ⟨prfC_pure _, ?_⟩
      conv => whnf
      repeat ((refine ⟨rfl, ?_⟩); conv => whnf)
      refine ⟨_, _, ht, by first | rfl | simp [noRoIf, noRoL, noRoV, noRoL_bys], ?_⟩
      conv => whnf
      cases h : prfR l[c]
      · rw [h] at hx
        conv => whnf
        repeat ((refine ifB_t ?_); conv => whnf)
        exact ⟨⟨rfl, by rw [← hx]; rfl⟩, rfl⟩
      · rw [h] at hx
        conv => whnf
        repeat ((first | refine ifB_f ?_ | (refine fit_i64 ⟨by first | omega | rfl | (dsimp only; omega), by first | omega | rfl | (dsimp only; omega)⟩ ?_)); conv => whnf)
        exact ⟨c + 1, ⟨by omega, by rw [← hx]; rfl⟩, by omega, weaker_of [] rfl rfl ⟨⟨rfl, rfl, prfs_pure _⟩, ⟨rfl, rfl, rfl⟩, ⟨rfl, rfl⟩, ⟨rfl, by simp⟩, trivial⟩ trivial⟩
    · obtain rfl : c = l.length := by omega
      rw [List.drop_length] at hx
      refine wpc_sound (M := MW) (PL := PL0) (CU := noCut) TTok mixed _ _ _ ?_
      conv => whnf
      repeat ((refine ifB_neg (decide_eq_false (by first | omega | rfl | (dsimp only; omega))) ?_); conv => whnf)
      exact ⟨⟨rfl, by rw [← hx]; rfl⟩, rfl⟩
  · exact weaker_of [] rfl rfl ⟨⟨rfl, rfl, prfs_pure _⟩, ⟨rfl, rfl, rfl⟩, ⟨rfl, rfl⟩, ⟨rfl, rfl⟩, trivial⟩ trivial
theorem contains1_ok (l : List Prf) (hl : ∀ p ∈ l, PrfS p) (hn : l.length ≤ 1000000000) : ACall Tryd.prog 62 [.ro l.length (rowsC prfC l), .fn (.func 63) []] (.bool (l.any fun p => !prfR p)) [] := by
  have h := index1_ok l hl hn
  rw [← firstI_lt _ 0 l]
  refine ACall.of_does TTok Tryd.func62 rfl Tryd.call62 rfl (wpc_sound (M := MW) (PL := PL0) (CU := noCut) TTok mixed _ _ _ ?_)
  conv => whnf
  repeat ((first | refine ⟨rfl, ?_⟩ | refine ⟨(show pureL (rowsC _ _) = true from by first | exact prfs_pure _ | exact ents_pure _ | exact hds_pure _ | exact lets_pure _), ?_⟩); conv => whnf)
  refine ⟨_, _, h, by first | rfl | simp [noRoIf, noRoL, noRoV, noRoL_bys], ?_⟩
  conv => whnf
  repeat ((refine ⟨rfl, ?_⟩); conv => whnf)
  rfl
theorem index2_ok (l : List Ent) (hl : ∀ p ∈ l, EntS p) (hn : l.length ≤ 1000000000) : ACall Tryd.prog 97 [.ro l.length (rowsC entC l), .fn (.func 66) []] (.int .i64 (firstI (fun p => !entR p) 0 l)) [] := by
  refine ACall.of_does TTok Tryd.func97 rfl Tryd.call97 rfl (wpc_sound (M := MW) (PL := PL0) (CU := noCut) TTok mixed _ _ _ ?_)
  conv => whnf
  refine Does.loop (fun c : Nat => mkSt [(0, .ro l.length (rowsC entC l)), (1, .fn (.func 66) []), (7, .int .i64 l.length), (8, .int .i64 c)] [] 0 19)
    (fun c => c ≤ l.length ∧ firstI (fun p => !entR p) c (l.drop c) = firstI (fun p => !entR p) 0 l) (fun c => l.length - c) ?_ 0 ⟨Nat.zero_le _, by rw [List.drop_zero]⟩ ?_
  · rintro c ⟨hc, hx⟩
    rcases Nat.lt_or_ge c l.length with c1 | c1
    · have ht := wtest2_ok l[c] (hl _ (List.getElem_mem c1))
      rw [firstI_at c1] at hx
      refine wpc_sound (M := MW) (PL := PL0) (CU := noCut) TTok mixed _ _ _ ?_
      conv => whnf
      repeat ((first | (refine ifB_pos (decide_eq_true (by first | omega | rfl | (dsimp only; omega))) ?_) | (refine ⟨⟨?_, ?_, ?_⟩, ?_⟩; (focus omega); (focus (first | omega | (simp; done) | (simp; omega))); (focus (first | (rw [prfs_len]; simp; omega) | (rw [ents_len]; simp; omega) | (rw [hds_len]; simp; omega) | (rw [lets_len]; simp; omega))))); conv => whnf)
      refine ⟨_, takeN_row entC_length c1 (by simp; omega) rfl, ?_⟩
      conv => whnf
      refine ⟨entC_pure _, ?_⟩
      conv => whnf
      repeat ((refine ⟨rfl, ?_⟩); conv => whnf)
      refine ⟨_, _, ht, by first | rfl | simp [noRoIf, noRoL, noRoV, noRoL_bys], ?_⟩
      conv => whnf
      cases h : entR l[c]
      · rw [h] at hx
        conv => whnf
        repeat ((refine ifB_t ?_); conv => whnf)
        exact ⟨⟨rfl, by rw [← hx]; rfl⟩, rfl⟩
      · rw [h] at hx
        conv => whnf
        repeat ((first | refine ifB_f ?_ | (refine fit_i64 ⟨by first | omega | rfl | (dsimp only; omega), by first | omega | rfl | (dsimp only; omega)⟩ ?_)); conv => whnf)
        exact ⟨c + 1, ⟨by omega, by rw [← hx]; rfl⟩, by omega, weaker_of [] rfl rfl ⟨⟨rfl, rfl, ents_pure _⟩, ⟨rfl, rfl, rfl⟩, ⟨rfl, rfl⟩, ⟨rfl, by simp⟩, trivial⟩ trivial⟩
    · obtain rfl : c = l.length := by omega
      rw [List.drop_length] at hx
      refine wpc_sound (M := MW) (PL := PL0) (CU := noCut) TTok mixed _ _ _ ?_
      conv => whnf
      repeat ((refine ifB_neg (decide_eq_false (by first | omega | rfl | (dsimp only; omega))) ?_); conv => whnf)
      exact ⟨⟨rfl, by rw [← hx]; rfl⟩, rfl⟩
  · exact weaker_of [] rfl rfl ⟨⟨rfl, rfl, ents_pure _⟩, ⟨rfl, rfl, rfl⟩, ⟨rfl, rfl⟩, ⟨rfl, rfl⟩, trivial⟩ trivial
theorem contains2_ok (l : List Ent) (hl : ∀ p ∈ l, EntS p) (hn : l.length ≤ 1000000000) : ACall Tryd.prog 65 [.ro l.length (rowsC entC l), .fn (.func 66) []] (.bool (l.any fun p => !entR p)) [] := by
  have h := index2_ok l hl hn
  rw [← firstI_lt _ 0 l]
  refine ACall.of_does TTok Tryd.func65 rfl Tryd.call65 rfl (wpc_sound (M := MW) (PL := PL0) (CU := noCut) TTok mixed _ _ _ ?_)
  conv => whnf
  repeat ((first | refine ⟨rfl, ?_⟩ | refine ⟨(show pureL (rowsC _ _) = true from by first | exact prfs_pure _ | exact ents_pure _ | exact hds_pure _ | exact lets_pure _), ?_⟩); conv => whnf)
  refine ⟨_, _, h, by first | rfl | simp [noRoIf, noRoL, noRoV, noRoL_bys], ?_⟩
  conv => whnf
  repeat ((refine ⟨rfl, ?_⟩); conv => whnf)
  rfl
/-- Heads in their order, each right. -/
def hdR (h : Hd) : Bool := decide (0 ≤ h.len) && decide (h.len ≤ 200) && (!h.shut || decide (h.len ≤ 0)) && (decide (h.len ≠ 0) || decide (h.id = z32))
def hd0 : Hd := ⟨z32, 0, z32, false⟩
def hdAt (l : List Hd) (i : Nat) : Bool := (decide (i = 0) || bytesLt (l.getD (i - 1) hd0).au (l.getD i hd0).au) && hdR (l.getD i hd0)
def headsR (l : List Hd) : Bool := decide (l.length ≤ 8) && (List.range l.length).all (hdAt l)
theorem headsR_no {l : List Hd} {c : Nat} (hc : c < l.length) (h : hdAt l c = false) : headsR l = false := by
  unfold headsR
  rw [Bool.and_eq_false_iff]
  right
  rw [Bool.eq_false_iff]
  intro hh
  rw [List.all_eq_true] at hh
  have := hh c (by simpa using hc)
  rw [h] at this
  cases this
theorem range_snoc {l : List Hd} {c : Nat} (h : (List.range c).all (hdAt l) = true) (k : hdAt l c = true) : (List.range (c + 1)).all (hdAt l) = true := by
  rw [List.range_succ, List.all_append, h]; simp [k]
theorem bit_ok (b : Bool) : ACall Tryd.prog 57 [.bool b] (.int .i64 (if b then 1 else 0)) [] := by
  refine ACall.of_does TTok Tryd.func57 rfl Tryd.call57 rfl (wpc_sound (M := MW) (PL := PL0) (CU := noCut) TTok mixed _ _ _ ?_)
  cases b
  all_goals
    conv => whnf
    repeat ((first | refine ifB_t ?_ | refine ifB_f ?_ | refine ⟨⟨rfl, rfl⟩, ?_⟩); conv => whnf)
    rfl
theorem hd_au {l : List Hd} {j m s : Nat} (h : j < l.length) (hm : m = 66 * j) (hs : s = 32) : takeN s (List.drop 0 (List.drop m (rowsC hdC l))) = some (c32 l[j].au []) := by
  rw [List.drop_zero, rowsC_at hdC_length h hm, hs]
  rfl
theorem c32_take {l : List Int} (h : l.length = 32) (r : List AV) : (c32 l r).take 32 = bys l := by
  rw [c32_eq h, List.take_append_of_le_length (by simp [h]), List.take_of_length_le (by simp [h])]
theorem cut_hd {l : List Hd} {j m : Nat} (h : j < l.length) (hm : m = 66 * j) (hw : l[j].au.length = 32) : cutB (List.take (32 * 1) (List.drop 0 (List.drop m (rowsC hdC l)))) none none 1 = bys l[j].au := by
  rw [List.drop_zero, rowsC_at hdC_length h hm]
  exact cut32 hw _
theorem cmp_lt0 {a b : List Int} : decide (0 ≤ cmpI a b) = !bytesLt a b := cmp_ge
def PLheads : Nat → Bool × Plan := plans [(6, (false, (takesTo [0, 1, 2, 3, 4, 5, 6, 7, 8, 9, 10] (.all [(11, (takes [12, 13, 14]))]))))]
theorem heads_ok (l : List Hd) (hl : ∀ h ∈ l, HdS h) (hn : l.length ≤ 1000000000) : ACall Tryd.prog 61 [.ro l.length (rowsC hdC l)] (.bool (headsR l)) [] := by
  refine ACall.of_does TTok Tryd.func61 rfl Tryd.call61 rfl (wpc_sound (M := MW) (PL := PLheads) (CU := noCut) TTok mixed _ _ _ ?_)
  conv => whnf
  refine ifB_dec (fun c0 => ?_) (fun c0 => ?_)
  · have : headsR l = false := by unfold headsR; rw [df (show ¬ l.length ≤ 8 by omega)]; rfl
    rw [this]
    conv => whnf
    repeat ((refine ⟨rfl, ?_⟩); conv => whnf)
    rfl
  conv => whnf
  refine Does.loop (fun c : Nat => mkSt [(0, .ro l.length (rowsC hdC l)), (8, .ro l.length (rowsC hdC l)), (9, .int .i64 l.length), (10, .int .i64 c)] [] 0 59)
    (fun c => c ≤ l.length ∧ (List.range c).all (hdAt l) = true) (fun c => l.length - c) ?_ 0 ⟨Nat.zero_le _, rfl⟩ ?_
  · rintro c ⟨hc, hx⟩
    rcases Nat.lt_or_ge c l.length with c1 | c1
    · have hh := hl _ (List.getElem_mem c1)
      have e : hdAt l c = ((decide (c = 0) || bytesLt (l.getD (c - 1) hd0).au l[c].au) && hdR l[c]) := by
        unfold hdAt; rw [List.getD_eq_getElem?_getD (i := c), List.getElem?_eq_getElem c1]; rfl
      refine wpc_sound (M := MW) (PL := PLheads) (CU := cutAt [100006, 100008]) TTok mixed _ _ _ ?_
      conv => whnf
      repeat ((first | (refine ifB_pos (decide_eq_true (by first | omega | rfl | (dsimp only; omega))) ?_) | (refine ⟨⟨?_, ?_, ?_⟩, ?_⟩; (focus omega); (focus (first | omega | (simp; done) | (simp; omega))); (focus (first | (rw [prfs_len]; simp; omega) | (rw [ents_len]; simp; omega) | (rw [hds_len]; simp; omega) | (rw [lets_len]; simp; omega))))); conv => whnf)
      refine ⟨_, takeN_row hdC_length c1 (by simp; omega) rfl, ?_⟩
      conv => whnf
      repeat ((first | refine ⟨(⟨by kernel_rfl, by kernel_rfl, Nat.le_of_ble_eq_true (by kernel_rfl)⟩ : AV.ones _ = true ∧ _ ∧ _), ?_⟩ | refine ⟨rfl, ?_⟩); conv => whnf)
      refine Does.tidy [(0, .ro l.length (rowsC hdC l)), (3, .int .i64 c), (4, .ptr 0 0), (8, .ro l.length (rowsC hdC l)), (9, .int .i64 l.length), (10, .int .i64 c)] [(0, hdC l[c])] 1 59 rfl rfl rfl (by kernel_rfl) (by kernel_rfl) ?_
      generalize hq : l[c] = q at hh e ⊢
      refine wpc_sound (M := MW) (PL := PLheads) (CU := noCut) TTok mixed _ _ _ ?_
      conv => whnf
      refine ⟨by kernel_rfl, ?_⟩
      conv => whnf
      rcases Nat.eq_zero_or_pos c with c2 | c2
      · rw [dt c2, Bool.true_or, Bool.true_and] at e
        refine ifB_neg (df (by omega)) ?_
        conv => whnf
        repeat ((refine ifB_f ?_); conv => whnf)
        refine Does.tidy [(0, .ro l.length (rowsC hdC l)), (4, .ptr 0 0), (8, .ro l.length (rowsC hdC l)), (9, .int .i64 l.length), (10, .int .i64 c)] [(0, hdC q)] 1 59 rfl rfl rfl (by kernel_rfl) (by kernel_rfl) ?_
        refine wpc_sound (M := MW) (PL := PLheads) (CU := noCut) TTok mixed _ _ _ ?_
        unfold hdR at e
        by_cases c3 : 0 ≤ q.len
        · rw [dt c3] at e
          by_cases c4 : q.len ≤ 200
          · rw [dt c4] at e
            cases c5 : q.shut
            · rw [c5] at e
              by_cases c6 : q.len ≠ 0
              · rw [dt c6] at e
                conv => whnf
                repeat ((first | refine ifB_f ?_ | (refine ifB_neg (decide_eq_false (by first | omega | rfl | (dsimp only; omega))) ?_) | refine ⟨_, rfl, ?_⟩); conv => whnf)
                refine ifB_neg c5 ?_
                conv => whnf
                repeat ((first | refine ifB_f ?_ | (refine ifB_neg (decide_eq_false (by first | omega | rfl | (dsimp only; omega))) ?_) | (refine fit_i64 ⟨by first | omega | rfl | (dsimp only; omega), by first | omega | rfl | (dsimp only; omega)⟩ ?_) | refine ⟨_, rfl, ?_⟩); conv => whnf)
                exact ⟨c + 1, ⟨by omega, range_snoc hx e⟩, by omega, weaker_of [] rfl rfl ⟨⟨rfl, rfl, hds_pure _⟩, ⟨rfl, rfl, hds_pure _⟩, ⟨rfl, rfl⟩, ⟨rfl, by simp⟩, trivial⟩ trivial⟩
              · rw [df c6] at e
                by_cases c7 : q.id = z32
                · rw [dt c7] at e
                  conv => whnf
                  repeat ((first | refine ifB_f ?_ | (refine ifB_neg (decide_eq_false (by first | omega | rfl | (dsimp only; omega))) ?_) | refine ⟨_, rfl, ?_⟩); conv => whnf)
                  refine ifB_neg c5 ?_
                  conv => whnf
                  repeat ((first | refine ifB_t ?_ | refine ifB_f ?_ | (refine ifB_pos (decide_eq_true (by first | omega | rfl | (dsimp only; omega))) ?_) | refine ⟨_, rfl, ?_⟩); conv => whnf)
                  refine ⟨q.id, z32, ⟨rfl, c32_map hh.id.2, rfl, hh.id.2, rfl⟩, ?_⟩
                  conv => whnf
                  repeat ((refine ifB_t ?_); conv => whnf)
                  rw [dt c7]
                  conv => whnf
                  repeat ((first | refine ifB_f ?_ | (refine fit_i64 ⟨by first | omega | rfl | (dsimp only; omega), by first | omega | rfl | (dsimp only; omega)⟩ ?_)); conv => whnf)
                  exact ⟨c + 1, ⟨by omega, range_snoc hx e⟩, by omega, weaker_of [] rfl rfl ⟨⟨rfl, rfl, hds_pure _⟩, ⟨rfl, rfl, hds_pure _⟩, ⟨rfl, rfl⟩, ⟨rfl, by simp⟩, trivial⟩ trivial⟩
                · rw [df c7] at e
                  rw [headsR_no c1 e]
                  conv => whnf
                  repeat ((first | refine ifB_f ?_ | (refine ifB_neg (decide_eq_false (by first | omega | rfl | (dsimp only; omega))) ?_) | refine ⟨_, rfl, ?_⟩); conv => whnf)
                  refine ifB_neg c5 ?_
                  conv => whnf
                  repeat ((first | refine ifB_t ?_ | refine ifB_f ?_ | (refine ifB_pos (decide_eq_true (by first | omega | rfl | (dsimp only; omega))) ?_) | refine ⟨_, rfl, ?_⟩); conv => whnf)
                  refine ⟨q.id, z32, ⟨rfl, c32_map hh.id.2, rfl, hh.id.2, rfl⟩, ?_⟩
                  conv => whnf
                  repeat ((refine ifB_t ?_); conv => whnf)
                  rw [df c7]
                  conv => whnf
                  repeat ((first | refine ifB_t ?_ | refine ⟨rfl, ?_⟩); conv => whnf)
                  rfl
            · rw [c5] at e
              by_cases c6 : q.len ≤ 0
              · rw [dt c6, df (show ¬ q.len ≠ 0 by omega)] at e
                by_cases c7 : q.id = z32
                · rw [dt c7] at e
                  conv => whnf
                  repeat ((first | refine ifB_f ?_ | (refine ifB_neg (decide_eq_false (by first | omega | rfl | (dsimp only; omega))) ?_) | refine ⟨_, rfl, ?_⟩); conv => whnf)
                  refine ifB_pos c5 ?_
                  conv => whnf
                  repeat ((first | refine ifB_t ?_ | refine ifB_f ?_ | (refine ifB_neg (decide_eq_false (by first | omega | rfl | (dsimp only; omega))) ?_) | (refine ifB_pos (decide_eq_true (by first | omega | rfl | (dsimp only; omega))) ?_) | refine ⟨_, rfl, ?_⟩); conv => whnf)
                  refine ⟨q.id, z32, ⟨rfl, c32_map hh.id.2, rfl, hh.id.2, rfl⟩, ?_⟩
                  conv => whnf
                  repeat ((refine ifB_t ?_); conv => whnf)
                  rw [dt c7]
                  conv => whnf
                  repeat ((first | refine ifB_f ?_ | (refine fit_i64 ⟨by first | omega | rfl | (dsimp only; omega), by first | omega | rfl | (dsimp only; omega)⟩ ?_)); conv => whnf)
                  exact ⟨c + 1, ⟨by omega, range_snoc hx e⟩, by omega, weaker_of [] rfl rfl ⟨⟨rfl, rfl, hds_pure _⟩, ⟨rfl, rfl, hds_pure _⟩, ⟨rfl, rfl⟩, ⟨rfl, by simp⟩, trivial⟩ trivial⟩
                · rw [df c7] at e
                  rw [headsR_no c1 e]
                  conv => whnf
                  repeat ((first | refine ifB_f ?_ | (refine ifB_neg (decide_eq_false (by first | omega | rfl | (dsimp only; omega))) ?_) | refine ⟨_, rfl, ?_⟩); conv => whnf)
                  refine ifB_pos c5 ?_
                  conv => whnf
                  repeat ((first | refine ifB_t ?_ | refine ifB_f ?_ | (refine ifB_neg (decide_eq_false (by first | omega | rfl | (dsimp only; omega))) ?_) | (refine ifB_pos (decide_eq_true (by first | omega | rfl | (dsimp only; omega))) ?_) | refine ⟨_, rfl, ?_⟩); conv => whnf)
                  refine ⟨q.id, z32, ⟨rfl, c32_map hh.id.2, rfl, hh.id.2, rfl⟩, ?_⟩
                  conv => whnf
                  repeat ((refine ifB_t ?_); conv => whnf)
                  rw [df c7]
                  conv => whnf
                  repeat ((first | refine ifB_t ?_ | refine ⟨rfl, ?_⟩); conv => whnf)
                  rfl
              · rw [df c6] at e
                rw [headsR_no c1 e]
                conv => whnf
                repeat ((first | refine ifB_f ?_ | (refine ifB_neg (decide_eq_false (by first | omega | rfl | (dsimp only; omega))) ?_) | refine ⟨_, rfl, ?_⟩); conv => whnf)
                refine ifB_pos c5 ?_
                conv => whnf
                repeat ((first | refine ifB_t ?_ | refine ifB_f ?_ | (refine ifB_pos (decide_eq_true (by first | omega | rfl | (dsimp only; omega))) ?_) | refine ⟨rfl, ?_⟩ | refine ⟨_, rfl, ?_⟩); conv => whnf)
                rfl
          · rw [df c4] at e
            rw [headsR_no c1 e]
            conv => whnf
            repeat ((first | refine ifB_t ?_ | refine ifB_f ?_ | (refine ifB_neg (decide_eq_false (by first | omega | rfl | (dsimp only; omega))) ?_) | (refine ifB_pos (decide_eq_true (by first | omega | rfl | (dsimp only; omega))) ?_) | refine ⟨rfl, ?_⟩ | refine ⟨_, rfl, ?_⟩); conv => whnf)
            rfl
        · rw [df c3] at e
          rw [headsR_no c1 e]
          conv => whnf
          repeat ((first | refine ifB_t ?_ | (refine ifB_pos (decide_eq_true (by first | omega | rfl | (dsimp only; omega))) ?_) | refine ⟨rfl, ?_⟩ | refine ⟨_, rfl, ?_⟩); conv => whnf)
          rfl
      · have hp := hl _ (List.getElem_mem (show c - 1 < l.length by omega))
        refine ifB_pos (dt (by omega)) ?_
        conv => whnf
        repeat ((first | refine ifB_t ?_ | (refine fit_i64 ⟨by first | omega | rfl | (dsimp only; omega), by first | omega | rfl | (dsimp only; omega)⟩ ?_) | (refine ⟨⟨by first | (simp only [List.drop_zero, List.length_drop, hds_len]; omega) | exact Nat.le_of_ble_eq_true (by kernel_rfl), okB_none _⟩, ?_⟩) | (refine ⟨⟨?_, ?_, ?_⟩, ?_⟩; (focus omega); (focus (first | omega | (simp; done) | (simp; omega))); (focus (first | (rw [prfs_len]; simp; omega) | (rw [ents_len]; simp; omega) | (rw [hds_len]; simp; omega) | (rw [lets_len]; simp; omega))))); conv => whnf)
        have ec := cut_hd (l := l) (j := c - 1) (m := ((c : Int) - 1).toNat * 66) (by omega) (by omega) hp.au.2
        refine ⟨(congrArg pureL ec).trans (pureL_bys _), ?_⟩
        conv => whnf
        repeat ((refine ⟨rfl, ?_⟩); conv => whnf)
        refine Or.inr ?_
        conv => whnf
        repeat ((refine ⟨rfl, ?_⟩); conv => whnf)
        refine ⟨_, _, (compare_ok l[c - 1].au q.au hp.au.1 hh.au.1).arg2 hp.au.2.symm ec hh.au.2.symm (c32_take hh.au.2 _), by first | rfl | simp [noRoIf, noRoL, noRoV, noRoL_bys], ?_⟩
        conv => whnf
        repeat ((refine ifB_t ?_); conv => whnf)
        rw [df (show ¬ c = 0 by omega), Bool.false_or] at e
        rw [List.getD_eq_getElem?_getD, List.getElem?_eq_getElem (show c - 1 < l.length by omega), Option.getD_some] at e
        rw [cmp_lt0]
        cases c8 : bytesLt l[c - 1].au q.au
        · rw [c8, Bool.false_and] at e
          rw [headsR_no c1 e]
          conv => whnf
          repeat ((first | refine ifB_t ?_ | refine ⟨rfl, ?_⟩); conv => whnf)
          rfl
        rw [c8, Bool.true_and] at e
        conv => whnf
        repeat ((refine ifB_f ?_); conv => whnf)
        refine Does.tidy [(0, .ro l.length (rowsC hdC l)), (4, .ptr 0 0), (8, .ro l.length (rowsC hdC l)), (9, .int .i64 l.length), (10, .int .i64 c)] [(0, hdC q)] 1 59 rfl rfl rfl (by kernel_rfl) (by kernel_rfl) ?_
        refine wpc_sound (M := MW) (PL := PLheads) (CU := noCut) TTok mixed _ _ _ ?_
        unfold hdR at e
        by_cases c3 : 0 ≤ q.len
        · rw [dt c3] at e
          by_cases c4 : q.len ≤ 200
          · rw [dt c4] at e
            cases c5 : q.shut
            · rw [c5] at e
              by_cases c6 : q.len ≠ 0
              · rw [dt c6] at e
                conv => whnf
                repeat ((first | refine ifB_f ?_ | (refine ifB_neg (decide_eq_false (by first | omega | rfl | (dsimp only; omega))) ?_) | refine ⟨_, rfl, ?_⟩); conv => whnf)
                refine ifB_neg c5 ?_
                conv => whnf
                repeat ((first | refine ifB_f ?_ | (refine ifB_neg (decide_eq_false (by first | omega | rfl | (dsimp only; omega))) ?_) | (refine fit_i64 ⟨by first | omega | rfl | (dsimp only; omega), by first | omega | rfl | (dsimp only; omega)⟩ ?_) | refine ⟨_, rfl, ?_⟩); conv => whnf)
                exact ⟨c + 1, ⟨by omega, range_snoc hx e⟩, by omega, weaker_of [] rfl rfl ⟨⟨rfl, rfl, hds_pure _⟩, ⟨rfl, rfl, hds_pure _⟩, ⟨rfl, rfl⟩, ⟨rfl, by simp⟩, trivial⟩ trivial⟩
              · rw [df c6] at e
                by_cases c7 : q.id = z32
                · rw [dt c7] at e
                  conv => whnf
                  repeat ((first | refine ifB_f ?_ | (refine ifB_neg (decide_eq_false (by first | omega | rfl | (dsimp only; omega))) ?_) | refine ⟨_, rfl, ?_⟩); conv => whnf)
                  refine ifB_neg c5 ?_
                  conv => whnf
                  repeat ((first | refine ifB_t ?_ | refine ifB_f ?_ | (refine ifB_pos (decide_eq_true (by first | omega | rfl | (dsimp only; omega))) ?_) | refine ⟨_, rfl, ?_⟩); conv => whnf)
                  refine ⟨q.id, z32, ⟨rfl, c32_map hh.id.2, rfl, hh.id.2, rfl⟩, ?_⟩
                  conv => whnf
                  repeat ((refine ifB_t ?_); conv => whnf)
                  rw [dt c7]
                  conv => whnf
                  repeat ((first | refine ifB_f ?_ | (refine fit_i64 ⟨by first | omega | rfl | (dsimp only; omega), by first | omega | rfl | (dsimp only; omega)⟩ ?_)); conv => whnf)
                  exact ⟨c + 1, ⟨by omega, range_snoc hx e⟩, by omega, weaker_of [] rfl rfl ⟨⟨rfl, rfl, hds_pure _⟩, ⟨rfl, rfl, hds_pure _⟩, ⟨rfl, rfl⟩, ⟨rfl, by simp⟩, trivial⟩ trivial⟩
                · rw [df c7] at e
                  rw [headsR_no c1 e]
                  conv => whnf
                  repeat ((first | refine ifB_f ?_ | (refine ifB_neg (decide_eq_false (by first | omega | rfl | (dsimp only; omega))) ?_) | refine ⟨_, rfl, ?_⟩); conv => whnf)
                  refine ifB_neg c5 ?_
                  conv => whnf
                  repeat ((first | refine ifB_t ?_ | refine ifB_f ?_ | (refine ifB_pos (decide_eq_true (by first | omega | rfl | (dsimp only; omega))) ?_) | refine ⟨_, rfl, ?_⟩); conv => whnf)
                  refine ⟨q.id, z32, ⟨rfl, c32_map hh.id.2, rfl, hh.id.2, rfl⟩, ?_⟩
                  conv => whnf
                  repeat ((refine ifB_t ?_); conv => whnf)
                  rw [df c7]
                  conv => whnf
                  repeat ((first | refine ifB_t ?_ | refine ⟨rfl, ?_⟩); conv => whnf)
                  rfl
            · rw [c5] at e
              by_cases c6 : q.len ≤ 0
              · rw [dt c6, df (show ¬ q.len ≠ 0 by omega)] at e
                by_cases c7 : q.id = z32
                · rw [dt c7] at e
                  conv => whnf
                  repeat ((first | refine ifB_f ?_ | (refine ifB_neg (decide_eq_false (by first | omega | rfl | (dsimp only; omega))) ?_) | refine ⟨_, rfl, ?_⟩); conv => whnf)
                  refine ifB_pos c5 ?_
                  conv => whnf
                  repeat ((first | refine ifB_t ?_ | refine ifB_f ?_ | (refine ifB_neg (decide_eq_false (by first | omega | rfl | (dsimp only; omega))) ?_) | (refine ifB_pos (decide_eq_true (by first | omega | rfl | (dsimp only; omega))) ?_) | refine ⟨_, rfl, ?_⟩); conv => whnf)
                  refine ⟨q.id, z32, ⟨rfl, c32_map hh.id.2, rfl, hh.id.2, rfl⟩, ?_⟩
                  conv => whnf
                  repeat ((refine ifB_t ?_); conv => whnf)
                  rw [dt c7]
                  conv => whnf
                  repeat ((first | refine ifB_f ?_ | (refine fit_i64 ⟨by first | omega | rfl | (dsimp only; omega), by first | omega | rfl | (dsimp only; omega)⟩ ?_)); conv => whnf)
                  exact ⟨c + 1, ⟨by omega, range_snoc hx e⟩, by omega, weaker_of [] rfl rfl ⟨⟨rfl, rfl, hds_pure _⟩, ⟨rfl, rfl, hds_pure _⟩, ⟨rfl, rfl⟩, ⟨rfl, by simp⟩, trivial⟩ trivial⟩
                · rw [df c7] at e
                  rw [headsR_no c1 e]
                  conv => whnf
                  repeat ((first | refine ifB_f ?_ | (refine ifB_neg (decide_eq_false (by first | omega | rfl | (dsimp only; omega))) ?_) | refine ⟨_, rfl, ?_⟩); conv => whnf)
                  refine ifB_pos c5 ?_
                  conv => whnf
                  repeat ((first | refine ifB_t ?_ | refine ifB_f ?_ | (refine ifB_neg (decide_eq_false (by first | omega | rfl | (dsimp only; omega))) ?_) | (refine ifB_pos (decide_eq_true (by first | omega | rfl | (dsimp only; omega))) ?_) | refine ⟨_, rfl, ?_⟩); conv => whnf)
                  refine ⟨q.id, z32, ⟨rfl, c32_map hh.id.2, rfl, hh.id.2, rfl⟩, ?_⟩
                  conv => whnf
                  repeat ((refine ifB_t ?_); conv => whnf)
                  rw [df c7]
                  conv => whnf
                  repeat ((first | refine ifB_t ?_ | refine ⟨rfl, ?_⟩); conv => whnf)
                  rfl
              · rw [df c6] at e
                rw [headsR_no c1 e]
                conv => whnf
                repeat ((first | refine ifB_f ?_ | (refine ifB_neg (decide_eq_false (by first | omega | rfl | (dsimp only; omega))) ?_) | refine ⟨_, rfl, ?_⟩); conv => whnf)
                refine ifB_pos c5 ?_
                conv => whnf
                repeat ((first | refine ifB_t ?_ | refine ifB_f ?_ | (refine ifB_pos (decide_eq_true (by first | omega | rfl | (dsimp only; omega))) ?_) | refine ⟨rfl, ?_⟩ | refine ⟨_, rfl, ?_⟩); conv => whnf)
                rfl
          · rw [df c4] at e
            rw [headsR_no c1 e]
            conv => whnf
            repeat ((first | refine ifB_t ?_ | refine ifB_f ?_ | (refine ifB_neg (decide_eq_false (by first | omega | rfl | (dsimp only; omega))) ?_) | (refine ifB_pos (decide_eq_true (by first | omega | rfl | (dsimp only; omega))) ?_) | refine ⟨rfl, ?_⟩ | refine ⟨_, rfl, ?_⟩); conv => whnf)
            rfl
        · rw [df c3] at e
          rw [headsR_no c1 e]
          conv => whnf
          repeat ((first | refine ifB_t ?_ | (refine ifB_pos (decide_eq_true (by first | omega | rfl | (dsimp only; omega))) ?_) | refine ⟨rfl, ?_⟩ | refine ⟨_, rfl, ?_⟩); conv => whnf)
          rfl
    · obtain rfl : c = l.length := by omega
      refine wpc_sound (M := MW) (PL := PLheads) (CU := noCut) TTok mixed _ _ _ ?_
      have : headsR l = true := by unfold headsR; rw [hx, dt (show l.length ≤ 8 by omega)]; rfl
      rw [this]
      conv => whnf
      repeat ((first | (refine ifB_neg (decide_eq_false (by first | omega | rfl | (dsimp only; omega))) ?_) | refine ⟨rfl, ?_⟩); conv => whnf)
      rfl
  · exact weaker_of [] rfl rfl ⟨⟨rfl, rfl, hds_pure _⟩, ⟨rfl, rfl, hds_pure _⟩, ⟨rfl, rfl⟩, ⟨rfl, rfl⟩, trivial⟩ trivial
end Go.Proofs.YtelnlfhdaelfdaaDoor.Abs
end
section
--KR
set_option linter.unusedVariables false
set_option linter.unusedSimpArgs false
namespace Go.Proofs.YtelnlfhdaelfdaaDoor.Abs
open Go
attribute [local irreducible] ifB fitP Does Weaker
/-- May a message go from there to there? -/
def whoR (m : Msg) : Bool := decide (0 ≤ m.frm) && decide (m.frm < 8) && decide (0 ≤ m.to) && decide (m.to < 8) && decide (m.frm ≠ m.to)
/-- May a message be? -/
def msgR (m : Msg) : Bool := whoR m && (if m.kind = 1 then headsR m.hs && decide ((m.ps.length : Int) + m.es.length = 0) else if m.kind = 2 then decide (m.hs.length = 0) && decide (m.ps.length ≤ 4) && decide ((m.es.length : Int) ≤ 4 - m.ps.length) && !(m.ps.any fun p => !prfR p) && !(m.es.any fun e => !entR e) else false)
set_option maxHeartbeats 1000000 in
theorem check_msg_ok (m : Msg) (hm : MsgS m) : ACall Tryd.prog 31 [.agg (msgC m)] (.int .i64 (if msgR m then 0 else 1)) [] := by
  have hh := heads_ok m.hs hm.hs hm.hl
  have hp := contains1_ok m.ps hm.ps hm.pl
  have he := contains2_ok m.es hm.es hm.el
  have l1 := hm.hl
  have l2 := hm.pl
  have l3 := hm.el
  refine ACall.of_does TTok Tryd.func31 rfl Tryd.call31 rfl (wpc_sound (M := MW) (PL := PL0) (CU := cutAt [200001]) TTok mixed _ _ _ ?_)
  conv => whnf
  repeat ((refine ⟨rfl, ?_⟩); conv => whnf)
  refine Does.seqCut (fun ok : Bool => mkSt [(1, .ptr 0 0), (3, .bool ok)] [(0, msgC m)] 1 90) (fun ok => ok = whoR m) ?_ ?_
  · refine wpc_sound (M := MW) (PL := PL0) (CU := noCut) TTok mixed _ _ _ ?_
    unfold whoR
    by_cases a1 : 0 ≤ m.frm
    · rw [dt a1]
      by_cases a2 : m.frm < 8
      · rw [dt a2]
        by_cases a3 : 0 ≤ m.to
        · rw [dt a3]
          by_cases a4 : m.to < 8
          · rw [dt a4]
            conv => whnf
            repeat ((first | refine ifB_t ?_ | (refine ifB_pos (decide_eq_true (by first | omega | rfl | (dsimp only; omega))) ?_) | refine ⟨_, rfl, ?_⟩); conv => whnf)
            exact Weaker.tidy _ _ _ _ rfl rfl rfl (by kernel_rfl) (by kernel_rfl)
          · rw [df a4]
            conv => whnf
            repeat ((first | refine ifB_t ?_ | refine ifB_f ?_ | (refine ifB_neg (decide_eq_false (by first | omega | rfl | (dsimp only; omega))) ?_) | (refine ifB_pos (decide_eq_true (by first | omega | rfl | (dsimp only; omega))) ?_) | refine ⟨_, rfl, ?_⟩); conv => whnf)
            exact Weaker.tidy _ _ _ _ rfl rfl rfl (by kernel_rfl) (by kernel_rfl)
        · rw [df a3]
          conv => whnf
          repeat ((first | refine ifB_t ?_ | refine ifB_f ?_ | (refine ifB_neg (decide_eq_false (by first | omega | rfl | (dsimp only; omega))) ?_) | (refine ifB_pos (decide_eq_true (by first | omega | rfl | (dsimp only; omega))) ?_) | refine ⟨_, rfl, ?_⟩); conv => whnf)
          exact Weaker.tidy _ _ _ _ rfl rfl rfl (by kernel_rfl) (by kernel_rfl)
      · rw [df a2]
        conv => whnf
        repeat ((first | refine ifB_t ?_ | refine ifB_f ?_ | (refine ifB_neg (decide_eq_false (by first | omega | rfl | (dsimp only; omega))) ?_) | (refine ifB_pos (decide_eq_true (by first | omega | rfl | (dsimp only; omega))) ?_) | refine ⟨_, rfl, ?_⟩); conv => whnf)
        exact Weaker.tidy _ _ _ _ rfl rfl rfl (by kernel_rfl) (by kernel_rfl)
    · rw [df a1]
      conv => whnf
      repeat ((first | refine ifB_f ?_ | (refine ifB_neg (decide_eq_false (by first | omega | rfl | (dsimp only; omega))) ?_) | refine ⟨_, rfl, ?_⟩); conv => whnf)
      exact Weaker.tidy _ _ _ _ rfl rfl rfl (by kernel_rfl) (by kernel_rfl)
  · intro ok hok
    unfold msgR
    rw [← hok]
    clear hok
    refine wpc_sound (M := MW) (PL := PL0) (CU := noCut) TTok mixed _ _ _ ?_
    by_cases k1 : m.kind = 1
    · rw [if_pos k1]
      cases ok
      · conv => whnf
        repeat ((first | refine ifB_t ?_ | refine ifB_f ?_ | (refine ifB_pos (decide_eq_true (by first | omega | rfl | (dsimp only; omega))) ?_) | refine ⟨_, rfl, ?_⟩ | refine ⟨⟨rfl, rfl⟩, ?_⟩); conv => whnf)
        rfl
      · cases c1 : headsR m.hs <;> rw [c1] at hh
        · conv => whnf
          repeat ((first | refine ifB_t ?_ | (refine ifB_pos (decide_eq_true (by first | omega | rfl | (dsimp only; omega))) ?_) | refine ⟨rfl, ?_⟩ | refine ⟨_, rfl, ?_⟩ | refine ⟨(show pureL (rowsC _ _) = true from by first | exact prfs_pure _ | exact ents_pure _ | exact hds_pure _ | exact lets_pure _), ?_⟩); conv => whnf)
          refine ⟨_, _, hh, by first | rfl | simp [noRoIf, noRoL, noRoV, noRoL_bys], ?_⟩
          conv => whnf
          repeat ((first | refine ifB_t ?_ | refine ifB_f ?_ | refine ⟨⟨rfl, rfl⟩, ?_⟩); conv => whnf)
          rfl
        · by_cases c2 : (m.ps.length : Int) + m.es.length = 0
          · rw [dt c2]
            conv => whnf
            repeat ((first | refine ifB_t ?_ | (refine ifB_pos (decide_eq_true (by first | omega | rfl | (dsimp only; omega))) ?_) | refine ⟨rfl, ?_⟩ | refine ⟨_, rfl, ?_⟩ | refine ⟨(show pureL (rowsC _ _) = true from by first | exact prfs_pure _ | exact ents_pure _ | exact hds_pure _ | exact lets_pure _), ?_⟩); conv => whnf)
            refine ⟨_, _, hh, by first | rfl | simp [noRoIf, noRoL, noRoV, noRoL_bys], ?_⟩
            conv => whnf
            repeat ((first | refine ifB_t ?_ | (refine fit_i64 ⟨by first | omega | rfl | (dsimp only; omega), by first | omega | rfl | (dsimp only; omega)⟩ ?_) | refine ⟨_, rfl, ?_⟩); conv => whnf)
            rw [dt c2]
            conv => whnf
            repeat ((first | refine ifB_f ?_ | refine ⟨⟨rfl, rfl⟩, ?_⟩); conv => whnf)
            rfl
          · rw [df c2]
            conv => whnf
            repeat ((first | refine ifB_t ?_ | (refine ifB_pos (decide_eq_true (by first | omega | rfl | (dsimp only; omega))) ?_) | refine ⟨rfl, ?_⟩ | refine ⟨_, rfl, ?_⟩ | refine ⟨(show pureL (rowsC _ _) = true from by first | exact prfs_pure _ | exact ents_pure _ | exact hds_pure _ | exact lets_pure _), ?_⟩); conv => whnf)
            refine ⟨_, _, hh, by first | rfl | simp [noRoIf, noRoL, noRoV, noRoL_bys], ?_⟩
            conv => whnf
            repeat ((first | refine ifB_t ?_ | (refine fit_i64 ⟨by first | omega | rfl | (dsimp only; omega), by first | omega | rfl | (dsimp only; omega)⟩ ?_) | refine ⟨_, rfl, ?_⟩); conv => whnf)
            rw [df c2]
            conv => whnf
            repeat ((first | refine ifB_t ?_ | refine ⟨⟨rfl, rfl⟩, ?_⟩); conv => whnf)
            rfl
    · rw [if_neg k1]
      by_cases k2 : m.kind = 2
      · rw [if_pos k2]
        cases ok
        · conv => whnf
          repeat ((first | refine ifB_t ?_ | refine ifB_f ?_ | (refine ifB_neg (decide_eq_false (by first | omega | rfl | (dsimp only; omega))) ?_) | (refine ifB_pos (decide_eq_true (by first | omega | rfl | (dsimp only; omega))) ?_) | refine ⟨_, rfl, ?_⟩ | refine ⟨⟨rfl, rfl⟩, ?_⟩); conv => whnf)
          rfl
        by_cases d1 : m.hs.length = 0
        · rw [dt d1]
          by_cases d2 : m.ps.length ≤ 4
          · rw [dt d2]
            by_cases d3 : (m.es.length : Int) ≤ 4 - m.ps.length
            · rw [dt d3]
              cases d4 : (m.ps.any fun p => !prfR p) <;> rw [d4] at hp
              · cases d5 : (m.es.any fun e => !entR e) <;> rw [d5] at he
                · conv => whnf
                  repeat ((first | refine ifB_t ?_ | (refine ifB_neg (decide_eq_false (by first | omega | rfl | (dsimp only; omega))) ?_) | (refine ifB_pos (decide_eq_true (by first | omega | rfl | (dsimp only; omega))) ?_) | (refine fit_i64 ⟨by first | omega | rfl | (dsimp only; omega), by first | omega | rfl | (dsimp only; omega)⟩ ?_) | refine ⟨rfl, ?_⟩ | refine ⟨_, rfl, ?_⟩ | refine ⟨(show pureL (rowsC _ _) = true from by first | exact prfs_pure _ | exact ents_pure _ | exact hds_pure _ | exact lets_pure _), ?_⟩); conv => whnf)
                  refine ⟨_, _, hp, by first | rfl | simp [noRoIf, noRoL, noRoV, noRoL_bys], ?_⟩
                  conv => whnf
                  repeat ((first | refine ifB_t ?_ | refine ⟨rfl, ?_⟩ | refine ⟨_, rfl, ?_⟩ | refine ⟨(show pureL (rowsC _ _) = true from by first | exact prfs_pure _ | exact ents_pure _ | exact hds_pure _ | exact lets_pure _), ?_⟩); conv => whnf)
                  refine ⟨_, _, he, by first | rfl | simp [noRoIf, noRoL, noRoV, noRoL_bys], ?_⟩
                  conv => whnf
                  repeat ((first | refine ifB_t ?_ | refine ifB_f ?_ | refine ⟨⟨rfl, rfl⟩, ?_⟩); conv => whnf)
                  rfl
                · conv => whnf
                  repeat ((first | refine ifB_t ?_ | (refine ifB_neg (decide_eq_false (by first | omega | rfl | (dsimp only; omega))) ?_) | (refine ifB_pos (decide_eq_true (by first | omega | rfl | (dsimp only; omega))) ?_) | (refine fit_i64 ⟨by first | omega | rfl | (dsimp only; omega), by first | omega | rfl | (dsimp only; omega)⟩ ?_) | refine ⟨rfl, ?_⟩ | refine ⟨_, rfl, ?_⟩ | refine ⟨(show pureL (rowsC _ _) = true from by first | exact prfs_pure _ | exact ents_pure _ | exact hds_pure _ | exact lets_pure _), ?_⟩); conv => whnf)
                  refine ⟨_, _, hp, by first | rfl | simp [noRoIf, noRoL, noRoV, noRoL_bys], ?_⟩
                  conv => whnf
                  repeat ((first | refine ifB_t ?_ | refine ⟨rfl, ?_⟩ | refine ⟨_, rfl, ?_⟩ | refine ⟨(show pureL (rowsC _ _) = true from by first | exact prfs_pure _ | exact ents_pure _ | exact hds_pure _ | exact lets_pure _), ?_⟩); conv => whnf)
                  refine ⟨_, _, he, by first | rfl | simp [noRoIf, noRoL, noRoV, noRoL_bys], ?_⟩
                  conv => whnf
                  repeat ((first | refine ifB_t ?_ | refine ⟨⟨rfl, rfl⟩, ?_⟩); conv => whnf)
                  rfl
              · conv => whnf
                repeat ((first | refine ifB_t ?_ | (refine ifB_neg (decide_eq_false (by first | omega | rfl | (dsimp only; omega))) ?_) | (refine ifB_pos (decide_eq_true (by first | omega | rfl | (dsimp only; omega))) ?_) | (refine fit_i64 ⟨by first | omega | rfl | (dsimp only; omega), by first | omega | rfl | (dsimp only; omega)⟩ ?_) | refine ⟨rfl, ?_⟩ | refine ⟨_, rfl, ?_⟩ | refine ⟨(show pureL (rowsC _ _) = true from by first | exact prfs_pure _ | exact ents_pure _ | exact hds_pure _ | exact lets_pure _), ?_⟩); conv => whnf)
                refine ⟨_, _, hp, by first | rfl | simp [noRoIf, noRoL, noRoV, noRoL_bys], ?_⟩
                conv => whnf
                repeat ((first | refine ifB_t ?_ | refine ifB_f ?_ | refine ⟨⟨rfl, rfl⟩, ?_⟩); conv => whnf)
                rfl
            · rw [df d3]
              conv => whnf
              repeat ((first | refine ifB_t ?_ | refine ifB_f ?_ | (refine ifB_neg (decide_eq_false (by first | omega | rfl | (dsimp only; omega))) ?_) | (refine ifB_pos (decide_eq_true (by first | omega | rfl | (dsimp only; omega))) ?_) | (refine fit_i64 ⟨by first | omega | rfl | (dsimp only; omega), by first | omega | rfl | (dsimp only; omega)⟩ ?_) | refine ⟨_, rfl, ?_⟩ | refine ⟨⟨rfl, rfl⟩, ?_⟩); conv => whnf)
              rfl
          · rw [df d2]
            conv => whnf
            repeat ((first | refine ifB_t ?_ | refine ifB_f ?_ | (refine ifB_neg (decide_eq_false (by first | omega | rfl | (dsimp only; omega))) ?_) | (refine ifB_pos (decide_eq_true (by first | omega | rfl | (dsimp only; omega))) ?_) | refine ⟨_, rfl, ?_⟩ | refine ⟨⟨rfl, rfl⟩, ?_⟩); conv => whnf)
            rfl
        · rw [df d1]
          conv => whnf
          repeat ((first | refine ifB_t ?_ | refine ifB_f ?_ | (refine ifB_neg (decide_eq_false (by first | omega | rfl | (dsimp only; omega))) ?_) | (refine ifB_pos (decide_eq_true (by first | omega | rfl | (dsimp only; omega))) ?_) | refine ⟨_, rfl, ?_⟩ | refine ⟨⟨rfl, rfl⟩, ?_⟩); conv => whnf)
          rfl
      · rw [if_neg k2]
        conv => whnf
        repeat ((first | refine ifB_t ?_ | (refine ifB_neg (decide_eq_false (by first | omega | rfl | (dsimp only; omega))) ?_) | refine ⟨_, rfl, ?_⟩ | (refine And.intro ?_ ?_; (focus (first | (simp [limB, lenB, offB]; done) | (simp [limB, lenB, offB]; omega))))); conv => whnf)
        cases ok <;> rfl
end Go.Proofs.YtelnlfhdaelfdaaDoor.Abs
end
section
--KR
set_option linter.unusedVariables false
set_option linter.unusedSimpArgs false
namespace Go.Proofs.YtelnlfhdaelfdaaDoor.Abs
open Go
attribute [local irreducible] ifB fitP Does Weaker
def bitR (b : Bool) : Int := if b then 1 else 0
def hdT (h : Hd) : List Tok := [⟨5, 4, []⟩, ⟨3, 0, h.au⟩, ⟨1, h.len, []⟩, ⟨3, 0, h.id⟩, ⟨1, bitR h.shut, []⟩]
def hdsT : List Hd → List Tok
  | [] => []
  | h :: r => hdT h ++ hdsT r
theorem hdsT_app : ∀ a b : List Hd, hdsT (a ++ b) = hdsT a ++ hdsT b
  | [], b => rfl
  | h :: a, b => by simp only [List.cons_append, hdsT, hdsT_app a b, List.append_assoc]
theorem hdsT_len : ∀ l : List Hd, (hdsT l).length = 5 * l.length
  | [] => rfl
  | h :: r => by simp only [hdsT, List.length_append, hdsT_len r, List.length_cons, hdT, List.length_nil]; omega
def frT (m : Msg) : List Tok := [⟨5, 4, []⟩, ⟨1, 3, []⟩, ⟨1, m.frm, []⟩, ⟨1, m.to, []⟩, ⟨5, m.hs.length, []⟩]
def anT (m : Msg) : List Tok := [⟨5, 5, []⟩, ⟨1, 4, []⟩, ⟨1, m.frm, []⟩, ⟨1, m.to, []⟩, ⟨5, m.ps.length, []⟩]
def prT (l : List Prf) : List Tok := l.map fun p => ⟨3, 0, (prfB p).1⟩
def enT (l : List Ent) : List Tok := l.map fun e => ⟨3, 0, (entB e).1⟩
def msgT (m : Msg) : List Tok := if m.kind = 1 then frT m ++ hdsT m.hs else anT m ++ prT m.ps ++ [⟨5, m.es.length, []⟩] ++ enT m.es
def msgB (m : Msg) : List Int × Int := if msgR m then encR validR (msgT m) else ([], 1)
theorem take_snoc {α : Type} {l : List α} {i : Nat} (h : i < l.length) : l.take (i + 1) = l.take i ++ [l[i]] := by
  rw [List.take_succ_eq_append_getElem h]
def TokB (t : Tok) : Prop := TokOk t ∧ t.b.length ≤ 1099511627776
theorem tokB_num {k n : Int} (hk : 0 ≤ k ∧ k ≤ 100) (hn : -9223372036854775808 ≤ n ∧ n < 9223372036854775808) : TokB ⟨k, n, []⟩ := ⟨⟨by dsimp only; omega, hn, fun x hx => absurd hx (List.not_mem_nil)⟩, by simp⟩
theorem tokB_str {b : List Int} (hb : Byt b) (hl : b.length ≤ 1000000000) : TokB ⟨3, 0, b⟩ := ⟨⟨by dsimp only; omega, by dsimp only; omega, hb⟩, by dsimp only; omega⟩
theorem hdT_tokB {h : Hd} (hh : HdS h) : ∀ t ∈ hdT h, TokB t := by
  intro t ht
  simp only [hdT, List.mem_cons, List.not_mem_nil, or_false] at ht
  rcases ht with rfl | rfl | rfl | rfl | rfl
  · exact tokB_num (by omega) (by omega)
  · exact tokB_str hh.au.1 (by have := hh.au.2; omega)
  · exact tokB_num (by omega) hh.len
  · exact tokB_str hh.id.1 (by have := hh.id.2; omega)
  · exact tokB_num (by omega) (by unfold bitR; split <;> omega)
theorem hdsT_tokB : ∀ {l : List Hd}, (∀ h ∈ l, HdS h) → ∀ t ∈ hdsT l, TokB t
  | [], _, t, ht => absurd ht (List.not_mem_nil)
  | h :: r, H, t, ht => by
    rcases List.mem_append.1 (show t ∈ hdT h ++ hdsT r from ht) with ht | ht
    · exact hdT_tokB (H h List.mem_cons_self) t ht
    · exact hdsT_tokB (fun x hx => H x (List.mem_cons_of_mem _ hx)) t ht
theorem fr_tokB {m : Msg} (hm : MsgS m) : ∀ t ∈ frT m ++ hdsT m.hs, TokB t := by
  intro t ht
  rcases List.mem_append.1 ht with ht | ht
  · simp only [frT, List.mem_cons, List.not_mem_nil, or_false] at ht
    have := hm.hl
    rcases ht with rfl | rfl | rfl | rfl | rfl
    · exact tokB_num (by omega) (by omega)
    · exact tokB_num (by omega) (by omega)
    · exact tokB_num (by omega) hm.frm
    · exact tokB_num (by omega) hm.to
    · exact tokB_num (by omega) (by omega)
  · exact hdsT_tokB hm.hs t ht
theorem prfB_or (p : Prf) : prfB p = ([], 1) ∨ ∃ a, prfB p = (a, 0) := by
  unfold prfB
  split
  · exact encR_or _ _
  · exact .inl rfl
theorem prf_toks {p : Prf} (hp : PrfS p) : ToksOk [⟨5, 3, []⟩, ⟨1, 2, []⟩, ⟨3, 0, (entB p.a).1⟩, ⟨3, 0, (entB p.b).1⟩] := by
  have b1 := entB_byt hp.a
  have b2 := entB_byt hp.b
  intro t ht
  simp only [List.mem_cons, List.not_mem_nil, or_false] at ht
  rcases ht with rfl | rfl | rfl | rfl
  · exact (tokB_num (by omega) (by omega)).1
  · exact (tokB_num (by omega) (by omega)).1
  · exact (tokB_str b1.1 (by omega)).1
  · exact (tokB_str b2.1 (by omega)).1
theorem prfB_byt {p : Prf} (hp : PrfS p) : Byt (prfB p).1 ∧ (prfB p).1.length ≤ 32768 := by
  unfold prfB
  split
  · refine ⟨encR_byt _ (prf_toks hp), ?_⟩
    rcases encR_or validR [⟨5, 3, []⟩, ⟨1, 2, []⟩, ⟨3, 0, (entB p.a).1⟩, ⟨3, 0, (entB p.b).1⟩] with h | ⟨a, h⟩
    · rw [h]; simp
    · have := encR_len h
      rw [h]; exact this
  · exact ⟨fun x hx => absurd hx (List.not_mem_nil), by simp⟩
theorem an_tokB {m : Msg} (hm : MsgS m) : ∀ t ∈ anT m ++ prT m.ps ++ [⟨5, m.es.length, []⟩] ++ enT m.es, TokB t := by
  intro t ht
  have h1 := hm.pl
  have h2 := hm.el
  rcases List.mem_append.1 ht with ht | ht
  · rcases List.mem_append.1 ht with ht | ht
    · rcases List.mem_append.1 ht with ht | ht
      · simp only [anT, List.mem_cons, List.not_mem_nil, or_false] at ht
        rcases ht with rfl | rfl | rfl | rfl | rfl
        · exact tokB_num (by omega) (by omega)
        · exact tokB_num (by omega) (by omega)
        · exact tokB_num (by omega) hm.frm
        · exact tokB_num (by omega) hm.to
        · exact tokB_num (by omega) (by omega)
      · simp only [prT, List.mem_map] at ht
        obtain ⟨p, hp, rfl⟩ := ht
        have := prfB_byt (hm.ps p hp)
        exact tokB_str this.1 (by omega)
    · simp only [List.mem_singleton] at ht
      subst ht
      exact tokB_num (by omega) (by omega)
  · simp only [enT, List.mem_map] at ht
    obtain ⟨p, hp, rfl⟩ := ht
    have := entB_byt (hm.es p hp)
    exact tokB_str this.1 (by omega)
def PLmsg : Nat → Bool × Plan := plans [(5, (false, (takesTo [2, 3, 5, 6, 8, 9, 10] (.all [(0, (.all [(1, (.all [(4, (.all [(7, (.all [(11, (.all [(12, (takes [13]))]))]))]))]))]))])))), (9, (false, (takesTo [0, 2, 3, 5, 6, 8, 9, 11, 12] (.all [(1, (.all [(4, (.all [(7, (.all [(10, (.all [(13, (.all [(14, (.all [(15, (.all [(16, (takes [17]))]))]))]))]))]))]))]))])))), (12, (false, (takesTo [2, 3, 5, 6, 8, 9, 10] (.all [(0, (.all [(1, (.all [(4, (.all [(7, (.all [(11, (.all [(12, (takes [13]))]))]))]))]))]))]))))]
set_option maxRecDepth 20000 in
set_option maxHeartbeats 2000000 in
theorem msg_bytes_ok (m : Msg) (hm : MsgS m) : ACall Tryd.prog 30 [.agg (msgC m)] (.tuple [.own (msgB m).1.length 1 (bys (msgB m).1), .int .i64 (msgB m).2]) [] := by
  have hc := check_msg_ok m hm
  unfold msgB
  refine ACall.of_does TTok Tryd.func30 rfl Tryd.call30 rfl (wpc_sound (M := MW) (PL := PLmsg) (CU := cutAt [100004]) TTok mixed _ _ _ ?_)
  cases c1 : msgR m <;> rw [c1] at hc
  · conv => whnf
    repeat ((first | refine ⟨rfl, ?_⟩ | refine ⟨_, rfl, ?_⟩ | refine ⟨(show pureL _ = true from by first | exact prfC_pure _ | exact hdC_pure _ | exact msgC_pure _ | exact letC_pure _), ?_⟩); conv => whnf)
    refine ⟨_, _, hc, by first | rfl | simp [noRoIf, noRoL, noRoV, noRoL_bys], ?_⟩
    conv => whnf
    repeat ((first | refine ifB_t ?_ | refine ⟨⟨rfl, rfl⟩, ?_⟩); conv => whnf)
    rfl
  conv => whnf
  repeat ((first | refine ⟨rfl, ?_⟩ | refine ⟨_, rfl, ?_⟩ | refine ⟨(show pureL _ = true from by first | exact prfC_pure _ | exact hdC_pure _ | exact msgC_pure _ | exact letC_pure _), ?_⟩); conv => whnf)
  refine ⟨_, _, hc, by first | rfl | simp [noRoIf, noRoL, noRoV, noRoL_bys], ?_⟩
  conv => whnf
  repeat ((refine ifB_f ?_); conv => whnf)
  refine Does.freeze 0 rfl (Does.tidy [(1, .rop (msgC m))] [] 1 127 rfl rfl rfl (by kernel_rfl) (by kernel_rfl) ?_)
  refine wpc_sound (M := MW) (PL := PLmsg) (CU := noCut) TTok mixed _ _ _ ?_
  unfold msgT
  by_cases k1 : m.kind = 1
  · rw [if_pos k1]
    conv => whnf
    repeat ((first | (refine ifB_pos (decide_eq_true (by first | omega | rfl | (dsimp only; omega))) ?_) | refine ⟨_, rfl, ?_⟩); conv => whnf)
    refine ⟨by kernel_rfl, ?_⟩
    conv => whnf
    repeat ((first | refine ⟨rfl, ?_⟩ | refine ⟨_, rfl, ?_⟩); conv => whnf)
    refine ⟨_, _, list_ok 4, by first | rfl | simp [noRoIf, noRoL, noRoV, noRoL_bys], ?_⟩
    conv => whnf
    repeat ((refine ⟨rfl, ?_⟩); conv => whnf)
    refine ⟨_, _, num_ok 3, by first | rfl | simp [noRoIf, noRoL, noRoV, noRoL_bys], ?_⟩
    conv => whnf
    repeat ((refine ⟨rfl, ?_⟩); conv => whnf)
    refine ⟨_, _, num_ok m.frm, by first | rfl | simp [noRoIf, noRoL, noRoV, noRoL_bys], ?_⟩
    conv => whnf
    repeat ((refine ⟨rfl, ?_⟩); conv => whnf)
    refine ⟨_, _, num_ok m.to, by first | rfl | simp [noRoIf, noRoL, noRoV, noRoL_bys], ?_⟩
    conv => whnf
    repeat ((refine ⟨rfl, ?_⟩); conv => whnf)
    refine ⟨_, _, list_ok m.hs.length, by first | rfl | simp [noRoIf, noRoL, noRoV, noRoL_bys], ?_⟩
    conv => whnf
    repeat ((first | refine ⟨_, rfl, ?_⟩ | refine ⟨⟨rfl, rfl⟩, ?_⟩); conv => whnf)
    have hL := hm.hl
    refine Does.loop (fun c : Nat => mkSt [(1, .rop (msgC m)), (5, .sl 1 0 (5 + 5 * c) 3 false), (39, .ro m.hs.length (rowsC hdC m.hs)), (40, .int .i64 m.hs.length), (41, .int .i64 c)] [(1, toksC (frT m ++ hdsT (m.hs.take c)))] 2 127)
      (fun c => c ≤ m.hs.length) (fun c => m.hs.length - c) ?_ 0 (Nat.zero_le _) ?_
    · intro c hcl
      rcases Nat.lt_or_ge c m.hs.length with c2 | c2
      · have hh := hm.hs _ (List.getElem_mem c2)
        have hlen : (frT m ++ hdsT (m.hs.take c)).length = 5 + 5 * c := by rw [List.length_append, hdsT_len]; simp [frT] <;> omega
        refine wpc_sound (M := MW) (PL := PLmsg) (CU := cutAt [100009]) TTok mixed _ _ _ ?_
        conv => whnf
        repeat ((first | (refine ifB_pos (decide_eq_true (by first | omega | rfl | (dsimp only; omega))) ?_) | (refine ⟨⟨?_, ?_, ?_⟩, ?_⟩; (focus omega); (focus (first | omega | (simp; done) | (simp; omega))); (focus (first | (rw [prfs_len]; simp; omega) | (rw [ents_len]; simp; omega) | (rw [hds_len]; simp; omega) | (rw [lets_len]; simp; omega))))); conv => whnf)
        refine ⟨_, takeN_row hdC_length c2 (by simp; omega) rfl, ?_⟩
        conv => whnf
        repeat ((first | refine ⟨(⟨by kernel_rfl, by kernel_rfl, Nat.le_of_ble_eq_true (by kernel_rfl)⟩ : AV.ones _ = true ∧ _ ∧ _), ?_⟩ | refine ⟨rfl, ?_⟩); conv => whnf)
        have hnext : frT m ++ hdsT (m.hs.take (c + 1)) = (frT m ++ hdsT (m.hs.take c)) ++ hdT m.hs[c] := by
          rw [take_snoc c2, hdsT_app, List.append_assoc]; simp [hdsT]
        generalize frT m ++ hdsT (m.hs.take c) = T at hlen hnext ⊢
        generalize m.hs[c] = q at hh hnext ⊢
        refine Does.freeze 2 rfl (Does.tidy [(1, .rop (msgC m)), (5, .sl 1 0 (5 + 5 * c) 3 false), (7, .rop (hdC q)), (39, .ro m.hs.length (rowsC hdC m.hs)), (40, .int .i64 m.hs.length), (41, .int .i64 c)] [(1, frzL 2 (hdC q) (toksC T))] 3 127 rfl rfl rfl (by kernel_rfl) (by kernel_rfl) ?_)
        rw [frzL_toks]
        refine wpc_sound (M := MW) (PL := PLmsg) (CU := noCut) TTok mixed _ _ _ ?_
        conv => whnf
        refine ⟨by kernel_rfl, ?_⟩
        conv => whnf
        repeat ((first | (refine ⟨⟨by first | (simp only [List.drop_zero, List.length_drop, hds_len]; omega) | exact Nat.le_of_ble_eq_true (by kernel_rfl), okB_none _⟩, ?_⟩) | refine ⟨rfl, ?_⟩ | refine ⟨_, rfl, ?_⟩); conv => whnf)
        refine ⟨_, _, list_ok 4, by first | rfl | simp [noRoIf, noRoL, noRoV, noRoL_bys], ?_⟩
        conv => whnf
        repeat ((refine ⟨rfl, ?_⟩); conv => whnf)
        refine ⟨_, _, (cstr_ok q.au).arg1 hh.au.2.symm (cut32 hh.au.2 _), by first | rfl | simp [noRoIf, noRoL, noRoV, noRoL_bys], ?_⟩
        conv => whnf
        repeat ((refine ⟨rfl, ?_⟩); conv => whnf)
        refine ⟨_, _, num_ok q.len, by first | rfl | simp [noRoIf, noRoL, noRoV, noRoL_bys], ?_⟩
        conv => whnf
        repeat ((refine ⟨rfl, ?_⟩); conv => whnf)
        refine ⟨_, _, (cstr_ok q.id).arg1 hh.id.2.symm (cut32 hh.id.2 _), by first | rfl | simp [noRoIf, noRoL, noRoV, noRoL_bys], ?_⟩
        conv => whnf
        repeat ((refine ⟨rfl, ?_⟩); conv => whnf)
        refine ⟨_, _, bit_ok q.shut, by first | rfl | simp [noRoIf, noRoL, noRoV, noRoL_bys], ?_⟩
        conv => whnf
        repeat ((refine ⟨rfl, ?_⟩); conv => whnf)
        refine ⟨_, _, num_ok (if q.shut = true then 1 else 0), by first | rfl | simp [noRoIf, noRoL, noRoV, noRoL_bys], ?_⟩
        conv => whnf
        repeat ((first | (refine fit_i64 ⟨by first | omega | rfl | (dsimp only; omega), by first | omega | rfl | (dsimp only; omega)⟩ ?_) | (refine Or.inl ⟨⟨rfl, ?_⟩, ?_⟩; (focus (first | rfl | (simp; done) | (rw [toksC_length]; omega)))) | refine ⟨rfl, ?_⟩ | refine ⟨⟨rfl, rfl⟩, ?_⟩ | (refine ⟨⟨rfl, rfl, ?_, ?_⟩, ?_⟩; (focus (first | (simp [toksC_length]; done) | (simp [toksC_length]; omega))); (focus (first | (simp [limB, lenB, offB]; done) | (simp [limB, lenB, offB]; omega))))); conv => whnf)
        refine ⟨c + 1, by omega, by omega, weaker_of [(1, 4)] rfl rfl ⟨⟨rfl, msgC_pure m⟩, ⟨rfl, rfl, rfl, rfl, id⟩, ⟨rfl, rfl, hds_pure _⟩, ⟨rfl, rfl⟩, ⟨rfl, rfl⟩, trivial⟩ ⟨?_, trivial⟩⟩
        rw [hnext]
        exact lesP_toks (by rw [toksC_append]; rfl)
      · obtain rfl : c = m.hs.length := by omega
        rw [List.take_length]
        have hlen : (frT m ++ hdsT m.hs).length = 5 + 5 * m.hs.length := by rw [List.length_append, hdsT_len]; simp [frT] <;> omega
        have hb := encode_ok (frT m ++ hdsT m.hs) (fun t ht => (fr_tokB hm t ht).1) (fun t ht => (fr_tokB hm t ht).2)
        refine wpc_sound (M := MW) (PL := PLmsg) (CU := noCut) TTok mixed _ _ _ ?_
        conv => whnf
        repeat ((first | (refine ifB_neg (decide_eq_false (by first | omega | rfl | (dsimp only; omega))) ?_) | (refine Or.inl ⟨⟨rfl, ?_⟩, ?_⟩; (focus (first | rfl | (simp; done) | (rw [toksC_length]; omega)))) | refine ⟨rfl, ?_⟩ | (refine And.intro ?_ ?_; (focus (first | (simp only [pureL, pureV, pureL_bys, Bool.and_true, Bool.and_self]; done) | (simp only [pureL, pureV, pureL_bys, pureL_toks, Bool.and_true, Bool.and_self]; done))))); conv => whnf)
        refine ⟨_, _, hb.arg1 (by omega) rfl, by first | rfl | simp [noRoIf, noRoL, noRoV, noRoL_bys], ?_⟩
        conv => whnf
        repeat ((first | refine ⟨⟨rfl, rfl⟩, ?_⟩ | (refine ⟨⟨rfl, rfl, rfl, ?_, pureL_bys _⟩, ?_⟩; (focus (simp; done)))); conv => whnf)
        rfl
    · exact weaker_of [(1, 1)] rfl rfl ⟨⟨rfl, msgC_pure m⟩, ⟨rfl, rfl, rfl, rfl, fun h => by cases h⟩, ⟨rfl, rfl, hds_pure _⟩, ⟨rfl, rfl⟩, ⟨rfl, rfl⟩, trivial⟩ ⟨lesP_toks rfl, trivial⟩
  · rw [if_neg k1]
    conv => whnf
    repeat ((first | (refine ifB_neg (decide_eq_false (by first | omega | rfl | (dsimp only; omega))) ?_) | refine ⟨_, rfl, ?_⟩); conv => whnf)
    refine ⟨by kernel_rfl, ?_⟩
    conv => whnf
    repeat ((first | refine ⟨rfl, ?_⟩ | refine ⟨_, rfl, ?_⟩); conv => whnf)
    refine ⟨_, _, list_ok 5, by first | rfl | simp [noRoIf, noRoL, noRoV, noRoL_bys], ?_⟩
    conv => whnf
    repeat ((refine ⟨rfl, ?_⟩); conv => whnf)
    refine ⟨_, _, num_ok 4, by first | rfl | simp [noRoIf, noRoL, noRoV, noRoL_bys], ?_⟩
    conv => whnf
    repeat ((refine ⟨rfl, ?_⟩); conv => whnf)
    refine ⟨_, _, num_ok m.frm, by first | rfl | simp [noRoIf, noRoL, noRoV, noRoL_bys], ?_⟩
    conv => whnf
    repeat ((refine ⟨rfl, ?_⟩); conv => whnf)
    refine ⟨_, _, num_ok m.to, by first | rfl | simp [noRoIf, noRoL, noRoV, noRoL_bys], ?_⟩
    conv => whnf
    repeat ((refine ⟨rfl, ?_⟩); conv => whnf)
    refine ⟨_, _, list_ok m.ps.length, by first | rfl | simp [noRoIf, noRoL, noRoV, noRoL_bys], ?_⟩
    conv => whnf
    repeat ((first | refine ⟨_, rfl, ?_⟩ | refine ⟨⟨rfl, rfl⟩, ?_⟩); conv => whnf)
    have hL := hm.pl
    have hE := hm.el
    refine Does.loop (fun c : Nat => mkSt [(1, .rop (msgC m)), (8, .sl 1 0 (5 + c) 3 false), (81, .ro m.ps.length (rowsC prfC m.ps)), (82, .int .i64 m.ps.length), (83, .int .i64 c)] [(1, toksC (anT m ++ prT (m.ps.take c)))] 2 127)
      (fun c => c ≤ m.ps.length) (fun c => m.ps.length - c) ?_ 0 (Nat.zero_le _) ?_
    · intro c hcl
      rcases Nat.lt_or_ge c m.ps.length with c2 | c2
      · have hh := hm.ps _ (List.getElem_mem c2)
        have hlen : (anT m ++ prT (m.ps.take c)).length = 5 + c := by rw [List.length_append]; simp [anT, prT] <;> omega
        have hnext : anT m ++ prT (m.ps.take (c + 1)) = (anT m ++ prT (m.ps.take c)) ++ [⟨3, 0, (prfB m.ps[c]).1⟩] := by
          unfold prT; rw [take_snoc c2, List.map_append, ← List.append_assoc]; rfl
        have hb := pbytes_ok m.ps[c] hh
        refine wpc_sound (M := MW) (PL := PLmsg) (CU := cutAt [100016, 100017]) TTok mixed _ _ _ ?_
        conv => whnf
        repeat ((first | (refine ifB_pos (decide_eq_true (by first | omega | rfl | (dsimp only; omega))) ?_) | (refine ⟨⟨?_, ?_, ?_⟩, ?_⟩; (focus omega); (focus (first | omega | (simp; done) | (simp; omega))); (focus (first | (rw [prfs_len]; simp; omega) | (rw [ents_len]; simp; omega) | (rw [hds_len]; simp; omega) | (rw [lets_len]; simp; omega))))); conv => whnf)
        refine ⟨_, takeN_row prfC_length c2 (by simp; omega) rfl, ?_⟩
        conv => whnf
        repeat ((first | refine ⟨(⟨by kernel_rfl, by kernel_rfl, Nat.le_of_ble_eq_true (by kernel_rfl)⟩ : AV.ones _ = true ∧ _ ∧ _), ?_⟩ | refine ⟨rfl, ?_⟩); conv => whnf)
        generalize anT m ++ prT (m.ps.take c) = T at hlen hnext ⊢
        generalize m.ps[c] = q at hh hb hnext ⊢
        refine Does.tidy [(1, .rop (msgC m)), (8, .sl 1 0 (5 + c) 3 false), (10, .ptr 2 0), (81, .ro m.ps.length (rowsC prfC m.ps)), (82, .int .i64 m.ps.length), (83, .int .i64 c)] [(1, toksC T), (2, prfC q)] 3 127 rfl rfl rfl (by kernel_rfl) (by kernel_rfl) ?_
        refine wpc_sound (M := MW) (PL := PLmsg) (CU := noCut) TTok mixed _ _ _ ?_
        conv => whnf
        refine ⟨prfC q, by kernel_rfl, ?_⟩
        conv => whnf
        repeat ((first | refine ⟨rfl, ?_⟩ | refine ⟨(show pureL _ = true from by first | exact prfC_pure _ | exact hdC_pure _ | exact msgC_pure _ | exact letC_pure _), ?_⟩); conv => whnf)
        generalize prfB q = o at hb hnext ⊢
        obtain ⟨o, e⟩ := o
        refine ⟨_, _, hb, by first | rfl | simp [noRoIf, noRoL, noRoV, noRoL_bys], ?_⟩
        conv => whnf
        refine Does.freeze 3 rfl (Does.tidy [(1, .rop (msgC m)), (8, .sl 1 0 (5 + c) 3 false), (11, roW o), (81, .ro m.ps.length (rowsC prfC m.ps)), (82, .int .i64 m.ps.length), (83, .int .i64 c)] [(1, frzL 3 (bys o) (toksC T)), (2, frzL 3 (bys o) (prfC q))] 4 127 rfl rfl rfl (by kernel_rfl) (by kernel_rfl) ?_)
        rw [roW_eq, frzL_toks, prfC_frz]
        refine wpc_sound (M := MW) (PL := PLmsg) (CU := noCut) TTok mixed _ _ _ ?_
        conv => whnf
        repeat ((first | refine ⟨pureL_bys _, ?_⟩ | refine ⟨rfl, ?_⟩); conv => whnf)
        refine ⟨_, _, cstr_ok o, by first | rfl | simp [noRoIf, noRoL, noRoV, noRoL_bys], ?_⟩
        conv => whnf
        repeat ((first | (refine fit_i64 ⟨by first | omega | rfl | (dsimp only; omega), by first | omega | rfl | (dsimp only; omega)⟩ ?_) | (refine Or.inl ⟨⟨rfl, ?_⟩, ?_⟩; (focus (first | rfl | (simp; done) | (rw [toksC_length]; omega)))) | refine ⟨rfl, ?_⟩ | refine ⟨⟨rfl, rfl⟩, ?_⟩ | (refine ⟨⟨rfl, rfl, ?_, ?_⟩, ?_⟩; (focus (first | (simp [toksC_length]; done) | (simp [toksC_length]; omega))); (focus (first | (simp [limB, lenB, offB]; done) | (simp [limB, lenB, offB]; omega))))); conv => whnf)
        refine ⟨c + 1, by omega, by omega, weaker_of [(1, 5)] rfl rfl ⟨⟨rfl, msgC_pure m⟩, ⟨rfl, rfl, by first | rfl | omega, rfl, id⟩, ⟨rfl, rfl, prfs_pure _⟩, ⟨rfl, rfl⟩, ⟨rfl, rfl⟩, trivial⟩ ⟨?_, trivial⟩⟩
        rw [hnext]
        exact lesP_toks (by rw [toksC_append]; rfl)
      · obtain rfl : c = m.ps.length := by omega
        rw [List.take_length]
        have hlen : (anT m ++ prT m.ps).length = 5 + m.ps.length := by rw [List.length_append]; simp [anT, prT] <;> omega
        refine wpc_sound (M := MW) (PL := PLmsg) (CU := noCut) TTok mixed _ _ _ ?_
        conv => whnf
        repeat ((first | (refine ifB_neg (decide_eq_false (by first | omega | rfl | (dsimp only; omega))) ?_) | refine ⟨rfl, ?_⟩ | refine ⟨_, rfl, ?_⟩); conv => whnf)
        have hTB := an_tokB hm
        generalize anT m ++ prT m.ps = T0 at hlen hTB ⊢
        refine ⟨_, _, list_ok m.es.length, by first | rfl | simp [noRoIf, noRoL, noRoV, noRoL_bys], ?_⟩
        conv => whnf
        repeat ((first | (refine Or.inl ⟨⟨rfl, ?_⟩, ?_⟩; (focus (first | rfl | (simp; done) | (rw [toksC_length]; omega)))) | refine ⟨rfl, ?_⟩ | refine ⟨_, rfl, ?_⟩ | refine ⟨⟨rfl, rfl⟩, ?_⟩ | (refine ⟨⟨rfl, rfl, ?_, ?_⟩, ?_⟩; (focus (first | (simp [toksC_length]; done) | (simp [toksC_length]; omega))); (focus (first | (simp [limB, lenB, offB]; done) | (simp [limB, lenB, offB]; omega))))); conv => whnf)
        refine Does.loop (fun c : Nat => mkSt [(1, .rop (msgC m)), (8, .sl 1 0 (6 + m.ps.length + c) 3 false), (106, .ro m.es.length (rowsC entC m.es)), (107, .int .i64 m.es.length), (108, .int .i64 c)] [(1, toksC (T0 ++ ([⟨5, m.es.length, []⟩] : List Tok) ++ enT (m.es.take c)))] 2 127)
          (fun c => c ≤ m.es.length) (fun c => m.es.length - c) ?_ 0 (Nat.zero_le _) ?_
        · intro c hcl
          rcases Nat.lt_or_ge c m.es.length with c2 | c2
          · have hh := hm.es _ (List.getElem_mem c2)
            have hlen : (T0 ++ ([⟨5, m.es.length, []⟩] : List Tok) ++ enT (m.es.take c)).length = 6 + m.ps.length + c := by rw [List.length_append, List.length_append, hlen]; simp [enT] <;> omega
            have hnext : T0 ++ ([⟨5, m.es.length, []⟩] : List Tok) ++ enT (m.es.take (c + 1)) = (T0 ++ ([⟨5, m.es.length, []⟩] : List Tok) ++ enT (m.es.take c)) ++ [⟨3, 0, (entB m.es[c]).1⟩] := by
              unfold enT; rw [take_snoc c2, List.map_append, ← List.append_assoc]; rfl
            have hb := ebytes_ok m.es[c] hh
            refine wpc_sound (M := MW) (PL := PLmsg) (CU := cutAt [100023, 100024]) TTok mixed _ _ _ ?_
            conv => whnf
            repeat ((first | (refine ifB_pos (decide_eq_true (by first | omega | rfl | (dsimp only; omega))) ?_) | (refine ⟨⟨?_, ?_, ?_⟩, ?_⟩; (focus omega); (focus (first | omega | (simp; done) | (simp; omega))); (focus (first | (rw [prfs_len]; simp; omega) | (rw [ents_len]; simp; omega) | (rw [hds_len]; simp; omega) | (rw [lets_len]; simp; omega))))); conv => whnf)
            refine ⟨_, takeN_row entC_length c2 (by simp; omega) rfl, ?_⟩
            conv => whnf
            repeat ((first | refine ⟨(⟨by kernel_rfl, by kernel_rfl, Nat.le_of_ble_eq_true (by kernel_rfl)⟩ : AV.ones _ = true ∧ _ ∧ _), ?_⟩ | refine ⟨rfl, ?_⟩); conv => whnf)
            generalize T0 ++ ([⟨5, m.es.length, []⟩] : List Tok) ++ enT (m.es.take c) = T at hlen hnext ⊢
            generalize m.es[c] = q at hh hb hnext ⊢
            refine Does.tidy [(1, .rop (msgC m)), (8, .sl 1 0 (6 + m.ps.length + c) 3 false), (14, .ptr 2 0), (106, .ro m.es.length (rowsC entC m.es)), (107, .int .i64 m.es.length), (108, .int .i64 c)] [(1, toksC T), (2, entC q)] 3 127 rfl rfl rfl (by kernel_rfl) (by kernel_rfl) ?_
            refine wpc_sound (M := MW) (PL := PLmsg) (CU := noCut) TTok mixed _ _ _ ?_
            conv => whnf
            refine ⟨entC q, by kernel_rfl, ?_⟩
            conv => whnf
            repeat ((first | refine ⟨entC_pure _, ?_⟩ | refine ⟨rfl, ?_⟩); conv => whnf)
            generalize entB q = o at hb hnext ⊢
            obtain ⟨o, e⟩ := o
            refine ⟨_, _, hb, by first | rfl | simp [noRoIf, noRoL, noRoV, noRoL_bys], ?_⟩
            conv => whnf
            refine Does.freeze 3 rfl (Does.tidy [(1, .rop (msgC m)), (8, .sl 1 0 (6 + m.ps.length + c) 3 false), (15, roW o), (106, .ro m.es.length (rowsC entC m.es)), (107, .int .i64 m.es.length), (108, .int .i64 c)] [(1, frzL 3 (bys o) (toksC T)), (2, frzL 3 (bys o) (entC q))] 4 127 rfl rfl rfl (by kernel_rfl) (by kernel_rfl) ?_)
            rw [roW_eq, frzL_toks, entC_frz]
            refine wpc_sound (M := MW) (PL := PLmsg) (CU := noCut) TTok mixed _ _ _ ?_
            conv => whnf
            repeat ((first | refine ⟨pureL_bys _, ?_⟩ | refine ⟨rfl, ?_⟩); conv => whnf)
            refine ⟨_, _, cstr_ok o, by first | rfl | simp [noRoIf, noRoL, noRoV, noRoL_bys], ?_⟩
            conv => whnf
            repeat ((first | (refine fit_i64 ⟨by first | omega | rfl | (dsimp only; omega), by first | omega | rfl | (dsimp only; omega)⟩ ?_) | (refine Or.inl ⟨⟨rfl, ?_⟩, ?_⟩; (focus (first | rfl | (simp; done) | (rw [toksC_length]; omega)))) | refine ⟨rfl, ?_⟩ | refine ⟨⟨rfl, rfl⟩, ?_⟩ | (refine ⟨⟨rfl, rfl, ?_, ?_⟩, ?_⟩; (focus (first | (simp [toksC_length]; done) | (simp [toksC_length]; omega))); (focus (first | (simp [limB, lenB, offB]; done) | (simp [limB, lenB, offB]; omega))))); conv => whnf)
            refine ⟨c + 1, by omega, by omega, weaker_of [(1, 5)] rfl rfl ⟨⟨rfl, msgC_pure m⟩, ⟨rfl, rfl, by first | rfl | omega, rfl, id⟩, ⟨rfl, rfl, ents_pure _⟩, ⟨rfl, rfl⟩, ⟨rfl, rfl⟩, trivial⟩ ⟨?_, trivial⟩⟩
            rw [hnext]
            exact lesP_toks (by rw [toksC_append]; rfl)
          · obtain rfl : c = m.es.length := by omega
            rw [List.take_length]
            have hlen : (T0 ++ ([⟨5, m.es.length, []⟩] : List Tok) ++ enT m.es).length = 6 + m.ps.length + m.es.length := by rw [List.length_append, List.length_append, hlen]; simp [enT] <;> omega
            have hb := encode_ok (T0 ++ ([⟨5, m.es.length, []⟩] : List Tok) ++ enT m.es) (fun t ht => (hTB t ht).1) (fun t ht => (hTB t ht).2)
            refine wpc_sound (M := MW) (PL := PLmsg) (CU := noCut) TTok mixed _ _ _ ?_
            conv => whnf
            repeat ((first | (refine ifB_neg (decide_eq_false (by first | omega | rfl | (dsimp only; omega))) ?_) | (refine Or.inl ⟨⟨rfl, ?_⟩, ?_⟩; (focus (first | rfl | (simp; done) | (rw [toksC_length]; omega)))) | refine ⟨rfl, ?_⟩ | (refine And.intro ?_ ?_; (focus (first | (simp only [pureL, pureV, pureL_bys, Bool.and_true, Bool.and_self]; done) | (simp only [pureL, pureV, pureL_bys, pureL_toks, Bool.and_true, Bool.and_self]; done))))); conv => whnf)
            refine ⟨_, _, hb.arg1 (by omega) rfl, by first | rfl | simp [noRoIf, noRoL, noRoV, noRoL_bys], ?_⟩
            conv => whnf
            repeat ((first | refine ⟨⟨rfl, rfl⟩, ?_⟩ | (refine ⟨⟨rfl, rfl, rfl, ?_, pureL_bys _⟩, ?_⟩; (focus (simp; done)))); conv => whnf)
            rfl
        · exact weaker_of [(1, 3)] rfl rfl ⟨⟨rfl, msgC_pure m⟩, ⟨rfl, rfl, by simp <;> omega, rfl, fun h => by cases h⟩, ⟨rfl, rfl, ents_pure _⟩, ⟨rfl, rfl⟩, ⟨rfl, rfl⟩, trivial⟩ ⟨lesP_toks (by rw [show enT (List.take 0 m.es) = [] from rfl, List.append_nil, toksC_append]; rfl), trivial⟩
    · exact weaker_of [(1, 1)] rfl rfl ⟨⟨rfl, msgC_pure m⟩, ⟨rfl, rfl, rfl, rfl, fun h => by cases h⟩, ⟨rfl, rfl, prfs_pure _⟩, ⟨rfl, rfl⟩, ⟨rfl, rfl⟩, trivial⟩ ⟨lesP_toks (by simp [prT]; rfl), trivial⟩
end Go.Proofs.YtelnlfhdaelfdaaDoor.Abs
end
section
--KR
set_option linter.unusedVariables false
set_option linter.unusedSimpArgs false
namespace Go.Proofs.YtelnlfhdaelfdaaDoor.Abs
open Go
attribute [local irreducible] ifB fitP Does Weaker
theorem rNext_len (k : Int) (r : Rw) : (rNext k r).2.l.length ≤ r.l.length := by
  obtain ⟨l, bad⟩ := r
  unfold rNext
  split
  · exact Nat.le_refl _
  · cases l with
    | nil => exact Nat.le_refl _
    | cons t q => dsimp only; split <;> simp
theorem rNext_use (k : Int) (r : Rw) (h : (rNext k r).1.n ≠ 0) : (rNext k r).2.l.length + 1 = r.l.length := by
  obtain ⟨l, bad⟩ := r
  unfold rNext at h ⊢
  split at h
  · exact absurd rfl h
  · rename_i hb
    rw [if_neg hb]
    cases l with
    | nil => exact absurd rfl h
    | cons t q =>
      dsimp only at h ⊢
      split at h
      · rename_i hk; rw [if_pos hk]; simp
      · exact absurd rfl h
theorem rArr_len' (m : Nat) (r : Rw) : (rArr m r).2.l.length ≤ r.l.length := by
  unfold rArr
  split
  · exact rNext_len 3 r
  · exact rNext_len 3 r
/-- A head, behind its array's. -/
def rdHd (r : Rw) : Hd × Rw :=
  match rArr 32 r with
  | (au, r2) => match rNext 1 r2 with
    | (n, r3) => match rArr 32 r3 with
      | (id, r4) => match rNext 1 r4 with
        | (s, r5) => (⟨au, n.n, id, decide (s.n = 1)⟩, ⟨r5.l, r5.bad || decide (1 < s.n)⟩)
def frLoop : Nat → Rw → List Hd → List Hd × Rw
  | 0, r, hs => (hs, r)
  | k + 1, r, hs => if r.bad = true then (hs, r) else if (rNext 5 r).1.n ≠ 4 then (hs, ⟨(rNext 5 r).2.l, true⟩) else frLoop k (rdHd (rNext 5 r).2).2 (hs ++ [(rdHd (rNext 5 r).2).1])
theorem frLoop_z (r : Rw) (hs : List Hd) : frLoop 0 r hs = (hs, r) := rfl
theorem frLoop_s (k : Nat) (r : Rw) (hs : List Hd) : frLoop (k + 1) r hs = if r.bad = true then (hs, r) else if (rNext 5 r).1.n ≠ 4 then (hs, ⟨(rNext 5 r).2.l, true⟩) else frLoop k (rdHd (rNext 5 r).2).2 (hs ++ [(rdHd (rNext 5 r).2).1]) := rfl
theorem rdHd_ok {r : Rw} (h : RwOk r) : HdS (rdHd r).1 ∧ RwOk (rdHd r).2 ∧ (rdHd r).2.l.length ≤ r.l.length := by
  unfold rdHd
  have k2 := rArr_rok h 32
  have l2 := rArr_len' 32 r
  generalize rArr 32 r = q at k2 l2 ⊢
  obtain ⟨au, r2⟩ := q
  dsimp only at k2 l2 ⊢
  have k3 := rNext_rok k2.1 1
  have l3 := rNext_len 1 r2
  generalize rNext 1 r2 = q at k3 l3 ⊢
  obtain ⟨n, r3⟩ := q
  dsimp only at k3 l3 ⊢
  have k4 := rArr_rok k3.1 32
  have l4 := rArr_len' 32 r3
  generalize rArr 32 r3 = q at k4 l4 ⊢
  obtain ⟨id, r4⟩ := q
  dsimp only at k4 l4 ⊢
  have k5 := rNext_rok k4.1 1
  have l5 := rNext_len 1 r4
  generalize rNext 1 r4 = q at k5 l5 ⊢
  obtain ⟨s, r5⟩ := q
  dsimp only at k5 l5 ⊢
  exact ⟨⟨k2.2, k3.2.1.2.1, k4.2⟩, k5.1, by omega⟩
/-- A frontier, behind its mark. -/
def rdFr (r : Rw) : Msg × Rw :=
  match rNext 1 r with
  | (f, r1) => match rNext 1 r1 with
    | (t, r2) => match rNext 5 r2 with
      | (n, r3) => (⟨1, f.n, t.n, (frLoop n.n.toNat r3 []).1, [], []⟩, (frLoop n.n.toNat r3 []).2)
def msgV (k f t : Int) (h p e : AV) : List AV := [.int .i64 k, .int .i64 f, .int .i64 t, h, p, e]
set_option maxHeartbeats 2000000 in
theorem frontier_ok (r : Rw) (hr : RwOk r) (hl : r.l.length ≤ 1000000) : ACall Tryd.prog 71 [.ref (rowC r)] (.agg (msgC (rdFr r).1)) [.ref (rowC (rdFr r).2)] := by
  unfold rdFr
  have h1 := rnum_ok r
  have k1 := rNext_rok hr 1
  have l1 := rNext_len 1 r
  generalize rNext 1 r = q at h1 k1 l1 ⊢
  obtain ⟨f, r1⟩ := q
  dsimp only at h1 k1 l1 ⊢
  have h2 := rnum_ok r1
  have k2 := rNext_rok k1.1 1
  have l2 := rNext_len 1 r1
  generalize rNext 1 r1 = q at h2 k2 l2 ⊢
  obtain ⟨t, r2⟩ := q
  dsimp only at h2 k2 l2 ⊢
  have h3 := rlist_ok r2
  have k3 := rNext_rok k2.1 5
  have l3 := rNext_len 5 r2
  generalize rNext 5 r2 = q at h3 k3 l3 ⊢
  obtain ⟨n, r3⟩ := q
  dsimp only at h3 k3 l3 ⊢
  refine ACall.of_does TTok Tryd.func71 rfl Tryd.call71 rfl (wpc_sound (M := MW) (PL := PL0) (CU := cutAt [100012]) TTok mixed _ _ _ ?_)
  conv => whnf
  repeat ((first | refine ⟨rfl, ?_⟩ | (refine And.intro ?_ ?_; (focus (first | (simp only [pureL, pureV, pureL_bys, Bool.and_true, Bool.and_self]; done) | (simp only [pureL, pureV, pureL_bys, pureL_toks, Bool.and_true, Bool.and_self]; done))))); conv => whnf)
  refine ⟨_, _, h1, by first | rfl | simp [noRoIf, noRoL, noRoV, noRoL_bys], ?_⟩
  conv => whnf
  repeat ((first | refine ⟨rfl, ?_⟩ | (refine And.intro ?_ ?_; (focus (first | (simp only [pureL, pureV, pureL_bys, Bool.and_true, Bool.and_self]; done) | (simp only [pureL, pureV, pureL_bys, pureL_toks, Bool.and_true, Bool.and_self]; done))))); conv => whnf)
  refine ⟨_, _, h2, by first | rfl | simp [noRoIf, noRoL, noRoV, noRoL_bys], ?_⟩
  conv => whnf
  repeat ((first | refine ⟨(⟨by kernel_rfl, by kernel_rfl, Nat.le_of_ble_eq_true (by kernel_rfl)⟩ : AV.ones _ = true ∧ _ ∧ _), ?_⟩ | refine ⟨rfl, ?_⟩ | (refine And.intro ?_ ?_; (focus (first | (simp only [pureL, pureV, pureL_bys, Bool.and_true, Bool.and_self]; done) | (simp only [pureL, pureV, pureL_bys, pureL_toks, Bool.and_true, Bool.and_self]; done))))); conv => whnf)
  refine ⟨_, _, h3, by first | rfl | simp [noRoIf, noRoL, noRoV, noRoL_bys], ?_⟩
  conv => whnf
  refine Does.loop (fun g : Int × Rw × List Hd => mkSt [(0, .ptr 0 0), (2, .ptr 1 0), (3, .ptr 2 0), (4, .int .i64 g.1)] [(0, rowC g.2.1), (1, msgV 0 0 0 .nil .nil .nil), (2, msgV 1 f.n t.n (.sl 3 0 g.2.2.length 66 false) .nil .nil), (3, rowsC hdC g.2.2)] 4 61)
    (fun g => RwOk g.2.1 ∧ g.2.2.length + g.2.1.l.length ≤ 1000000 ∧ (∀ h ∈ g.2.2, HdS h) ∧ (g.1 < 9223372036854775808 ∧ -9223372036854775808 ≤ g.1) ∧ frLoop g.1.toNat g.2.1 g.2.2 = frLoop n.n.toNat r3 []) (fun g => g.1.toNat) ?_ (n.n, r3, []) ⟨k3.1, by simp; omega, fun h hh => absurd hh (List.not_mem_nil), ⟨k3.2.1.2.1.2, k3.2.1.2.1.1⟩, rfl⟩ ?_
  · rintro ⟨c, r, hs⟩ ⟨i1, i2, i3, i5, i4⟩
    dsimp only at i1 i2 i3 i4 i5 ⊢
    clear h1 h2 h3
    by_cases c1 : c ≤ 0
    · rw [show c.toNat = 0 by omega] at i4
      rw [frLoop_z] at i4
      rw [← i4]
      refine wpc_sound (M := MW) (PL := PL0) (CU := noCut) TTok mixed _ _ _ ?_
      conv => whnf
      repeat ((first | refine ifB_f ?_ | (refine ifB_neg (decide_eq_false (by first | omega | rfl | (dsimp only; omega))) ?_)); conv => whnf)
      refine Does.freeze 3 rfl (Does.tidy [(2, .ptr 1 0), (3, .ptr 2 0)] [(0, rowC (r)), (1, msgV 0 0 0 .nil .nil .nil), (2, msgV 1 f.n t.n (.ro hs.length (List.take (hs.length * 66) (List.drop 0 (rowsC hdC hs)))) .nil .nil)] 4 61 rfl rfl rfl (by kernel_rfl) (by kernel_rfl) ?_)
      rw [rowsC_whole hdC_length]
      refine wpc_sound (M := MW) (PL := PL0) (CU := noCut) TTok mixed _ _ _ ?_
      conv => whnf
      repeat ((first | refine ⟨(⟨by kernel_rfl, by kernel_rfl, Nat.le_of_ble_eq_true (by kernel_rfl)⟩ : AV.ones _ = true ∧ _ ∧ _), ?_⟩ | refine ⟨rfl, ?_⟩ | refine ⟨_, rfl, ?_⟩ | refine ⟨⟨rfl, rfl⟩, ?_⟩ | (refine ⟨⟨rfl, rfl, ?_⟩, ?_⟩; (focus (first | assumption | exact pureL_bys _ | exact pureL_toks _)))); conv => whnf)
      refine ⟨⟨rfl, rfl, hds_pure _⟩, ?_⟩
      conv => whnf
      repeat ((refine ⟨⟨rfl, rfl⟩, ?_⟩); conv => whnf)
      rfl
    obtain ⟨k, hk⟩ : ∃ k, c.toNat = k + 1 := ⟨c.toNat - 1, by omega⟩
    rw [hk, frLoop_s] at i4
    cases c2 : r.bad
    · rw [if_neg (by rw [c2]; simp)] at i4
      have h4 := rlist_ok r
      have k4 := rNext_rok i1 5
      have l4 := rNext_len 5 r
      have u4 := rNext_use 5 r
      generalize rNext 5 r = q at h4 k4 l4 u4 i4 ⊢
      obtain ⟨li, ra⟩ := q
      dsimp only at h4 k4 l4 u4 i4 ⊢
      by_cases c3 : li.n ≠ 4
      · rw [if_pos c3] at i4
        rw [← i4]
        refine wpc_sound (M := MW) (PL := PL0) (CU := noCut) TTok mixed _ _ _ ?_
        conv => whnf
        repeat ((first | refine ifB_t ?_ | (refine ifB_pos (decide_eq_true (by first | omega | rfl | (dsimp only; omega))) ?_) | refine ⟨_, rfl, ?_⟩); conv => whnf)
        refine ifB_pos (by rw [c2]; rfl) ?_
        conv => whnf
        repeat ((first | refine ⟨rfl, ?_⟩ | (refine And.intro ?_ ?_; (focus (first | (simp only [pureL, pureV, pureL_bys, Bool.and_true, Bool.and_self]; done) | (simp only [pureL, pureV, pureL_bys, pureL_toks, Bool.and_true, Bool.and_self]; done))))); conv => whnf)
        refine ⟨_, _, h4, by first | rfl | simp [noRoIf, noRoL, noRoV, noRoL_bys], ?_⟩
        conv => whnf
        repeat ((first | (refine ifB_pos (decide_eq_true (by first | omega | rfl | (dsimp only; omega))) ?_) | refine ⟨(⟨by kernel_rfl, by kernel_rfl, Nat.le_of_ble_eq_true (by kernel_rfl)⟩ : AV.ones _ = true ∧ _ ∧ _), ?_⟩); conv => whnf)
        refine Does.freeze 3 rfl (Does.tidy [(2, .ptr 1 0), (3, .ptr 2 0)] [(0, rowC (⟨ra.l, true⟩)), (1, msgV 0 0 0 .nil .nil .nil), (2, msgV 1 f.n t.n (.ro hs.length (List.take (hs.length * 66) (List.drop 0 (rowsC hdC hs)))) .nil .nil)] 4 61 rfl rfl rfl (by kernel_rfl) (by kernel_rfl) ?_)
        rw [rowsC_whole hdC_length]
        refine wpc_sound (M := MW) (PL := PL0) (CU := noCut) TTok mixed _ _ _ ?_
        conv => whnf
        repeat ((first | refine ⟨(⟨by kernel_rfl, by kernel_rfl, Nat.le_of_ble_eq_true (by kernel_rfl)⟩ : AV.ones _ = true ∧ _ ∧ _), ?_⟩ | refine ⟨rfl, ?_⟩ | refine ⟨_, rfl, ?_⟩ | refine ⟨⟨rfl, rfl⟩, ?_⟩ | (refine ⟨⟨rfl, rfl, ?_⟩, ?_⟩; (focus (first | assumption | exact pureL_bys _ | exact pureL_toks _)))); conv => whnf)
        refine ⟨⟨rfl, rfl, hds_pure _⟩, ?_⟩
        conv => whnf
        repeat ((refine ⟨⟨rfl, rfl⟩, ?_⟩); conv => whnf)
        rfl
      rw [if_neg c3] at i4
      have hd := rdHd_ok k4.1
      refine wpc_sound (M := MW) (PL := PL0) (CU := cutAt [100007, 100008, 100011]) TTok mixed _ _ _ ?_
      conv => whnf
      repeat ((first | refine ifB_t ?_ | (refine ifB_pos (decide_eq_true (by first | omega | rfl | (dsimp only; omega))) ?_) | refine ⟨_, rfl, ?_⟩); conv => whnf)
      refine ifB_pos (by rw [c2]; rfl) ?_
      conv => whnf
      repeat ((first | refine ⟨rfl, ?_⟩ | (refine And.intro ?_ ?_; (focus (first | (simp only [pureL, pureV, pureL_bys, Bool.and_true, Bool.and_self]; done) | (simp only [pureL, pureV, pureL_bys, pureL_toks, Bool.and_true, Bool.and_self]; done))))); conv => whnf)
      refine ⟨_, _, h4, by first | rfl | simp [noRoIf, noRoL, noRoV, noRoL_bys], ?_⟩
      conv => whnf
      repeat ((refine ifB_neg (decide_eq_false (by first | omega | rfl | (dsimp only; omega))) ?_); conv => whnf)
      refine Does.tidy [(0, .ptr 0 0), (2, .ptr 1 0), (3, .ptr 2 0), (4, .int .i64 c)] [(0, rowC ra), (1, msgV 0 0 0 .nil .nil .nil), (2, msgV 1 f.n t.n (.sl 3 0 hs.length 66 false) .nil .nil), (3, rowsC hdC hs)] 4 61 rfl rfl rfl (by kernel_rfl) (by kernel_rfl) ?_
      unfold rdHd at hd i4
      have h5 := rid_ok' ra
      have k5 := rArr_rok k4.1 32
      generalize rArr 32 ra = q at h5 k5 hd i4
      obtain ⟨au, rb⟩ := q
      dsimp only at h5 k5 hd i4
      have h6 := rnum_ok rb
      generalize rNext 1 rb = q at h6 hd i4
      obtain ⟨le, rc⟩ := q
      dsimp only at h6 hd i4
      have h7 := rid_ok' rc
      generalize rArr 32 rc = q at h7 hd i4
      obtain ⟨id, rd⟩ := q
      dsimp only at h7 hd i4
      have h8 := rnum_ok rd
      generalize rNext 1 rd = q at h8 hd i4
      obtain ⟨sh, re⟩ := q
      dsimp only at h8 hd i4
      refine wpc_sound (M := MW) (PL := PL0) (CU := noCut) TTok mixed _ _ _ ?_
      conv => whnf
      repeat ((first | refine ⟨rfl, ?_⟩ | (refine And.intro ?_ ?_; (focus (first | (simp only [pureL, pureV, pureL_bys, Bool.and_true, Bool.and_self]; done) | (simp only [pureL, pureV, pureL_bys, pureL_toks, Bool.and_true, Bool.and_self]; done))))); conv => whnf)
      refine ⟨_, _, h5, by first | rfl | simp [noRoIf, noRoL, noRoV, noRoL_bys], ?_⟩
      conv => whnf
      repeat ((first | refine ⟨rfl, ?_⟩ | (refine And.intro ?_ ?_; (focus (first | (simp only [pureL, pureV, pureL_bys, Bool.and_true, Bool.and_self]; done) | (simp only [pureL, pureV, pureL_bys, pureL_toks, Bool.and_true, Bool.and_self]; done))))); conv => whnf)
      refine ⟨_, _, h6, by first | rfl | simp [noRoIf, noRoL, noRoV, noRoL_bys], ?_⟩
      conv => whnf
      repeat ((first | refine ⟨rfl, ?_⟩ | (refine And.intro ?_ ?_; (focus (first | (simp only [pureL, pureV, pureL_bys, Bool.and_true, Bool.and_self]; done) | (simp only [pureL, pureV, pureL_bys, pureL_toks, Bool.and_true, Bool.and_self]; done))))); conv => whnf)
      refine ⟨_, _, h7, by first | rfl | simp [noRoIf, noRoL, noRoV, noRoL_bys], ?_⟩
      conv => whnf
      repeat ((first | refine ⟨(⟨by kernel_rfl, by kernel_rfl, Nat.le_of_ble_eq_true (by kernel_rfl)⟩ : AV.ones _ = true ∧ _ ∧ _), ?_⟩ | refine ⟨rfl, ?_⟩ | refine ⟨⟨rfl, rfl⟩, ?_⟩); conv => whnf)
      refine Does.tidy [(0, .ptr 0 0), (2, .ptr 1 0), (3, .ptr 2 0), (4, .int .i64 c), (5, .ptr 4 0)] [(0, rowC rd), (1, msgV 0 0 0 .nil .nil .nil), (2, msgV 1 f.n t.n (.sl 3 0 hs.length 66 false) .nil .nil), (3, rowsC hdC hs), (4, hdC ⟨au, le.n, id, false⟩)] 5 61 rfl rfl rfl (by kernel_rfl) (by kernel_rfl) ?_
      clear h4 h5 h6 h7
      refine wpc_sound (M := MW) (PL := PL0) (CU := noCut) TTok mixed _ _ _ ?_
      conv => whnf
      repeat ((first | refine ⟨rfl, ?_⟩ | (refine And.intro ?_ ?_; (focus (first | (simp only [pureL, pureV, pureL_bys, Bool.and_true, Bool.and_self]; done) | (simp only [pureL, pureV, pureL_bys, pureL_toks, Bool.and_true, Bool.and_self]; done))))); conv => whnf)
      refine ⟨_, _, h8, by first | rfl | simp [noRoIf, noRoL, noRoV, noRoL_bys], ?_⟩
      conv => whnf
      repeat ((refine ⟨_, rfl, ?_⟩); conv => whnf)
      obtain ⟨rel, reb⟩ := re
      have lm : (hs ++ [(⟨au, le.n, id, decide (sh.n = 1)⟩ : Hd)]).length = hs.length + 1 := by simp
      cases reb
      · conv => whnf
        repeat ((first | refine ifB_f ?_ | refine ⟨(⟨by kernel_rfl, by kernel_rfl, Nat.le_of_ble_eq_true (by kernel_rfl)⟩ : AV.ones _ = true ∧ _ ∧ _), ?_⟩); conv => whnf)
        refine Does.tidy [(0, .ptr 0 0), (2, .ptr 1 0), (3, .ptr 2 0), (4, .int .i64 c), (5, .ptr 4 0)] [(0, rowC ⟨rel, false || decide (1 < sh.n)⟩), (1, msgV 0 0 0 .nil .nil .nil), (2, msgV 1 f.n t.n (.sl 3 0 hs.length 66 false) .nil .nil), (3, rowsC hdC hs), (4, hdC ⟨au, le.n, id, decide (sh.n = 1)⟩)] 5 61 rfl rfl rfl (by kernel_rfl) (by kernel_rfl) ?_
        generalize (⟨au, le.n, id, decide (sh.n = 1)⟩ : Hd) = h at hd i4 lm ⊢
        refine wpc_sound (M := MW) (PL := PL0) (CU := noCut) TTok mixed _ _ _ ?_
        conv => whnf
        repeat ((first | (refine Or.inl ⟨⟨rfl, ?_⟩, ?_⟩; (focus (first | rfl | (simp; done) | (rw [toksC_length]; omega)))) | refine ⟨rfl, ?_⟩ | refine ⟨_, rfl, ?_⟩ | refine ⟨⟨rfl, rfl⟩, ?_⟩); conv => whnf)
        refine ⟨⟨rfl, rfl, by rw [hds_len]; omega, by simp [limB]; omega⟩, ?_⟩
        conv => whnf
        repeat ((first | (refine fit_i64 ⟨by first | omega | rfl | (dsimp only; omega), by first | omega | rfl | (dsimp only; omega)⟩ ?_) | refine ⟨(⟨by kernel_rfl, by kernel_rfl, Nat.le_of_ble_eq_true (by kernel_rfl)⟩ : AV.ones _ = true ∧ _ ∧ _), ?_⟩); conv => whnf)
        have u := u4 (by omega)
        refine ⟨(c - 1, ⟨rel, false || decide (1 < sh.n)⟩, hs ++ [h]), ⟨hd.2.1, ?_, ?_, by dsimp only; omega, ?_⟩, by dsimp only; omega, weaker_of [(1, 1), (2, 2), (3, 6)] rfl rfl ⟨⟨rfl, rfl⟩, ⟨rfl, rfl⟩, ⟨rfl, rfl⟩, ⟨rfl, rfl⟩, trivial⟩ ⟨⟨⟨rfl, rfl, pureL_toks _⟩, rfl, trivial⟩, ⟨⟨rfl, rfl⟩, ⟨rfl, rfl⟩, ⟨rfl, rfl⟩, trivial, trivial, trivial, trivial⟩, ⟨⟨rfl, rfl⟩, ⟨rfl, rfl⟩, ⟨rfl, rfl⟩, ⟨rfl, rfl, lm.symm, rfl, fun h => h⟩, trivial, trivial, trivial⟩, ?_, trivial⟩⟩
        · have := hd.2.2
          dsimp only at this ⊢
          rw [lm]
          omega
        · intro x hx
          rcases List.mem_append.1 hx with hx | hx
          · exact i3 x hx
          · rw [List.mem_singleton] at hx
            rw [hx]
            exact hd.1
        · rw [← i4]
          dsimp only
          congr 1
          omega
        · refine rowsC_les hdC_les ?_
          rw [rowsC_append]
          simp only [rowsC, List.append_nil]
          rfl
      · conv => whnf
        repeat ((first | refine ifB_t ?_ | refine ⟨(⟨by kernel_rfl, by kernel_rfl, Nat.le_of_ble_eq_true (by kernel_rfl)⟩ : AV.ones _ = true ∧ _ ∧ _), ?_⟩); conv => whnf)
        refine Does.tidy [(0, .ptr 0 0), (2, .ptr 1 0), (3, .ptr 2 0), (4, .int .i64 c), (5, .ptr 4 0)] [(0, rowC ⟨rel, true || decide (1 < sh.n)⟩), (1, msgV 0 0 0 .nil .nil .nil), (2, msgV 1 f.n t.n (.sl 3 0 hs.length 66 false) .nil .nil), (3, rowsC hdC hs), (4, hdC ⟨au, le.n, id, decide (sh.n = 1)⟩)] 5 61 rfl rfl rfl (by kernel_rfl) (by kernel_rfl) ?_
        generalize (⟨au, le.n, id, decide (sh.n = 1)⟩ : Hd) = h at hd i4 lm ⊢
        refine wpc_sound (M := MW) (PL := PL0) (CU := noCut) TTok mixed _ _ _ ?_
        conv => whnf
        repeat ((first | (refine Or.inl ⟨⟨rfl, ?_⟩, ?_⟩; (focus (first | rfl | (simp; done) | (rw [toksC_length]; omega)))) | refine ⟨rfl, ?_⟩ | refine ⟨_, rfl, ?_⟩ | refine ⟨⟨rfl, rfl⟩, ?_⟩); conv => whnf)
        refine ⟨⟨rfl, rfl, by rw [hds_len]; omega, by simp [limB]; omega⟩, ?_⟩
        conv => whnf
        repeat ((first | (refine fit_i64 ⟨by first | omega | rfl | (dsimp only; omega), by first | omega | rfl | (dsimp only; omega)⟩ ?_) | refine ⟨(⟨by kernel_rfl, by kernel_rfl, Nat.le_of_ble_eq_true (by kernel_rfl)⟩ : AV.ones _ = true ∧ _ ∧ _), ?_⟩); conv => whnf)
        have u := u4 (by omega)
        refine ⟨(c - 1, ⟨rel, true || decide (1 < sh.n)⟩, hs ++ [h]), ⟨hd.2.1, ?_, ?_, by dsimp only; omega, ?_⟩, by dsimp only; omega, weaker_of [(1, 1), (2, 2), (3, 6)] rfl rfl ⟨⟨rfl, rfl⟩, ⟨rfl, rfl⟩, ⟨rfl, rfl⟩, ⟨rfl, rfl⟩, trivial⟩ ⟨⟨⟨rfl, rfl, pureL_toks _⟩, rfl, trivial⟩, ⟨⟨rfl, rfl⟩, ⟨rfl, rfl⟩, ⟨rfl, rfl⟩, trivial, trivial, trivial, trivial⟩, ⟨⟨rfl, rfl⟩, ⟨rfl, rfl⟩, ⟨rfl, rfl⟩, ⟨rfl, rfl, lm.symm, rfl, fun h => h⟩, trivial, trivial, trivial⟩, ?_, trivial⟩⟩
        · have := hd.2.2
          dsimp only at this ⊢
          rw [lm]
          omega
        · intro x hx
          rcases List.mem_append.1 hx with hx | hx
          · exact i3 x hx
          · rw [List.mem_singleton] at hx
            rw [hx]
            exact hd.1
        · rw [← i4]
          dsimp only
          congr 1
          omega
        · refine rowsC_les hdC_les ?_
          rw [rowsC_append]
          simp only [rowsC, List.append_nil]
          rfl
    · rw [if_pos c2] at i4
      rw [← i4]
      refine wpc_sound (M := MW) (PL := PL0) (CU := noCut) TTok mixed _ _ _ ?_
      conv => whnf
      repeat ((first | refine ifB_t ?_ | (refine ifB_pos (decide_eq_true (by first | omega | rfl | (dsimp only; omega))) ?_) | refine ⟨_, rfl, ?_⟩); conv => whnf)
      refine ifB_neg (by rw [c2]; rfl) ?_
      conv => whnf
      refine Does.freeze 3 rfl (Does.tidy [(2, .ptr 1 0), (3, .ptr 2 0)] [(0, rowC (r)), (1, msgV 0 0 0 .nil .nil .nil), (2, msgV 1 f.n t.n (.ro hs.length (List.take (hs.length * 66) (List.drop 0 (rowsC hdC hs)))) .nil .nil)] 4 61 rfl rfl rfl (by kernel_rfl) (by kernel_rfl) ?_)
      rw [rowsC_whole hdC_length]
      refine wpc_sound (M := MW) (PL := PL0) (CU := noCut) TTok mixed _ _ _ ?_
      conv => whnf
      repeat ((first | refine ⟨(⟨by kernel_rfl, by kernel_rfl, Nat.le_of_ble_eq_true (by kernel_rfl)⟩ : AV.ones _ = true ∧ _ ∧ _), ?_⟩ | refine ⟨rfl, ?_⟩ | refine ⟨_, rfl, ?_⟩ | refine ⟨⟨rfl, rfl⟩, ?_⟩ | (refine ⟨⟨rfl, rfl, ?_⟩, ?_⟩; (focus (first | assumption | exact pureL_bys _ | exact pureL_toks _)))); conv => whnf)
      refine ⟨⟨rfl, rfl, hds_pure _⟩, ?_⟩
      conv => whnf
      repeat ((refine ⟨⟨rfl, rfl⟩, ?_⟩); conv => whnf)
      rfl
  · exact weaker_of [(1, 1), (2, 2)] rfl rfl ⟨⟨rfl, rfl⟩, ⟨rfl, rfl⟩, ⟨rfl, rfl⟩, ⟨rfl, rfl⟩, trivial⟩ ⟨⟨⟨rfl, rfl, pureL_toks _⟩, rfl, trivial⟩, ⟨⟨rfl, rfl⟩, ⟨rfl, rfl⟩, ⟨rfl, rfl⟩, trivial, trivial, trivial, trivial⟩, ⟨⟨rfl, rfl⟩, ⟨rfl, rfl⟩, ⟨rfl, rfl⟩, rfl, trivial, trivial, trivial⟩, rfl, trivial⟩
end Go.Proofs.YtelnlfhdaelfdaaDoor.Abs
end
section
--KR
set_option linter.unusedVariables false
set_option linter.unusedSimpArgs false
namespace Go.Proofs.YtelnlfhdaelfdaaDoor.Abs
open Go
attribute [local irreducible] ifB fitP Does Weaker
theorem rNext_good (k : Int) (r : Rw) (h : (rNext k r).2.bad = false) : (rNext k r).2.l.length + 1 = r.l.length := by
  obtain ⟨l, bad⟩ := r
  unfold rNext at h ⊢
  split at h
  · cases h
  · rename_i hb
    rw [if_neg hb]
    cases l with
    | nil => cases h
    | cons t q =>
      dsimp only at h ⊢
      split at h
      · rename_i hk; rw [if_pos hk]; simp
      · cases h
/-- Values read one behind the other. -/
def anLoop {α : Type} (rd : List Int → α × Int) : Nat → Rw → List α → List α × Rw
  | 0, r, ps => (ps, r)
  | k + 1, r, ps => if r.bad = true then (ps, r) else anLoop rd k ⟨(rNext 3 r).2.l, (rNext 3 r).2.bad || decide ((rd (rNext 3 r).1.b).2 ≠ 0)⟩ (ps ++ [(rd (rNext 3 r).1.b).1])
theorem anLoop_z {α : Type} (rd : List Int → α × Int) (r : Rw) (ps : List α) : anLoop rd 0 r ps = (ps, r) := rfl
theorem anLoop_s {α : Type} (rd : List Int → α × Int) (k : Nat) (r : Rw) (ps : List α) : anLoop rd (k + 1) r ps = if r.bad = true then (ps, r) else anLoop rd k ⟨(rNext 3 r).2.l, (rNext 3 r).2.bad || decide ((rd (rNext 3 r).1.b).2 ≠ 0)⟩ (ps ++ [(rd (rNext 3 r).1.b).1]) := rfl
/-- What is kept while values are read. -/
def AnInv {α : Type} (N : Nat) (ok : α → Prop) (r : Rw) (ps : List α) : Prop := RwOk r ∧ ps.length + r.l.length ≤ N + (if r.bad = true then 1 else 0) ∧ ∀ p ∈ ps, ok p
theorem anInv_next {α : Type} {N : Nat} {ok : α → Prop} {rd : List Int → α × Int} (hrd : ∀ b, Byt b → b.length ≤ 1000000000 → ok (rd b).1) {r : Rw} {ps : List α} (h : AnInv N ok r ps) (hb : r.bad = false) :
    AnInv N ok ⟨(rNext 3 r).2.l, (rNext 3 r).2.bad || decide ((rd (rNext 3 r).1.b).2 ≠ 0)⟩ (ps ++ [(rd (rNext 3 r).1.b).1]) := by
  obtain ⟨h1, h2, h3⟩ := h
  have k := rNext_rok h1 3
  rw [hb] at h2
  refine ⟨k.1, ?_, ?_⟩
  · have l := rNext_len 3 r
    have g := rNext_good 3 r
    simp only [List.length_append, List.length_singleton]
    simp at h2
    cases hbb : (rNext 3 r).2.bad
    · have := g hbb
      simp only [Bool.false_or]
      split <;> omega
    · simp
      omega
  · intro x hx
    rcases List.mem_append.1 hx with hx | hx
    · exact h3 x hx
    · rw [List.mem_singleton] at hx
      rw [hx]
      exact hrd _ k.2.1.2.2 k.2.2
theorem anInv_loop {α : Type} {N : Nat} {ok : α → Prop} {rd : List Int → α × Int} (hrd : ∀ b, Byt b → b.length ≤ 1000000000 → ok (rd b).1) : ∀ (k : Nat) (r : Rw) (ps : List α), AnInv N ok r ps → AnInv N ok (anLoop rd k r ps).2 (anLoop rd k r ps).1
  | 0, r, ps, h => h
  | k + 1, r, ps, h => by
    rw [anLoop_s]
    split
    · exact h
    · rename_i hb
      exact anInv_loop hrd k _ _ (anInv_next hrd h (by simpa using hb))
theorem rdP_prfS {r : Rw} (h : RwOk r) : PrfS (rdP r).1 ∧ ((rdP r).2 = 0 → prfR (rdP r).1 = true) := by
  have z : EntS ent0 := by
    have hz : Byt z32 := fun x hx => by simp only [z32, List.mem_replicate] at hx; omega
    have hz' : Byt z64 := fun x hx => by simp only [z64, List.mem_replicate] at hx; omega
    have hn : Byt [] := fun x hx => absurd hx (List.not_mem_nil)
    exact { au := ⟨hz, rfl⟩, seq := by decide, prev := ⟨hz, rfl⟩, stamp := by decide, kind := by decide, key := ⟨hn, by decide⟩, val := ⟨hn, by decide⟩, sig := ⟨hz', rfl⟩, key' := by decide, val' := by decide }
  have k2 := rNext_rok h 3
  unfold rdP
  generalize rNext 3 r = q at k2 ⊢
  obtain ⟨x, r2⟩ := q
  dsimp only at k2 ⊢
  have k3 := rNext_rok k2.1 3
  generalize rNext 3 r2 = q at k3 ⊢
  obtain ⟨y, r3⟩ := q
  dsimp only at k3 ⊢
  split
  · split
    · exact ⟨⟨z, z⟩, fun e => by cases e⟩
    · split
      · exact ⟨⟨z, z⟩, fun e => by cases e⟩
      · split
        · rename_i c
          exact ⟨⟨(rdEnt_entS k2.2.1.2.2 k2.2.2).1, (rdEnt_entS k3.2.1.2.2 k3.2.2).1⟩, fun _ => c⟩
        · exact ⟨⟨z, z⟩, fun e => by cases e⟩
  · exact ⟨⟨z, z⟩, fun e => by cases e⟩
theorem rdPrf_prfS {b : List Int} (hb : Byt b) (hl : b.length ≤ 1000000000) : PrfS (rdPrf b).1 ∧ ((rdPrf b).2 = 0 → prfR (rdPrf b).1 = true) := rdP_prfS (rWant_rok (rOpen_rok hb hl) 3 2)
/-- An answer, behind its mark. -/
def rdAn (r : Rw) : Msg × Rw :=
  match rNext 1 r with
  | (f, r1) => match rNext 1 r1 with
    | (t, r2) => match rNext 5 r2 with
      | (n, r3) => match anLoop rdPrf n.n.toNat r3 [] with
        | (ps, r4) => match rNext 5 r4 with
          | (k, r5) => (⟨2, f.n, t.n, [], ps, (anLoop rdEnt k.n.toNat r5 []).1⟩, (anLoop rdEnt k.n.toNat r5 []).2)
set_option maxRecDepth 20000 in
set_option maxHeartbeats 4000000 in
theorem answer_ok (r : Rw) (hr : RwOk r) (hl : r.l.length ≤ 1000000) : ACall Tryd.prog 72 [.ref (rowC r)] (.agg (msgC (rdAn r).1)) [.ref (rowC (rdAn r).2)] := by
  unfold rdAn
  have h1 := rnum_ok r
  have k1 := rNext_rok hr 1
  have l1 := rNext_len 1 r
  generalize rNext 1 r = q at h1 k1 l1 ⊢
  obtain ⟨f, r1⟩ := q
  dsimp only at h1 k1 l1 ⊢
  have h2 := rnum_ok r1
  have k2 := rNext_rok k1.1 1
  have l2 := rNext_len 1 r1
  generalize rNext 1 r1 = q at h2 k2 l2 ⊢
  obtain ⟨t, r2⟩ := q
  dsimp only at h2 k2 l2 ⊢
  have h3 := rlist_ok r2
  have k3 := rNext_rok k2.1 5
  have l3 := rNext_len 5 r2
  generalize rNext 5 r2 = q at h3 k3 l3 ⊢
  obtain ⟨n, r3⟩ := q
  dsimp only at h3 k3 l3 ⊢
  refine ACall.of_does TTok Tryd.func72 rfl Tryd.call72 rfl (wpc_sound (M := MW) (PL := PL0) (CU := cutAt [3, 100014]) TTok mixed _ _ _ ?_)
  conv => whnf
  repeat ((first | refine ⟨rfl, ?_⟩ | (refine And.intro ?_ ?_; (focus (first | (simp only [pureL, pureV, pureL_bys, Bool.and_true, Bool.and_self]; done) | (simp only [pureL, pureV, pureL_bys, pureL_toks, Bool.and_true, Bool.and_self]; done))))); conv => whnf)
  refine ⟨_, _, h1, by first | rfl | simp [noRoIf, noRoL, noRoV, noRoL_bys], ?_⟩
  conv => whnf
  repeat ((first | refine ⟨rfl, ?_⟩ | (refine And.intro ?_ ?_; (focus (first | (simp only [pureL, pureV, pureL_bys, Bool.and_true, Bool.and_self]; done) | (simp only [pureL, pureV, pureL_bys, pureL_toks, Bool.and_true, Bool.and_self]; done))))); conv => whnf)
  refine ⟨_, _, h2, by first | rfl | simp [noRoIf, noRoL, noRoV, noRoL_bys], ?_⟩
  conv => whnf
  repeat ((first | refine ⟨(⟨by kernel_rfl, by kernel_rfl, Nat.le_of_ble_eq_true (by kernel_rfl)⟩ : AV.ones _ = true ∧ _ ∧ _), ?_⟩ | refine ⟨rfl, ?_⟩); conv => whnf)
  clear h1 h2
  have l3' : r3.l.length ≤ 1000000 := by omega
  refine Does.seqCut (fun g : Rw × List Prf => mkSt [(0, .ptr 0 0), (2, .ptr 1 0), (3, .ptr 2 0)] [(0, rowC g.1), (1, msgV 0 0 0 .nil .nil .nil), (2, msgV 2 f.n t.n .nil (.sl 3 0 g.2.length 266 false) .nil), (3, rowsC prfC g.2)] 4 88) (fun g => ((g.2, g.1) : List Prf × Rw) = anLoop rdPrf n.n.toNat r3 []) ?_ ?_
  · refine wpc_sound (M := MW) (PL := PL0) (CU := noCut) TTok mixed _ _ _ ?_
    conv => whnf
    repeat ((first | refine ⟨rfl, ?_⟩ | (refine And.intro ?_ ?_; (focus (first | (simp only [pureL, pureV, pureL_bys, Bool.and_true, Bool.and_self]; done) | (simp only [pureL, pureV, pureL_bys, pureL_toks, Bool.and_true, Bool.and_self]; done))))); conv => whnf)
    refine ⟨_, _, h3, by first | rfl | simp [noRoIf, noRoL, noRoV, noRoL_bys], ?_⟩
    conv => whnf
    refine Does.loop (fun g : Int × Rw × List Prf => mkSt [(0, .ptr 0 0), (2, .ptr 1 0), (3, .ptr 2 0), (4, .int .i64 g.1)] [(0, rowC g.2.1), (1, msgV 0 0 0 .nil .nil .nil), (2, msgV 2 f.n t.n .nil (.sl 3 0 g.2.2.length 266 false) .nil), (3, rowsC prfC g.2.2)] 4 88)
      (fun g => AnInv 1000000 PrfS g.2.1 g.2.2 ∧ (g.1 < 9223372036854775808 ∧ -9223372036854775808 ≤ g.1) ∧ anLoop rdPrf g.1.toNat g.2.1 g.2.2 = anLoop rdPrf n.n.toNat r3 []) (fun g => g.1.toNat) ?_ (n.n, r3, []) ⟨⟨k3.1, by simp; omega, fun h hh => absurd hh (List.not_mem_nil)⟩, ⟨k3.2.1.2.1.2, k3.2.1.2.1.1⟩, rfl⟩ ?_
    · rintro ⟨c, r, ps⟩ ⟨i1, i5, i4⟩
      dsimp only at i1 i4 i5 ⊢
      by_cases c1 : c ≤ 0
      · rw [show c.toNat = 0 by omega, anLoop_z] at i4
        rw [← i4]
        refine wpc_sound (M := MW) (PL := PL0) (CU := noCut) TTok mixed _ _ _ ?_
        conv => whnf
        repeat ((first | refine ifB_f ?_ | (refine ifB_neg (decide_eq_false (by first | omega | rfl | (dsimp only; omega))) ?_)); conv => whnf)
        exact ⟨(r, ps), by rw [i4], Weaker.tidy _ _ _ _ rfl rfl rfl (by kernel_rfl) (by kernel_rfl)⟩
      obtain ⟨k, hk⟩ : ∃ k, c.toNat = k + 1 := ⟨c.toNat - 1, by omega⟩
      rw [hk, anLoop_s] at i4
      cases c2 : r.bad
      · rw [if_neg (by rw [c2]; simp)] at i4
        have nx := anInv_next (rd := rdPrf) (fun b hb hl => (rdPrf_prfS hb hl).1) i1 c2
        have i2 := i1.2.1
        rw [c2] at i2
        simp only [Bool.false_eq_true, if_false, Nat.add_zero] at i2
        have h4 := rstr_ok r
        have k4 := rNext_rok i1.1 3
        have h5 := pread_ok _ k4.2.1.2.2 k4.2.2
        generalize rNext 3 r = q at h4 h5 nx i4
        obtain ⟨st, ra⟩ := q
        dsimp only at h4 h5 nx i4
        generalize rdPrf st.b = q at h5 nx i4
        obtain ⟨p, er⟩ := q
        dsimp only at h5 nx i4
        have lm : (ps ++ [p]).length = ps.length + 1 := by simp
        refine wpc_sound (M := MW) (PL := PL0) (CU := cutAt [100006, 100007]) TTok mixed _ _ _ ?_
        conv => whnf
        repeat ((first | refine ifB_t ?_ | (refine ifB_pos (decide_eq_true (by first | omega | rfl | (dsimp only; omega))) ?_) | refine ⟨_, rfl, ?_⟩); conv => whnf)
        refine ifB_pos (by rw [c2]; rfl) ?_
        conv => whnf
        repeat ((first | refine ⟨rfl, ?_⟩ | (refine And.intro ?_ ?_; (focus (first | (simp only [pureL, pureV, pureL_bys, Bool.and_true, Bool.and_self]; done) | (simp only [pureL, pureV, pureL_bys, pureL_toks, Bool.and_true, Bool.and_self]; done))))); conv => whnf)
        refine ⟨_, _, h4, by first | rfl | simp [noRoIf, noRoL, noRoV, noRoL_bys], ?_⟩
        conv => whnf
        repeat ((first | refine ⟨pureL_bys _, ?_⟩ | refine ⟨rfl, ?_⟩); conv => whnf)
        refine ⟨_, _, h5, by first | rfl | simp [noRoIf, noRoL, noRoV, noRoL_bys], ?_⟩
        conv => whnf
        repeat ((first | refine ⟨(⟨by kernel_rfl, by kernel_rfl, Nat.le_of_ble_eq_true (by kernel_rfl)⟩ : AV.ones _ = true ∧ _ ∧ _), ?_⟩ | refine ⟨rfl, ?_⟩); conv => whnf)
        refine Does.tidy [(0, .ptr 0 0), (2, .ptr 1 0), (3, .ptr 2 0), (4, .int .i64 c), (5, .ptr 4 0), (6, .int .i64 er)] [(0, rowC ra), (1, msgV 0 0 0 .nil .nil .nil), (2, msgV 2 f.n t.n .nil (.sl 3 0 ps.length 266 false) .nil), (3, rowsC prfC ps), (4, prfC p)] 5 88 rfl rfl rfl (by kernel_rfl) (by kernel_rfl) ?_
        clear h4 h5
        refine wpc_sound (M := MW) (PL := PL0) (CU := noCut) TTok mixed _ _ _ ?_
        obtain ⟨ral, rab⟩ := ra
        cases rab
        · conv => whnf
          repeat ((first | refine ifB_f ?_ | refine ⟨(⟨by kernel_rfl, by kernel_rfl, Nat.le_of_ble_eq_true (by kernel_rfl)⟩ : AV.ones _ = true ∧ _ ∧ _), ?_⟩ | refine ⟨_, rfl, ?_⟩); conv => whnf)
          refine Does.tidy [(0, .ptr 0 0), (2, .ptr 1 0), (3, .ptr 2 0), (4, .int .i64 c), (5, .ptr 4 0)] [(0, rowC ⟨ral, false || decide (er ≠ 0)⟩), (1, msgV 0 0 0 .nil .nil .nil), (2, msgV 2 f.n t.n .nil (.sl 3 0 ps.length 266 false) .nil), (3, rowsC prfC ps), (4, prfC p)] 5 88 rfl rfl rfl (by kernel_rfl) (by kernel_rfl) ?_
          refine wpc_sound (M := MW) (PL := PL0) (CU := noCut) TTok mixed _ _ _ ?_
          conv => whnf
          repeat ((first | (refine Or.inl ⟨⟨rfl, ?_⟩, ?_⟩; (focus (first | rfl | (simp; done) | (rw [toksC_length]; omega)))) | refine ⟨rfl, ?_⟩ | refine ⟨_, rfl, ?_⟩ | refine ⟨⟨rfl, rfl⟩, ?_⟩); conv => whnf)
          refine ⟨⟨rfl, rfl, by rw [prfs_len]; omega, by simp [limB]; omega⟩, ?_⟩
          conv => whnf
          repeat ((first | (refine fit_i64 ⟨by first | omega | rfl | (dsimp only; omega), by first | omega | rfl | (dsimp only; omega)⟩ ?_) | refine ⟨(⟨by kernel_rfl, by kernel_rfl, Nat.le_of_ble_eq_true (by kernel_rfl)⟩ : AV.ones _ = true ∧ _ ∧ _), ?_⟩); conv => whnf)
          refine ⟨(c - 1, ⟨ral, false || decide (er ≠ 0)⟩, ps ++ [p]), ⟨nx, by dsimp only; omega, ?_⟩, by dsimp only; omega, weaker_of [(1, 1), (2, 2), (3, 6)] rfl rfl ⟨⟨rfl, rfl⟩, ⟨rfl, rfl⟩, ⟨rfl, rfl⟩, ⟨rfl, rfl⟩, trivial⟩ ⟨⟨⟨rfl, rfl, pureL_toks _⟩, rfl, trivial⟩, ⟨⟨rfl, rfl⟩, ⟨rfl, rfl⟩, ⟨rfl, rfl⟩, trivial, trivial, trivial, trivial⟩, ⟨⟨rfl, rfl⟩, ⟨rfl, rfl⟩, ⟨rfl, rfl⟩, trivial, ⟨rfl, rfl, lm.symm, rfl, fun h => h⟩, trivial, trivial⟩, ?_, trivial⟩⟩
          · rw [← i4]
            dsimp only
            congr 1
            omega
          · refine rowsC_les prfC_les ?_
            rw [rowsC_append]
            simp only [rowsC, List.append_nil]
            rfl
        · conv => whnf
          repeat ((first | refine ifB_t ?_ | refine ⟨(⟨by kernel_rfl, by kernel_rfl, Nat.le_of_ble_eq_true (by kernel_rfl)⟩ : AV.ones _ = true ∧ _ ∧ _), ?_⟩ | refine ⟨_, rfl, ?_⟩); conv => whnf)
          refine Does.tidy [(0, .ptr 0 0), (2, .ptr 1 0), (3, .ptr 2 0), (4, .int .i64 c), (5, .ptr 4 0)] [(0, rowC ⟨ral, true || decide (er ≠ 0)⟩), (1, msgV 0 0 0 .nil .nil .nil), (2, msgV 2 f.n t.n .nil (.sl 3 0 ps.length 266 false) .nil), (3, rowsC prfC ps), (4, prfC p)] 5 88 rfl rfl rfl (by kernel_rfl) (by kernel_rfl) ?_
          refine wpc_sound (M := MW) (PL := PL0) (CU := noCut) TTok mixed _ _ _ ?_
          conv => whnf
          repeat ((first | (refine Or.inl ⟨⟨rfl, ?_⟩, ?_⟩; (focus (first | rfl | (simp; done) | (rw [toksC_length]; omega)))) | refine ⟨rfl, ?_⟩ | refine ⟨_, rfl, ?_⟩ | refine ⟨⟨rfl, rfl⟩, ?_⟩); conv => whnf)
          refine ⟨⟨rfl, rfl, by rw [prfs_len]; omega, by simp [limB]; omega⟩, ?_⟩
          conv => whnf
          repeat ((first | (refine fit_i64 ⟨by first | omega | rfl | (dsimp only; omega), by first | omega | rfl | (dsimp only; omega)⟩ ?_) | refine ⟨(⟨by kernel_rfl, by kernel_rfl, Nat.le_of_ble_eq_true (by kernel_rfl)⟩ : AV.ones _ = true ∧ _ ∧ _), ?_⟩); conv => whnf)
          refine ⟨(c - 1, ⟨ral, true || decide (er ≠ 0)⟩, ps ++ [p]), ⟨nx, by dsimp only; omega, ?_⟩, by dsimp only; omega, weaker_of [(1, 1), (2, 2), (3, 6)] rfl rfl ⟨⟨rfl, rfl⟩, ⟨rfl, rfl⟩, ⟨rfl, rfl⟩, ⟨rfl, rfl⟩, trivial⟩ ⟨⟨⟨rfl, rfl, pureL_toks _⟩, rfl, trivial⟩, ⟨⟨rfl, rfl⟩, ⟨rfl, rfl⟩, ⟨rfl, rfl⟩, trivial, trivial, trivial, trivial⟩, ⟨⟨rfl, rfl⟩, ⟨rfl, rfl⟩, ⟨rfl, rfl⟩, trivial, ⟨rfl, rfl, lm.symm, rfl, fun h => h⟩, trivial, trivial⟩, ?_, trivial⟩⟩
          · rw [← i4]
            dsimp only
            congr 1
            omega
          · refine rowsC_les prfC_les ?_
            rw [rowsC_append]
            simp only [rowsC, List.append_nil]
            rfl
      · rw [if_pos c2] at i4
        rw [← i4]
        refine wpc_sound (M := MW) (PL := PL0) (CU := noCut) TTok mixed _ _ _ ?_
        conv => whnf
        repeat ((first | refine ifB_t ?_ | (refine ifB_pos (decide_eq_true (by first | omega | rfl | (dsimp only; omega))) ?_) | refine ⟨_, rfl, ?_⟩); conv => whnf)
        refine ifB_neg (by rw [c2]; rfl) ?_
        conv => whnf
        exact ⟨(r, ps), by rw [i4], Weaker.tidy _ _ _ _ rfl rfl rfl (by kernel_rfl) (by kernel_rfl)⟩
    · exact weaker_of [(1, 1), (2, 2)] rfl rfl ⟨⟨rfl, rfl⟩, ⟨rfl, rfl⟩, ⟨rfl, rfl⟩, ⟨rfl, rfl⟩, trivial⟩ ⟨⟨⟨rfl, rfl, pureL_toks _⟩, rfl, trivial⟩, ⟨⟨rfl, rfl⟩, ⟨rfl, rfl⟩, ⟨rfl, rfl⟩, trivial, trivial, trivial, trivial⟩, ⟨⟨rfl, rfl⟩, ⟨rfl, rfl⟩, ⟨rfl, rfl⟩, trivial, rfl, trivial, trivial⟩, rfl, trivial⟩
  · rintro ⟨r4, zs⟩ hg
    dsimp only at hg ⊢
    have inv := anInv_loop (N := 1000000) (rd := rdPrf) (ok := PrfS) (fun b hb hl => (rdPrf_prfS hb hl).1) n.n.toNat r3 [] ⟨k3.1, by simp; omega, fun h hh => absurd hh (List.not_mem_nil)⟩
    rw [← hg] at inv ⊢
    dsimp only at inv ⊢
    have j4 := rlist_ok r4
    have k5 := rNext_rok inv.1 5
    have l5 := rNext_len 5 r4
    have inv2 := inv.2.1
    have l4 : r4.l.length ≤ 1000001 := by split at inv2 <;> omega
    generalize rNext 5 r4 = q at j4 k5 l5 ⊢
    obtain ⟨n2, r5⟩ := q
    dsimp only at j4 k5 l5 ⊢
    refine wpc_sound (M := MW) (PL := PL0) (CU := cutAt [100014]) TTok mixed _ _ _ ?_
    conv => whnf
    repeat ((first | refine ⟨rfl, ?_⟩ | (refine And.intro ?_ ?_; (focus (first | (simp only [pureL, pureV, pureL_bys, Bool.and_true, Bool.and_self]; done) | (simp only [pureL, pureV, pureL_bys, pureL_toks, Bool.and_true, Bool.and_self]; done))))); conv => whnf)
    refine ⟨_, _, j4, by first | rfl | simp [noRoIf, noRoL, noRoV, noRoL_bys], ?_⟩
    conv => whnf
    refine Does.loop (fun g : Int × Rw × List Ent => mkSt [(0, .ptr 0 0), (2, .ptr 1 0), (3, .ptr 2 0), (7, .int .i64 g.1)] [(0, rowC g.2.1), (1, msgV 0 0 0 .nil .nil .nil), (2, msgV 2 f.n t.n .nil (.sl 3 0 zs.length 266 false) (.sl 4 0 g.2.2.length 133 false)), (3, rowsC prfC zs), (4, rowsC entC g.2.2)] 5 88)
      (fun g => AnInv 1000001 EntS g.2.1 g.2.2 ∧ (g.1 < 9223372036854775808 ∧ -9223372036854775808 ≤ g.1) ∧ anLoop rdEnt g.1.toNat g.2.1 g.2.2 = anLoop rdEnt n2.n.toNat r5 []) (fun g => g.1.toNat) ?_ (n2.n, r5, []) ⟨⟨k5.1, by simp; omega, fun h hh => absurd hh (List.not_mem_nil)⟩, ⟨k5.2.1.2.1.2, k5.2.1.2.1.1⟩, rfl⟩ ?_
    · rintro ⟨c, r, ps⟩ ⟨i1, i5, i4⟩
      dsimp only at i1 i4 i5 ⊢
      by_cases c1 : c ≤ 0
      · rw [show c.toNat = 0 by omega, anLoop_z] at i4
        rw [← i4]
        refine wpc_sound (M := MW) (PL := PL0) (CU := noCut) TTok mixed _ _ _ ?_
        conv => whnf
        repeat ((first | refine ifB_f ?_ | (refine ifB_neg (decide_eq_false (by first | omega | rfl | (dsimp only; omega))) ?_)); conv => whnf)
        refine Does.freeze 4 rfl (Does.freeze 3 (zs := rowsC prfC zs) (by show some (frzL 4 _ (rowsC prfC zs)) = _; rw [rowsC_frz (fun x => prfC_frz _ _ x)]) (Does.tidy [(2, .ptr 1 0), (3, .ptr 2 0)] [(0, rowC r), (1, msgV 0 0 0 .nil .nil .nil), (2, msgV 2 f.n t.n .nil (.ro zs.length (List.take (zs.length * 266) (List.drop 0 (rowsC prfC zs)))) (.ro ps.length (List.take (ps.length * 133) (List.drop 0 (rowsC entC ps)))))] 5 88 rfl rfl rfl (by kernel_rfl) (by kernel_rfl) ?_))
        rw [rowsC_whole prfC_length, rowsC_whole entC_length]
        refine wpc_sound (M := MW) (PL := PL0) (CU := noCut) TTok mixed _ _ _ ?_
        conv => whnf
        repeat ((first | refine ⟨(⟨by kernel_rfl, by kernel_rfl, Nat.le_of_ble_eq_true (by kernel_rfl)⟩ : AV.ones _ = true ∧ _ ∧ _), ?_⟩ | refine ⟨rfl, ?_⟩ | refine ⟨_, rfl, ?_⟩ | refine ⟨⟨rfl, rfl⟩, ?_⟩ | (refine ⟨⟨rfl, rfl, ?_⟩, ?_⟩; (focus (first | assumption | exact pureL_bys _ | exact pureL_toks _)))); conv => whnf)
        refine ⟨⟨rfl, rfl, prfs_pure _⟩, ?_⟩
        conv => whnf
        refine ⟨⟨rfl, rfl, ents_pure _⟩, ?_⟩
        conv => whnf
        rfl
      obtain ⟨k, hk⟩ : ∃ k, c.toNat = k + 1 := ⟨c.toNat - 1, by omega⟩
      rw [hk, anLoop_s] at i4
      cases c2 : r.bad
      · rw [if_neg (by rw [c2]; simp)] at i4
        have nx := anInv_next (rd := rdEnt) (fun b hb hl => (rdEnt_entS hb hl).1) i1 c2
        have i2 := i1.2.1
        rw [c2] at i2
        simp only [Bool.false_eq_true, if_false, Nat.add_zero] at i2
        have h4 := rstr_ok r
        have k4 := rNext_rok i1.1 3
        have h5 := eread_ok _ k4.2.1.2.2 k4.2.2
        generalize rNext 3 r = q at h4 h5 nx i4
        obtain ⟨st, ra⟩ := q
        dsimp only at h4 h5 nx i4
        generalize rdEnt st.b = q at h5 nx i4
        obtain ⟨p, er⟩ := q
        dsimp only at h5 nx i4
        have lm : (ps ++ [p]).length = ps.length + 1 := by simp
        refine wpc_sound (M := MW) (PL := PL0) (CU := cutAt [100012, 100013]) TTok mixed _ _ _ ?_
        conv => whnf
        repeat ((first | refine ifB_t ?_ | (refine ifB_pos (decide_eq_true (by first | omega | rfl | (dsimp only; omega))) ?_) | refine ⟨_, rfl, ?_⟩); conv => whnf)
        refine ifB_pos (by rw [c2]; rfl) ?_
        conv => whnf
        repeat ((first | refine ⟨rfl, ?_⟩ | (refine And.intro ?_ ?_; (focus (first | (simp only [pureL, pureV, pureL_bys, Bool.and_true, Bool.and_self]; done) | (simp only [pureL, pureV, pureL_bys, pureL_toks, Bool.and_true, Bool.and_self]; done))))); conv => whnf)
        refine ⟨_, _, h4, by first | rfl | simp [noRoIf, noRoL, noRoV, noRoL_bys], ?_⟩
        conv => whnf
        repeat ((first | refine ⟨pureL_bys _, ?_⟩ | refine ⟨rfl, ?_⟩); conv => whnf)
        refine ⟨_, _, h5, by first | rfl | simp [noRoIf, noRoL, noRoV, noRoL_bys], ?_⟩
        conv => whnf
        repeat ((first | refine ⟨(⟨by kernel_rfl, by kernel_rfl, Nat.le_of_ble_eq_true (by kernel_rfl)⟩ : AV.ones _ = true ∧ _ ∧ _), ?_⟩ | refine ⟨rfl, ?_⟩); conv => whnf)
        refine Does.tidy [(0, .ptr 0 0), (2, .ptr 1 0), (3, .ptr 2 0), (7, .int .i64 c), (8, .ptr 5 0), (9, .int .i64 er)] [(0, rowC ra), (1, msgV 0 0 0 .nil .nil .nil), (2, msgV 2 f.n t.n .nil (.sl 3 0 zs.length 266 false) (.sl 4 0 ps.length 133 false)), (3, rowsC prfC zs), (4, rowsC entC ps), (5, entC p)] 6 88 rfl rfl rfl (by kernel_rfl) (by kernel_rfl) ?_
        clear h4 h5
        refine wpc_sound (M := MW) (PL := PL0) (CU := noCut) TTok mixed _ _ _ ?_
        obtain ⟨ral, rab⟩ := ra
        cases rab
        · conv => whnf
          repeat ((first | refine ifB_f ?_ | refine ⟨(⟨by kernel_rfl, by kernel_rfl, Nat.le_of_ble_eq_true (by kernel_rfl)⟩ : AV.ones _ = true ∧ _ ∧ _), ?_⟩ | refine ⟨_, rfl, ?_⟩); conv => whnf)
          refine Does.tidy [(0, .ptr 0 0), (2, .ptr 1 0), (3, .ptr 2 0), (7, .int .i64 c), (8, .ptr 5 0)] [(0, rowC ⟨ral, false || decide (er ≠ 0)⟩), (1, msgV 0 0 0 .nil .nil .nil), (2, msgV 2 f.n t.n .nil (.sl 3 0 zs.length 266 false) (.sl 4 0 ps.length 133 false)), (3, rowsC prfC zs), (4, rowsC entC ps), (5, entC p)] 6 88 rfl rfl rfl (by kernel_rfl) (by kernel_rfl) ?_
          refine wpc_sound (M := MW) (PL := PL0) (CU := noCut) TTok mixed _ _ _ ?_
          conv => whnf
          repeat ((first | (refine Or.inl ⟨⟨rfl, ?_⟩, ?_⟩; (focus (first | rfl | (simp; done) | (rw [toksC_length]; omega)))) | refine ⟨rfl, ?_⟩ | refine ⟨_, rfl, ?_⟩ | refine ⟨⟨rfl, rfl⟩, ?_⟩); conv => whnf)
          refine ⟨⟨rfl, rfl, by rw [ents_len]; omega, by simp [limB]; omega⟩, ?_⟩
          conv => whnf
          repeat ((first | (refine fit_i64 ⟨by first | omega | rfl | (dsimp only; omega), by first | omega | rfl | (dsimp only; omega)⟩ ?_) | refine ⟨(⟨by kernel_rfl, by kernel_rfl, Nat.le_of_ble_eq_true (by kernel_rfl)⟩ : AV.ones _ = true ∧ _ ∧ _), ?_⟩); conv => whnf)
          refine ⟨(c - 1, ⟨ral, false || decide (er ≠ 0)⟩, ps ++ [p]), ⟨nx, by dsimp only; omega, ?_⟩, by dsimp only; omega, weaker_of [(1, 1), (2, 2), (3, 3), (4, 7)] rfl rfl ⟨⟨rfl, rfl⟩, ⟨rfl, rfl⟩, ⟨rfl, rfl⟩, ⟨rfl, rfl⟩, trivial⟩ ⟨⟨⟨rfl, rfl, pureL_toks _⟩, rfl, trivial⟩, ⟨⟨rfl, rfl⟩, ⟨rfl, rfl⟩, ⟨rfl, rfl⟩, trivial, trivial, trivial, trivial⟩, ⟨⟨rfl, rfl⟩, ⟨rfl, rfl⟩, ⟨rfl, rfl⟩, trivial, ⟨rfl, rfl, rfl, rfl, fun h => h⟩, ⟨rfl, rfl, lm.symm, rfl, fun h => h⟩, trivial⟩, rowsC_les prfC_les rfl, ?_, trivial⟩⟩
          · rw [← i4]
            dsimp only
            congr 1
            omega
          · refine rowsC_les entC_les ?_
            rw [rowsC_append]
            simp only [rowsC, List.append_nil]
            rfl
        · conv => whnf
          repeat ((first | refine ifB_t ?_ | refine ⟨(⟨by kernel_rfl, by kernel_rfl, Nat.le_of_ble_eq_true (by kernel_rfl)⟩ : AV.ones _ = true ∧ _ ∧ _), ?_⟩ | refine ⟨_, rfl, ?_⟩); conv => whnf)
          refine Does.tidy [(0, .ptr 0 0), (2, .ptr 1 0), (3, .ptr 2 0), (7, .int .i64 c), (8, .ptr 5 0)] [(0, rowC ⟨ral, true || decide (er ≠ 0)⟩), (1, msgV 0 0 0 .nil .nil .nil), (2, msgV 2 f.n t.n .nil (.sl 3 0 zs.length 266 false) (.sl 4 0 ps.length 133 false)), (3, rowsC prfC zs), (4, rowsC entC ps), (5, entC p)] 6 88 rfl rfl rfl (by kernel_rfl) (by kernel_rfl) ?_
          refine wpc_sound (M := MW) (PL := PL0) (CU := noCut) TTok mixed _ _ _ ?_
          conv => whnf
          repeat ((first | (refine Or.inl ⟨⟨rfl, ?_⟩, ?_⟩; (focus (first | rfl | (simp; done) | (rw [toksC_length]; omega)))) | refine ⟨rfl, ?_⟩ | refine ⟨_, rfl, ?_⟩ | refine ⟨⟨rfl, rfl⟩, ?_⟩); conv => whnf)
          refine ⟨⟨rfl, rfl, by rw [ents_len]; omega, by simp [limB]; omega⟩, ?_⟩
          conv => whnf
          repeat ((first | (refine fit_i64 ⟨by first | omega | rfl | (dsimp only; omega), by first | omega | rfl | (dsimp only; omega)⟩ ?_) | refine ⟨(⟨by kernel_rfl, by kernel_rfl, Nat.le_of_ble_eq_true (by kernel_rfl)⟩ : AV.ones _ = true ∧ _ ∧ _), ?_⟩); conv => whnf)
          refine ⟨(c - 1, ⟨ral, true || decide (er ≠ 0)⟩, ps ++ [p]), ⟨nx, by dsimp only; omega, ?_⟩, by dsimp only; omega, weaker_of [(1, 1), (2, 2), (3, 3), (4, 7)] rfl rfl ⟨⟨rfl, rfl⟩, ⟨rfl, rfl⟩, ⟨rfl, rfl⟩, ⟨rfl, rfl⟩, trivial⟩ ⟨⟨⟨rfl, rfl, pureL_toks _⟩, rfl, trivial⟩, ⟨⟨rfl, rfl⟩, ⟨rfl, rfl⟩, ⟨rfl, rfl⟩, trivial, trivial, trivial, trivial⟩, ⟨⟨rfl, rfl⟩, ⟨rfl, rfl⟩, ⟨rfl, rfl⟩, trivial, ⟨rfl, rfl, rfl, rfl, fun h => h⟩, ⟨rfl, rfl, lm.symm, rfl, fun h => h⟩, trivial⟩, rowsC_les prfC_les rfl, ?_, trivial⟩⟩
          · rw [← i4]
            dsimp only
            congr 1
            omega
          · refine rowsC_les entC_les ?_
            rw [rowsC_append]
            simp only [rowsC, List.append_nil]
            rfl
      · rw [if_pos c2] at i4
        rw [← i4]
        refine wpc_sound (M := MW) (PL := PL0) (CU := noCut) TTok mixed _ _ _ ?_
        conv => whnf
        repeat ((first | refine ifB_t ?_ | (refine ifB_pos (decide_eq_true (by first | omega | rfl | (dsimp only; omega))) ?_) | refine ⟨_, rfl, ?_⟩); conv => whnf)
        refine ifB_neg (by rw [c2]; rfl) ?_
        conv => whnf
        refine Does.freeze 4 rfl (Does.freeze 3 (zs := rowsC prfC zs) (by show some (frzL 4 _ (rowsC prfC zs)) = _; rw [rowsC_frz (fun x => prfC_frz _ _ x)]) (Does.tidy [(2, .ptr 1 0), (3, .ptr 2 0)] [(0, rowC r), (1, msgV 0 0 0 .nil .nil .nil), (2, msgV 2 f.n t.n .nil (.ro zs.length (List.take (zs.length * 266) (List.drop 0 (rowsC prfC zs)))) (.ro ps.length (List.take (ps.length * 133) (List.drop 0 (rowsC entC ps)))))] 5 88 rfl rfl rfl (by kernel_rfl) (by kernel_rfl) ?_))
        rw [rowsC_whole prfC_length, rowsC_whole entC_length]
        refine wpc_sound (M := MW) (PL := PL0) (CU := noCut) TTok mixed _ _ _ ?_
        conv => whnf
        repeat ((first | refine ⟨(⟨by kernel_rfl, by kernel_rfl, Nat.le_of_ble_eq_true (by kernel_rfl)⟩ : AV.ones _ = true ∧ _ ∧ _), ?_⟩ | refine ⟨rfl, ?_⟩ | refine ⟨_, rfl, ?_⟩ | refine ⟨⟨rfl, rfl⟩, ?_⟩ | (refine ⟨⟨rfl, rfl, ?_⟩, ?_⟩; (focus (first | assumption | exact pureL_bys _ | exact pureL_toks _)))); conv => whnf)
        refine ⟨⟨rfl, rfl, prfs_pure _⟩, ?_⟩
        conv => whnf
        refine ⟨⟨rfl, rfl, ents_pure _⟩, ?_⟩
        conv => whnf
        rfl
    · exact weaker_of [(1, 1), (2, 2), (3, 3)] rfl rfl ⟨⟨rfl, rfl⟩, ⟨rfl, rfl⟩, ⟨rfl, rfl⟩, ⟨rfl, rfl⟩, trivial⟩ ⟨⟨⟨rfl, rfl, pureL_toks _⟩, rfl, trivial⟩, ⟨⟨rfl, rfl⟩, ⟨rfl, rfl⟩, ⟨rfl, rfl⟩, trivial, trivial, trivial, trivial⟩, ⟨⟨rfl, rfl⟩, ⟨rfl, rfl⟩, ⟨rfl, rfl⟩, trivial, ⟨rfl, rfl, rfl, rfl, fun h => h⟩, rfl, trivial⟩, rowsC_les prfC_les rfl, rfl, trivial⟩
end Go.Proofs.YtelnlfhdaelfdaaDoor.Abs
end
section
--KR
set_option linter.unusedVariables false
set_option linter.unusedSimpArgs false
namespace Go.Proofs.YtelnlfhdaelfdaaDoor.Abs
open Go
attribute [local irreducible] ifB fitP Does Weaker
def msg0 : Msg := ⟨0, 0, 0, [], [], []⟩
def rdFin (q : Msg × Rw) : Msg × Int := if (!q.2.bad && decide (q.2.l = [])) = true then (if msgR q.1 = true then (q.1, 0) else (msg0, 3)) else (msg0, 3)
/-- The message that bytes are. -/
def rdM (r : Rw) : Msg × Int :=
  match rNext 5 r with
  | (li, r1) => match rNext 1 r1 with
    | (mk, r2) => if li.n = 4 ∧ mk.n = 3 then rdFin (rdFr r2) else if li.n = 5 ∧ mk.n = 4 then rdFin (rdAn r2) else (msg0, 3)
def rdMsg (b : List Int) : Msg × Int := rdM (rOpen b)
theorem rOpen_len (b : List Int) : (rOpen b).l.length ≤ 600 := by
  unfold rOpen
  rcases decR_or validR b with h | ⟨l, h, he, _⟩
  · rw [h]; simp
  · rw [h]; exact (encR_yes he).1
theorem frLoop_inv {N : Nat} : ∀ (k : Nat) (r : Rw) (hs : List Hd), RwOk r → hs.length + r.l.length ≤ N → (∀ h ∈ hs, HdS h) → RwOk (frLoop k r hs).2 ∧ (frLoop k r hs).1.length + (frLoop k r hs).2.l.length ≤ N ∧ ∀ h ∈ (frLoop k r hs).1, HdS h
  | 0, r, hs, h1, h2, h3 => ⟨h1, h2, h3⟩
  | k + 1, r, hs, h1, h2, h3 => by
    have k5 := rNext_rok h1 5
    have l5 := rNext_len 5 r
    have u5 := rNext_use 5 r
    rw [frLoop_s]
    split
    · exact ⟨h1, h2, h3⟩
    split
    · exact ⟨k5.1, by dsimp only; omega, h3⟩
    rename_i c
    have u := u5 (by omega)
    have hd := rdHd_ok k5.1
    refine frLoop_inv k _ _ hd.2.1 ?_ ?_
    · have := hd.2.2
      simp only [List.length_append, List.length_singleton]
      omega
    · intro x hx
      rcases List.mem_append.1 hx with hx | hx
      · exact h3 x hx
      · rw [List.mem_singleton] at hx
        rw [hx]
        exact hd.1
theorem rdFr_ok {r : Rw} (h : RwOk r) (hl : r.l.length ≤ 1000000) : MsgS (rdFr r).1 ∧ RwOk (rdFr r).2 := by
  unfold rdFr
  have k1 := rNext_rok h 1
  have l1 := rNext_len 1 r
  generalize rNext 1 r = q at k1 l1 ⊢
  obtain ⟨f, r1⟩ := q
  dsimp only at k1 l1 ⊢
  have k2 := rNext_rok k1.1 1
  have l2 := rNext_len 1 r1
  generalize rNext 1 r1 = q at k2 l2 ⊢
  obtain ⟨t, r2⟩ := q
  dsimp only at k2 l2 ⊢
  have k3 := rNext_rok k2.1 5
  have l3 := rNext_len 5 r2
  generalize rNext 5 r2 = q at k3 l3 ⊢
  obtain ⟨n, r3⟩ := q
  dsimp only at k3 l3 ⊢
  have i := frLoop_inv (N := 1000000) n.n.toNat r3 [] k3.1 (by simp; omega) (fun h hh => absurd hh (List.not_mem_nil))
  exact ⟨{ kind := ⟨by dsimp only; omega, by dsimp only; omega⟩, frm := k1.2.1.2.1, to := k2.2.1.2.1, hs := i.2.2, ps := fun h hh => absurd hh (List.not_mem_nil), es := fun h hh => absurd hh (List.not_mem_nil), hl := by have := i.2.1; dsimp only; omega, pl := by simp, el := by simp }, i.1⟩
theorem rdAn_ok {r : Rw} (h : RwOk r) (hl : r.l.length ≤ 1000000) : MsgS (rdAn r).1 ∧ RwOk (rdAn r).2 := by
  unfold rdAn
  have k1 := rNext_rok h 1
  have l1 := rNext_len 1 r
  generalize rNext 1 r = q at k1 l1 ⊢
  obtain ⟨f, r1⟩ := q
  dsimp only at k1 l1 ⊢
  have k2 := rNext_rok k1.1 1
  have l2 := rNext_len 1 r1
  generalize rNext 1 r1 = q at k2 l2 ⊢
  obtain ⟨t, r2⟩ := q
  dsimp only at k2 l2 ⊢
  have k3 := rNext_rok k2.1 5
  have l3 := rNext_len 5 r2
  generalize rNext 5 r2 = q at k3 l3 ⊢
  obtain ⟨n, r3⟩ := q
  dsimp only at k3 l3 ⊢
  have i := anInv_loop (N := 1000000) (rd := rdPrf) (ok := PrfS) (fun b hb hl => (rdPrf_prfS hb hl).1) n.n.toNat r3 [] ⟨k3.1, by simp; omega, fun h hh => absurd hh (List.not_mem_nil)⟩
  generalize anLoop rdPrf n.n.toNat r3 [] = q at i ⊢
  obtain ⟨ps, r4⟩ := q
  dsimp only at i ⊢
  have i2 := i.2.1
  have l4 : ps.length ≤ 1000001 ∧ r4.l.length ≤ 1000001 := by split at i2 <;> omega
  have k5 := rNext_rok i.1 5
  have l5 := rNext_len 5 r4
  generalize rNext 5 r4 = q at k5 l5 ⊢
  obtain ⟨n2, r5⟩ := q
  dsimp only at k5 l5 ⊢
  have j := anInv_loop (N := 1000001) (rd := rdEnt) (ok := EntS) (fun b hb hl => (rdEnt_entS hb hl).1) n2.n.toNat r5 [] ⟨k5.1, by simp; omega, fun h hh => absurd hh (List.not_mem_nil)⟩
  have j2 := j.2.1
  exact ⟨{ kind := ⟨by dsimp only; omega, by dsimp only; omega⟩, frm := k1.2.1.2.1, to := k2.2.1.2.1, hs := fun h hh => absurd hh (List.not_mem_nil), ps := i.2.2, es := j.2.2, hl := by simp, pl := by dsimp only; omega, el := by dsimp only; split at j2 <;> omega }, j.1⟩
set_option maxHeartbeats 1000000 in
theorem mread_ok (b : List Int) (hb : Byt b) (hl : b.length ≤ 1000000000) : ACall Tryd.prog 33 [.ro b.length (bys b)] (.tuple [.agg (msgC (rdMsg b).1), .int .i64 (rdMsg b).2]) [] := by
  have k0 := rOpen_rok hb hl
  have l0 := rOpen_len b
  have h0 := open_ok b hb (by omega)
  unfold rdMsg
  generalize rOpen b = r0 at k0 h0 l0 ⊢
  unfold rdM
  have h1 := rlist_ok r0
  have k1 := rNext_rok k0 5
  have l1 := rNext_len 5 r0
  generalize rNext 5 r0 = q at h1 k1 l1 ⊢
  obtain ⟨li, r1⟩ := q
  dsimp only at h1 k1 l1 ⊢
  have h2 := rnum_ok r1
  have k2 := rNext_rok k1.1 1
  have l2 := rNext_len 1 r1
  generalize rNext 1 r1 = q at h2 k2 l2 ⊢
  obtain ⟨mk, r2⟩ := q
  dsimp only at h2 k2 l2 ⊢
  have h3 := frontier_ok r2 k2.1 (by omega)
  have k3 := rdFr_ok k2.1 (by omega)
  have h4 := answer_ok r2 k2.1 (by omega)
  have k4 := rdAn_ok k2.1 (by omega)
  generalize rdFr r2 = q at h3 k3 ⊢
  obtain ⟨m1, s1⟩ := q
  generalize rdAn r2 = q at h4 k4 ⊢
  obtain ⟨m2, s2⟩ := q
  dsimp only at h3 k3 h4 k4 ⊢
  refine ACall.of_does TTok Tryd.func33 rfl Tryd.call33 rfl (wpc_sound (M := MW) (PL := PL0) (CU := cutAt [100009]) TTok mixed _ _ _ ?_)
  conv => whnf
  repeat ((first | refine ⟨pureL_bys _, ?_⟩ | refine ⟨rfl, ?_⟩); conv => whnf)
  refine ⟨_, _, h0, by first | rfl | simp [noRoIf, noRoL, noRoV, noRoL_bys], ?_⟩
  conv => whnf
  repeat ((first | refine ⟨rfl, ?_⟩ | (refine And.intro ?_ ?_; (focus (first | (simp only [pureL, pureV, pureL_bys, Bool.and_true, Bool.and_self]; done) | (simp only [pureL, pureV, pureL_bys, pureL_toks, Bool.and_true, Bool.and_self]; done))))); conv => whnf)
  refine ⟨_, _, h1, by first | rfl | simp [noRoIf, noRoL, noRoV, noRoL_bys], ?_⟩
  conv => whnf
  repeat ((first | refine ⟨rfl, ?_⟩ | (refine And.intro ?_ ?_; (focus (first | (simp only [pureL, pureV, pureL_bys, Bool.and_true, Bool.and_self]; done) | (simp only [pureL, pureV, pureL_bys, pureL_toks, Bool.and_true, Bool.and_self]; done))))); conv => whnf)
  refine ⟨_, _, h2, by first | rfl | simp [noRoIf, noRoL, noRoV, noRoL_bys], ?_⟩
  conv => whnf
  by_cases c1 : li.n = 4 ∧ mk.n = 3
  · rw [if_pos c1]
    obtain ⟨c1, c2⟩ := c1
    conv => whnf
    repeat ((first | refine ifB_t ?_ | (refine ifB_pos (decide_eq_true (by first | omega | rfl | (dsimp only; omega))) ?_) | refine ⟨rfl, ?_⟩ | (refine And.intro ?_ ?_; (focus (first | (simp only [pureL, pureV, pureL_bys, Bool.and_true, Bool.and_self]; done) | (simp only [pureL, pureV, pureL_bys, pureL_toks, Bool.and_true, Bool.and_self]; done))))); conv => whnf)
    refine ⟨_, _, h3, by first | rfl | simp [noRoIf, noRoL, noRoV, noRoL_bys], ?_⟩
    conv => whnf
    repeat ((refine ⟨(⟨by kernel_rfl, by kernel_rfl, Nat.le_of_ble_eq_true (by kernel_rfl)⟩ : AV.ones _ = true ∧ _ ∧ _), ?_⟩); conv => whnf)
    refine Does.tidy [(2, .ptr 0 0), (4, .ptr 1 0), (5, .ptr 2 0)] [(0, msgV 0 0 0 .nil .nil .nil), (1, rowC s1), (2, msgC m1)] 3 43 rfl rfl rfl (by kernel_rfl) (by kernel_rfl) ?_
    unfold rdFin
    dsimp only
    have h5 := rdone_ok s1
    have h6 := check_msg_ok m1 k3.1
    generalize (!s1.bad && decide (s1.l = [])) = dn at h5 ⊢
    clear h0 h1 h2 h3 h4
    refine wpc_sound (M := MW) (PL := PL0) (CU := noCut) TTok mixed _ _ _ ?_
    conv => whnf
    repeat ((first | refine ⟨rfl, ?_⟩ | (refine And.intro ?_ ?_; (focus (first | (simp only [pureL, pureV, pureL_bys, Bool.and_true, Bool.and_self]; done) | (simp only [pureL, pureV, pureL_bys, pureL_toks, Bool.and_true, Bool.and_self]; done))))); conv => whnf)
    refine ⟨_, _, h5, by first | rfl | simp [noRoIf, noRoL, noRoV, noRoL_bys], ?_⟩
    conv => whnf
    cases dn
    · conv => whnf
      repeat ((first | refine ifB_t ?_ | refine ⟨(⟨by kernel_rfl, by kernel_rfl, Nat.le_of_ble_eq_true (by kernel_rfl)⟩ : AV.ones _ = true ∧ _ ∧ _), ?_⟩ | refine ⟨_, rfl, ?_⟩ | refine ⟨⟨rfl, rfl⟩, ?_⟩); conv => whnf)
      rfl
    simp only [if_true]
    cases c5 : msgR m1 <;> rw [c5] at h6
    · conv => whnf
      repeat ((first | refine ifB_f ?_ | refine ⟨rfl, ?_⟩ | refine ⟨_, rfl, ?_⟩ | refine ⟨(show pureL _ = true from by first | exact prfC_pure _ | exact hdC_pure _ | exact msgC_pure _ | exact letC_pure _), ?_⟩); conv => whnf)
      refine ⟨_, _, h6, by first | rfl | simp [noRoIf, noRoL, noRoV, noRoL_bys], ?_⟩
      conv => whnf
      repeat ((first | refine ifB_t ?_ | refine ifB_f ?_ | refine ⟨(⟨by kernel_rfl, by kernel_rfl, Nat.le_of_ble_eq_true (by kernel_rfl)⟩ : AV.ones _ = true ∧ _ ∧ _), ?_⟩ | refine ⟨_, rfl, ?_⟩ | refine ⟨⟨rfl, rfl⟩, ?_⟩); conv => whnf)
      rfl
    · conv => whnf
      repeat ((first | refine ifB_f ?_ | refine ⟨rfl, ?_⟩ | refine ⟨_, rfl, ?_⟩ | refine ⟨(show pureL _ = true from by first | exact prfC_pure _ | exact hdC_pure _ | exact msgC_pure _ | exact letC_pure _), ?_⟩); conv => whnf)
      refine ⟨_, _, h6, by first | rfl | simp [noRoIf, noRoL, noRoV, noRoL_bys], ?_⟩
      conv => whnf
      repeat ((first | refine ifB_f ?_ | refine ⟨(⟨by kernel_rfl, by kernel_rfl, Nat.le_of_ble_eq_true (by kernel_rfl)⟩ : AV.ones _ = true ∧ _ ∧ _), ?_⟩ | refine ⟨_, rfl, ?_⟩ | refine ⟨⟨rfl, rfl⟩, ?_⟩); conv => whnf)
      refine ⟨⟨rfl, rfl, hds_pure _⟩, ?_⟩
      conv => whnf
      refine ⟨⟨rfl, rfl, prfs_pure _⟩, ?_⟩
      conv => whnf
      refine ⟨⟨rfl, rfl, ents_pure _⟩, ?_⟩
      conv => whnf
      repeat ((refine ⟨⟨rfl, rfl⟩, ?_⟩); conv => whnf)
      rfl
  rw [if_neg c1]
  by_cases c2 : li.n = 5 ∧ mk.n = 4
  · rw [if_pos c2]
    obtain ⟨c2, c3⟩ := c2
    conv => whnf
    repeat ((first | refine ifB_t ?_ | refine ifB_f ?_ | (refine ifB_neg (decide_eq_false (by first | omega | rfl | (dsimp only; omega))) ?_) | (refine ifB_pos (decide_eq_true (by first | omega | rfl | (dsimp only; omega))) ?_) | refine ⟨rfl, ?_⟩ | (refine And.intro ?_ ?_; (focus (first | (simp only [pureL, pureV, pureL_bys, Bool.and_true, Bool.and_self]; done) | (simp only [pureL, pureV, pureL_bys, pureL_toks, Bool.and_true, Bool.and_self]; done))))); conv => whnf)
    refine ⟨_, _, h4, by first | rfl | simp [noRoIf, noRoL, noRoV, noRoL_bys], ?_⟩
    conv => whnf
    repeat ((refine ⟨(⟨by kernel_rfl, by kernel_rfl, Nat.le_of_ble_eq_true (by kernel_rfl)⟩ : AV.ones _ = true ∧ _ ∧ _), ?_⟩); conv => whnf)
    refine Does.tidy [(2, .ptr 0 0), (4, .ptr 1 0), (5, .ptr 2 0)] [(0, msgV 0 0 0 .nil .nil .nil), (1, rowC s2), (2, msgC m2)] 3 43 rfl rfl rfl (by kernel_rfl) (by kernel_rfl) ?_
    unfold rdFin
    dsimp only
    have h5 := rdone_ok s2
    have h6 := check_msg_ok m2 k4.1
    generalize (!s2.bad && decide (s2.l = [])) = dn at h5 ⊢
    clear h0 h1 h2 h3 h4
    refine wpc_sound (M := MW) (PL := PL0) (CU := noCut) TTok mixed _ _ _ ?_
    conv => whnf
    repeat ((first | refine ⟨rfl, ?_⟩ | (refine And.intro ?_ ?_; (focus (first | (simp only [pureL, pureV, pureL_bys, Bool.and_true, Bool.and_self]; done) | (simp only [pureL, pureV, pureL_bys, pureL_toks, Bool.and_true, Bool.and_self]; done))))); conv => whnf)
    refine ⟨_, _, h5, by first | rfl | simp [noRoIf, noRoL, noRoV, noRoL_bys], ?_⟩
    conv => whnf
    cases dn
    · conv => whnf
      repeat ((first | refine ifB_t ?_ | refine ⟨(⟨by kernel_rfl, by kernel_rfl, Nat.le_of_ble_eq_true (by kernel_rfl)⟩ : AV.ones _ = true ∧ _ ∧ _), ?_⟩ | refine ⟨_, rfl, ?_⟩ | refine ⟨⟨rfl, rfl⟩, ?_⟩); conv => whnf)
      rfl
    simp only [if_true]
    cases c5 : msgR m2 <;> rw [c5] at h6
    · conv => whnf
      repeat ((first | refine ifB_f ?_ | refine ⟨rfl, ?_⟩ | refine ⟨_, rfl, ?_⟩ | refine ⟨(show pureL _ = true from by first | exact prfC_pure _ | exact hdC_pure _ | exact msgC_pure _ | exact letC_pure _), ?_⟩); conv => whnf)
      refine ⟨_, _, h6, by first | rfl | simp [noRoIf, noRoL, noRoV, noRoL_bys], ?_⟩
      conv => whnf
      repeat ((first | refine ifB_t ?_ | refine ifB_f ?_ | refine ⟨(⟨by kernel_rfl, by kernel_rfl, Nat.le_of_ble_eq_true (by kernel_rfl)⟩ : AV.ones _ = true ∧ _ ∧ _), ?_⟩ | refine ⟨_, rfl, ?_⟩ | refine ⟨⟨rfl, rfl⟩, ?_⟩); conv => whnf)
      rfl
    · conv => whnf
      repeat ((first | refine ifB_f ?_ | refine ⟨rfl, ?_⟩ | refine ⟨_, rfl, ?_⟩ | refine ⟨(show pureL _ = true from by first | exact prfC_pure _ | exact hdC_pure _ | exact msgC_pure _ | exact letC_pure _), ?_⟩); conv => whnf)
      refine ⟨_, _, h6, by first | rfl | simp [noRoIf, noRoL, noRoV, noRoL_bys], ?_⟩
      conv => whnf
      repeat ((first | refine ifB_f ?_ | refine ⟨(⟨by kernel_rfl, by kernel_rfl, Nat.le_of_ble_eq_true (by kernel_rfl)⟩ : AV.ones _ = true ∧ _ ∧ _), ?_⟩ | refine ⟨_, rfl, ?_⟩ | refine ⟨⟨rfl, rfl⟩, ?_⟩); conv => whnf)
      refine ⟨⟨rfl, rfl, hds_pure _⟩, ?_⟩
      conv => whnf
      refine ⟨⟨rfl, rfl, prfs_pure _⟩, ?_⟩
      conv => whnf
      refine ⟨⟨rfl, rfl, ents_pure _⟩, ?_⟩
      conv => whnf
      repeat ((refine ⟨⟨rfl, rfl⟩, ?_⟩); conv => whnf)
      rfl
  rw [if_neg c2]
  by_cases c3 : li.n = 4
  · have c4 : mk.n ≠ 3 := fun h => c1 ⟨c3, h⟩
    conv => whnf
    repeat ((first | refine ifB_t ?_ | refine ifB_f ?_ | (refine ifB_neg (decide_eq_false (by first | omega | rfl | (dsimp only; omega))) ?_) | (refine ifB_pos (decide_eq_true (by first | omega | rfl | (dsimp only; omega))) ?_) | refine ⟨(⟨by kernel_rfl, by kernel_rfl, Nat.le_of_ble_eq_true (by kernel_rfl)⟩ : AV.ones _ = true ∧ _ ∧ _), ?_⟩ | refine ⟨_, rfl, ?_⟩ | refine ⟨⟨rfl, rfl⟩, ?_⟩); conv => whnf)
    rfl
  by_cases c5 : li.n = 5
  · have c4 : mk.n ≠ 4 := fun h => c2 ⟨c5, h⟩
    conv => whnf
    repeat ((first | refine ifB_t ?_ | refine ifB_f ?_ | (refine ifB_neg (decide_eq_false (by first | omega | rfl | (dsimp only; omega))) ?_) | (refine ifB_pos (decide_eq_true (by first | omega | rfl | (dsimp only; omega))) ?_) | refine ⟨(⟨by kernel_rfl, by kernel_rfl, Nat.le_of_ble_eq_true (by kernel_rfl)⟩ : AV.ones _ = true ∧ _ ∧ _), ?_⟩ | refine ⟨_, rfl, ?_⟩ | refine ⟨⟨rfl, rfl⟩, ?_⟩); conv => whnf)
    rfl
  conv => whnf
  repeat ((first | refine ifB_f ?_ | (refine ifB_neg (decide_eq_false (by first | omega | rfl | (dsimp only; omega))) ?_) | refine ⟨(⟨by kernel_rfl, by kernel_rfl, Nat.le_of_ble_eq_true (by kernel_rfl)⟩ : AV.ones _ = true ∧ _ ∧ _), ?_⟩ | refine ⟨_, rfl, ?_⟩ | refine ⟨⟨rfl, rfl⟩, ?_⟩); conv => whnf)
  rfl
end Go.Proofs.YtelnlfhdaelfdaaDoor.Abs
end
section
set_option linter.unusedVariables false
set_option linter.unusedSimpArgs false
namespace Go.Proofs.YtelnlfhdaelfdaaDoor.Abs
open Go
/-- A token as the parser makes it: bytes where it has bytes, a number elsewhere. -/
def Norm (t : Tok) : Prop := ((t.k = 3 ∨ t.k = 4) → t.n = 0) ∧ ((t.k ≠ 3 ∧ t.k ≠ 4) → t.b = [])
def NOk (p : Pa) : Prop := ∀ t ∈ p.l, Norm t
theorem nok_snoc {l : List Tok} {x : Nat} {bd : Bool} {t : Tok} (h : ∀ t ∈ l, Norm t) (ht : Norm t) : NOk ⟨x, l ++ [t], bd⟩ := by
  intro s hs
  rcases List.mem_append.1 hs with hs | hs
  · exact h s hs
  · simp at hs; subst hs; exact ht
theorem pMany_nok (g : Pa → Pa) (hg : ∀ p, NOk p → NOk (g p)) : ∀ (n : Nat) (p : Pa), NOk p → NOk (pMany g n p)
  | 0, p, h => h
  | n + 1, p, h => by
    unfold pMany
    split
    · exact h
    · exact pMany_nok g hg n _ (hg p h)
theorem pPart_nok (b : List Int) (k n : Int) (hk : k = 3 ∨ k = 4) (next : Nat) (l : List Tok) (h : ∀ t ∈ l, Norm t) : NOk (pPart b k n next l) := by
  unfold pPart
  split
  · exact nok_snoc h ⟨fun _ => rfl, fun _ => rfl⟩
  · exact nok_snoc h ⟨fun _ => rfl, fun c => by dsimp only at c; omega⟩
theorem pGo_nok (b : List Int) (g : Pa → Pa) (hg : ∀ p, NOk p → NOk (g p)) (m n : Int) (next : Nat) (l : List Tok) (h : ∀ t ∈ l, Norm t) : NOk (pGo b g m n next l) := by
  have key : ∀ k : Int, k ≠ 3 → k ≠ 4 → NOk ⟨next, l ++ [⟨k, n, []⟩], false⟩ := fun k h1 h2 => nok_snoc h ⟨fun c => by dsimp only at c; omega, fun _ => rfl⟩
  unfold pGo
  split
  · exact key 1 (by omega) (by omega)
  split
  · exact key 2 (by omega) (by omega)
  split
  · exact pPart_nok b _ n (.inl rfl) next l h
  split
  · exact pPart_nok b _ n (.inr rfl) next l h
  split
  · exact pMany_nok g hg _ _ (key 5 (by omega) (by omega))
  split
  · exact pMany_nok g hg _ _ (key 6 (by omega) (by omega))
  · exact h
theorem pItem_nok (b : List Int) : ∀ (f : Nat) (p : Pa), NOk p → NOk (pItem b f p)
  | 0, p, h => h
  | f + 1, p, h => by
    unfold pItem
    split
    · exact h
    · exact pGo_nok b _ (fun p hp => pItem_nok b f p hp) _ _ _ _ h
theorem rOpen_norm (b : List Int) : ∀ t ∈ (rOpen b).l, Norm t := by
  unfold rOpen
  rcases decR_or validR b with h | ⟨l, h, _, hp⟩
  · rw [h]; exact fun t ht => absurd ht (List.not_mem_nil)
  · rw [h]
    have := pItem_nok b 7 ⟨0, [], false⟩ (fun t ht => absurd ht (List.not_mem_nil))
    rw [hp] at this
    exact this
theorem rOpen_good {b : List Int} (h : (rOpen b).bad = false) : encR validR (rOpen b).l = (b, 0) ∧ decR validR b = ((rOpen b).l, 0) := by
  unfold rOpen at h ⊢
  rcases decR_or validR b with e | ⟨l, e, he, _⟩
  · rw [e] at h; cases h
  · rw [e]; exact ⟨he, rfl⟩
theorem rOpen_enc {l : List Tok} {a : List Int} (hl : ToksOk l) (h : encR validR l = (a, 0)) : rOpen a = ⟨l, false⟩ := by
  unfold rOpen
  rw [decR_enc hl h]
  rfl
theorem rNext_inv {k : Int} {r : Rw} (h : (rNext k r).2.bad = false) : ∃ t q, r = ⟨t :: q, false⟩ ∧ t.k = k ∧ rNext k r = (t, ⟨q, false⟩) := by
  obtain ⟨l, bad⟩ := r
  unfold rNext at h ⊢
  split at h
  · cases h
  · rename_i hb
    rw [if_neg hb]
    cases l with
    | nil => cases h
    | cons t q =>
      dsimp only at h ⊢
      split at h
      · rename_i hk
        rw [if_pos hk]
        refine ⟨t, q, ?_, hk, rfl⟩
        cases bad
        · rfl
        · exact absurd rfl hb
      · cases h
theorem rNext_cons {k : Int} {t : Tok} {q : List Tok} (h : t.k = k) : rNext k ⟨t :: q, false⟩ = (t, ⟨q, false⟩) := by
  unfold rNext; simp [h]
theorem rArr_inv {m : Nat} {r : Rw} (h : (rArr m r).2.bad = false) : ∃ t q, r = ⟨t :: q, false⟩ ∧ t.k = 3 ∧ t.b.length = m ∧ rArr m r = (t.b, ⟨q, false⟩) := by
  unfold rArr at h ⊢
  split at h
  · rename_i c
    obtain ⟨t, q, h1, h2, h3⟩ := rNext_inv h
    rw [if_pos c]
    rw [h3] at c ⊢
    exact ⟨t, q, h1, h2, c, rfl⟩
  · cases h
theorem rArr_cons {m : Nat} {t : Tok} {q : List Tok} (h : t.k = 3) (hm : t.b.length = m) : rArr m ⟨t :: q, false⟩ = (t.b, ⟨q, false⟩) := by
  unfold rArr; rw [rNext_cons h]; simp [hm]
theorem rWant_inv {m f : Int} {r : Rw} (h : (rWant m f r).bad = false) : ∃ t s q, r = ⟨t :: s :: q, false⟩ ∧ t.k = 5 ∧ t.n = m ∧ s.k = 1 ∧ s.n = f ∧ rWant m f r = ⟨q, false⟩ := by
  unfold rWant at h ⊢
  split at h
  · cases h
  · rename_i c
    split at h
    · cases h
    · rename_i d
      obtain ⟨s, q, h1, h2, h3⟩ := rNext_inv h
      obtain ⟨t, q', k1, k2, k3⟩ := rNext_inv (k := 5) (r := r) (by rw [h1])
      rw [if_neg c, if_neg d]
      rw [k3] at c d h1 h3 ⊢
      dsimp only at c d h1 h3 ⊢
      cases h1
      rw [h3] at d ⊢
      exact ⟨t, s, q, k1, k2, Classical.not_not.1 c, h2, Classical.not_not.1 d, rfl⟩
theorem rWant_cons {m f : Int} {t s : Tok} {q : List Tok} (h1 : t.k = 5) (h2 : t.n = m) (h3 : s.k = 1) (h4 : s.n = f) : rWant m f ⟨t :: s :: q, false⟩ = ⟨q, false⟩ := by
  unfold rWant
  rw [rNext_cons h1]
  dsimp only
  rw [if_neg (by omega), rNext_cons h3]
  dsimp only
  rw [if_neg (by omega)]
theorem tok_eq {t : Tok} (h : Norm t) : (t.k = 3 ∨ t.k = 4) → t = ⟨t.k, 0, t.b⟩ := fun c => by
  obtain ⟨k, n, b⟩ := t
  have := h.1 c
  dsimp only at this ⊢
  rw [this]
theorem tok_eq' {t : Tok} (h : Norm t) : (t.k ≠ 3 ∧ t.k ≠ 4) → t = ⟨t.k, t.n, []⟩ := fun c => by
  obtain ⟨k, n, b⟩ := t
  have := h.2 c
  dsimp only at this ⊢
  rw [this]
theorem rdE_or (r : Rw) : rdE r = (ent0, 3) ∨ (rdE r).2 = 0 := by
  unfold rdE
  dsimp only
  split
  · exact .inl rfl
  split
  · split
    · exact .inr rfl
    · exact .inl rfl
  · exact .inl rfl
theorem rdE_cons {t2 t3 t4 t5 t6 t7 t8 t9 t10 : Tok} (h2 : t2.k = 3) (m2 : t2.b.length = 32) (h3 : t3.k = 1) (h4 : t4.k = 3) (m4 : t4.b.length = 32) (h5 : t5.k = 1) (h6 : t6.k = 5) (h7 : t7.k = 1) (h8 : t8.k = 4) (h9 : t9.k = 3) (h10 : t10.k = 3) (m10 : t10.b.length = 64) :
    rdE ⟨[t2, t3, t4, t5, t6, t7, t8, t9, t10], false⟩ = if t6.n ≠ 3 then (ent0, 3) else if entR ⟨t2.b, t3.n, t4.b, t5.n, t7.n, t8.b, t9.b, t10.b⟩ = true then (⟨t2.b, t3.n, t4.b, t5.n, t7.n, t8.b, t9.b, t10.b⟩, 0) else (ent0, 3) := by
  unfold rdE
  rw [rArr_cons h2 m2]; dsimp only
  rw [rNext_cons h3]; dsimp only
  rw [rArr_cons h4 m4]; dsimp only
  rw [rNext_cons h5]; dsimp only
  rw [rNext_cons h6]; dsimp only
  rw [rNext_cons h7]; dsimp only
  rw [rNext_cons h8]; dsimp only
  rw [rNext_cons h9]; dsimp only
  rw [rArr_cons h10 m10]; dsimp only
  rfl
theorem rdE_eq (r : Rw) : rdE r = if (rNext 5 (rNext 1 (rArr 32 (rNext 1 (rArr 32 r).2).2).2).2).1.n ≠ 3 then (ent0, 3) else
    if (!(rArr 64 (rNext 3 (rNext 4 (rNext 1 (rNext 5 (rNext 1 (rArr 32 (rNext 1 (rArr 32 r).2).2).2).2).2).2).2).2).2.bad && decide ((rArr 64 (rNext 3 (rNext 4 (rNext 1 (rNext 5 (rNext 1 (rArr 32 (rNext 1 (rArr 32 r).2).2).2).2).2).2).2).2).2.l = [])) = true then
    (if entR ⟨(rArr 32 r).1, (rNext 1 (rArr 32 r).2).1.n, (rArr 32 (rNext 1 (rArr 32 r).2).2).1, (rNext 1 (rArr 32 (rNext 1 (rArr 32 r).2).2).2).1.n, (rNext 1 (rNext 5 (rNext 1 (rArr 32 (rNext 1 (rArr 32 r).2).2).2).2).2).1.n, (rNext 4 (rNext 1 (rNext 5 (rNext 1 (rArr 32 (rNext 1 (rArr 32 r).2).2).2).2).2).2).1.b, (rNext 3 (rNext 4 (rNext 1 (rNext 5 (rNext 1 (rArr 32 (rNext 1 (rArr 32 r).2).2).2).2).2).2).2).1.b, (rArr 64 (rNext 3 (rNext 4 (rNext 1 (rNext 5 (rNext 1 (rArr 32 (rNext 1 (rArr 32 r).2).2).2).2).2).2).2).2).1⟩ = true then (⟨(rArr 32 r).1, (rNext 1 (rArr 32 r).2).1.n, (rArr 32 (rNext 1 (rArr 32 r).2).2).1, (rNext 1 (rArr 32 (rNext 1 (rArr 32 r).2).2).2).1.n, (rNext 1 (rNext 5 (rNext 1 (rArr 32 (rNext 1 (rArr 32 r).2).2).2).2).2).1.n, (rNext 4 (rNext 1 (rNext 5 (rNext 1 (rArr 32 (rNext 1 (rArr 32 r).2).2).2).2).2).2).1.b, (rNext 3 (rNext 4 (rNext 1 (rNext 5 (rNext 1 (rArr 32 (rNext 1 (rArr 32 r).2).2).2).2).2).2).2).1.b, (rArr 64 (rNext 3 (rNext 4 (rNext 1 (rNext 5 (rNext 1 (rArr 32 (rNext 1 (rArr 32 r).2).2).2).2).2).2).2).2).1⟩, 0) else (ent0, 3)) else (ent0, 3) := rfl
theorem rdE_inv {r : Rw} (h : (rdE r).2 = 0) : ∃ t2 t3 t4 t5 t6 t7 t8 t9 t10 : Tok, r = ⟨[t2, t3, t4, t5, t6, t7, t8, t9, t10], false⟩ ∧ (t2.k = 3 ∧ t2.b.length = 32) ∧ t3.k = 1 ∧ (t4.k = 3 ∧ t4.b.length = 32) ∧ t5.k = 1 ∧ (t6.k = 5 ∧ t6.n = 3) ∧ t7.k = 1 ∧ t8.k = 4 ∧ t9.k = 3 ∧ (t10.k = 3 ∧ t10.b.length = 64) ∧
    rdE r = (⟨t2.b, t3.n, t4.b, t5.n, t7.n, t8.b, t9.b, t10.b⟩, 0) ∧ entR ⟨t2.b, t3.n, t4.b, t5.n, t7.n, t8.b, t9.b, t10.b⟩ = true := by
  have h' := h
  rw [rdE_eq] at h'
  split at h'
  · cases h'
  split at h'
  case isFalse => cases h'
  rename_i c d
  clear h'
  simp only [Bool.and_eq_true, Bool.not_eq_true', decide_eq_true_eq] at d
  obtain ⟨d1, d2⟩ := d
  obtain ⟨t10, q10, e10, k10, m10, x10⟩ := rArr_inv d1
  rw [x10] at d2
  dsimp only at d2
  subst d2
  obtain ⟨t9, q9, e9, k9, x9⟩ := rNext_inv (by rw [e10])
  rw [x9] at e10; dsimp only at e10; injection e10 with e10 _; subst e10
  obtain ⟨t8, q8, e8, k8, x8⟩ := rNext_inv (by rw [e9])
  rw [x8] at e9; dsimp only at e9; injection e9 with e9 _; subst e9
  obtain ⟨t7, q7, e7, k7, x7⟩ := rNext_inv (by rw [e8])
  rw [x7] at e8; dsimp only at e8; injection e8 with e8 _; subst e8
  obtain ⟨t6, q6, e6, k6, x6⟩ := rNext_inv (by rw [e7])
  rw [x6] at e7; dsimp only at e7; injection e7 with e7 _; subst e7
  obtain ⟨t5, q5, e5, k5, x5⟩ := rNext_inv (by rw [e6])
  rw [x5] at e6; dsimp only at e6; injection e6 with e6 _; subst e6
  obtain ⟨t4, q4, e4, k4, m4, x4⟩ := rArr_inv (by rw [e5])
  rw [x4] at e5; dsimp only at e5; injection e5 with e5 _; subst e5
  obtain ⟨t3, q3, e3, k3, x3⟩ := rNext_inv (by rw [e4])
  rw [x3] at e4; dsimp only at e4; injection e4 with e4 _; subst e4
  obtain ⟨t2, q2, e2, k2, m2, x2⟩ := rArr_inv (by rw [e3])
  rw [x2] at e3; dsimp only at e3; injection e3 with e3 _; subst e3
  subst e2
  have hc := rdE_cons k2 m2 k3 k4 m4 k5 k6 k7 k8 k9 k10 m10
  rw [hc] at h ⊢
  split at h
  · cases h
  rename_i n6
  split at h
  case isFalse => cases h
  rename_i g
  rw [if_neg n6, if_pos g]
  exact ⟨t2, t3, t4, t5, t6, t7, t8, t9, t10, rfl, ⟨k2, m2⟩, k3, ⟨k4, m4⟩, k5, ⟨k6, Classical.not_not.1 n6⟩, k7, k8, k9, ⟨k10, m10⟩, rfl, g⟩
/-- What is read was written so. -/
theorem rdEnt_inv {b : List Int} (h : (rdEnt b).2 = 0) : encR validR (entTs (rdEnt b).1) = (b, 0) ∧ entR (rdEnt b).1 = true := by
  have hn := rOpen_norm b
  unfold rdEnt at h ⊢
  obtain ⟨t2, t3, t4, t5, t6, t7, t8, t9, t10, e, h2, h3, h4, h5, h6, h7, h8, h9, h10, hx, hr⟩ := rdE_inv h
  obtain ⟨t0, t1, q, e1, k0, n0, k1, n1, x⟩ := rWant_inv (by rw [e])
  rw [e] at x
  injection x with x _
  subst x
  have hg := (rOpen_good (b := b) (by rw [e1])).1
  rw [e1] at hn hg
  dsimp only at hn hg
  rw [hx]
  refine ⟨?_, hr⟩
  rw [← hg]
  congr 1
  have N := fun t ht => hn t ht
  simp only [List.mem_cons, List.not_mem_nil, or_false, forall_eq_or_imp, forall_eq] at N
  obtain ⟨N0, N1, N2, N3, N4, N5, N6, N7, N8, N9, N10⟩ := N
  rw [tok_eq' N0 (by omega), tok_eq' N1 (by omega), tok_eq N2 (by omega), tok_eq' N3 (by omega), tok_eq N4 (by omega), tok_eq' N5 (by omega), tok_eq' N6 (by omega), tok_eq' N7 (by omega), tok_eq N8 (by omega), tok_eq N9 (by omega), tok_eq N10 (by omega)]
  rw [k0, n0, k1, n1, h2.1, h3, h4.1, h5, h6.1, h6.2, h7, h8, h9, h10.1]
  rfl
/-- What is written is read. -/
theorem rdEnt_enc {e : Ent} (he : EntS e) (hr : entR e = true) {a : List Int} (h : encR validR (entTs e) = (a, 0)) : rdEnt a = (e, 0) := by
  unfold rdEnt
  rw [rOpen_enc (entTs_ok e he).1 h]
  rw [show entTs e = ⟨5, 7, []⟩ :: ⟨1, 1, []⟩ :: [⟨3, 0, e.au⟩, ⟨1, e.seq, []⟩, ⟨3, 0, e.prev⟩, ⟨1, e.stamp, []⟩, ⟨5, 3, []⟩, ⟨1, e.kind, []⟩, ⟨4, 0, e.key⟩, ⟨3, 0, e.val⟩, ⟨3, 0, e.sig⟩] from rfl]
  rw [rWant_cons (m := 7) (f := 1) (t := ⟨5, 7, []⟩) (s := ⟨1, 1, []⟩) rfl rfl rfl rfl, rdE_cons rfl he.au.2 rfl rfl he.prev.2 rfl rfl rfl rfl rfl rfl he.sig.2]
  rw [if_neg (by simp), if_pos hr]
theorem rdEnt_or (b : List Int) : rdEnt b = (ent0, 3) ∨ (rdEnt b).2 = 0 := rdE_or _
/-- The same of proofs. -/
theorem rdP_cons {t2 t3 : Tok} (h2 : t2.k = 3) (h3 : t3.k = 3) : rdP ⟨[t2, t3], false⟩ = if (rdEnt t2.b).2 ≠ 0 then (prf0, 3) else if (rdEnt t3.b).2 ≠ 0 then (prf0, 3) else if prfR ⟨(rdEnt t2.b).1, (rdEnt t3.b).1⟩ = true then (⟨(rdEnt t2.b).1, (rdEnt t3.b).1⟩, 0) else (prf0, 3) := by
  unfold rdP
  rw [rNext_cons h2]; dsimp only
  rw [rNext_cons h3]; dsimp only
  rfl
theorem rdP_eq (r : Rw) : rdP r = if (!(rNext 3 (rNext 3 r).2).2.bad && decide ((rNext 3 (rNext 3 r).2).2.l = [])) = true then (if (rdEnt (rNext 3 r).1.b).2 ≠ 0 then (prf0, 3) else if (rdEnt (rNext 3 (rNext 3 r).2).1.b).2 ≠ 0 then (prf0, 3) else if prfR ⟨(rdEnt (rNext 3 r).1.b).1, (rdEnt (rNext 3 (rNext 3 r).2).1.b).1⟩ = true then (⟨(rdEnt (rNext 3 r).1.b).1, (rdEnt (rNext 3 (rNext 3 r).2).1.b).1⟩, 0) else (prf0, 3)) else (prf0, 3) := rfl
theorem rdP_or (r : Rw) : rdP r = (prf0, 3) ∨ (rdP r).2 = 0 := by
  rw [rdP_eq]
  split
  · split
    · exact .inl rfl
    split
    · exact .inl rfl
    split
    · exact .inr rfl
    · exact .inl rfl
  · exact .inl rfl
theorem rdP_inv {r : Rw} (h : (rdP r).2 = 0) : ∃ t2 t3 : Tok, r = ⟨[t2, t3], false⟩ ∧ t2.k = 3 ∧ t3.k = 3 ∧ (rdEnt t2.b).2 = 0 ∧ (rdEnt t3.b).2 = 0 ∧ rdP r = (⟨(rdEnt t2.b).1, (rdEnt t3.b).1⟩, 0) ∧ prfR ⟨(rdEnt t2.b).1, (rdEnt t3.b).1⟩ = true := by
  have h' := h
  rw [rdP_eq] at h'
  split at h'
  case isFalse => cases h'
  rename_i d
  clear h'
  simp only [Bool.and_eq_true, Bool.not_eq_true', decide_eq_true_eq] at d
  obtain ⟨d1, d2⟩ := d
  obtain ⟨t3, q3, e3, k3, x3⟩ := rNext_inv d1
  rw [x3] at d2
  dsimp only at d2
  subst d2
  obtain ⟨t2, q2, e2, k2, x2⟩ := rNext_inv (by rw [e3])
  rw [x2] at e3; dsimp only at e3; injection e3 with e3 _; subst e3
  subst e2
  rw [rdP_cons k2 k3] at h ⊢
  split at h
  · cases h
  rename_i a1
  split at h
  · cases h
  rename_i a2
  split at h
  case isFalse => cases h
  rename_i a3
  rw [if_neg a1, if_neg a2, if_pos a3]
  exact ⟨t2, t3, rfl, k2, k3, Classical.not_not.1 a1, Classical.not_not.1 a2, rfl, a3⟩
theorem entB_read {b : List Int} (h : (rdEnt b).2 = 0) : entB (rdEnt b).1 = (b, 0) := by
  have := rdEnt_inv h
  unfold entB
  rw [if_pos this.2, this.1]
theorem rdPrf_inv {b : List Int} (h : (rdPrf b).2 = 0) : prfB (rdPrf b).1 = (b, 0) ∧ prfR (rdPrf b).1 = true := by
  have hn := rOpen_norm b
  unfold rdPrf at h ⊢
  obtain ⟨t2, t3, e, h2, h3, r2, r3, hx, hr⟩ := rdP_inv h
  obtain ⟨t0, t1, q, e1, k0, n0, k1, n1, x⟩ := rWant_inv (by rw [e])
  rw [e] at x
  injection x with x _
  subst x
  have hg := (rOpen_good (b := b) (by rw [e1])).1
  rw [e1] at hn hg
  dsimp only at hn hg
  rw [hx]
  refine ⟨?_, hr⟩
  unfold prfB
  rw [if_pos hr]
  dsimp only
  rw [entB_read r2, entB_read r3, ← hg]
  congr 1
  have N := fun t ht => hn t ht
  simp only [List.mem_cons, List.not_mem_nil, or_false, forall_eq_or_imp, forall_eq] at N
  obtain ⟨N0, N1, N2, N3⟩ := N
  rw [tok_eq' N0 (by omega), tok_eq' N1 (by omega), tok_eq N2 (by omega), tok_eq N3 (by omega)]
  rw [k0, n0, k1, n1, h2, h3]
/-- Of a right proof both entries have bytes. -/
theorem prfR_ents {p : Prf} (h : prfR p = true) : (entB p.a).2 = 0 ∧ (entB p.b).2 = 0 ∧ p.a.au = p.b.au ∧ p.a.seq = p.b.seq ∧ cmpI (entB p.a).1 (entB p.b).1 < 0 := by
  unfold prfR ordR at h
  have h := of_decide_eq_true h
  split at h
  · omega
  rename_i a1
  split at h
  · omega
  rename_i a2
  split at h
  · omega
  rename_i a3
  split at h
  · omega
  rename_i a4
  exact ⟨Classical.not_not.1 a1, Classical.not_not.1 a2, Classical.not_not.1 a3, Classical.not_not.1 a4, h⟩
theorem entB_right {e : Ent} (h : (entB e).2 = 0) : entR e = true ∧ encR validR (entTs e) = ((entB e).1, 0) := by
  unfold entB at h ⊢
  split at h
  · rename_i c
    rw [if_pos c]
    exact ⟨c, Prod.ext rfl h⟩
  · cases h
theorem rdEnt_bytes {e : Ent} (he : EntS e) (h : (entB e).2 = 0) : rdEnt (entB e).1 = (e, 0) := rdEnt_enc he (entB_right h).1 (entB_right h).2
theorem rdPrf_bytes {p : Prf} (hp : PrfS p) (h : (prfB p).2 = 0) : rdPrf (prfB p).1 = (p, 0) := by
  unfold prfB at h ⊢
  split at h
  case isFalse => cases h
  rename_i c
  rw [if_pos c]
  have r := prfR_ents c
  unfold rdPrf
  rw [rOpen_enc (prf_toks hp) (Prod.ext rfl h), rWant_cons (m := 3) (f := 2) (t := ⟨5, 3, []⟩) (s := ⟨1, 2, []⟩) rfl rfl rfl rfl, rdP_cons rfl rfl]
  dsimp only
  rw [rdEnt_bytes hp.a r.1, rdEnt_bytes hp.b r.2.1]
  rw [if_neg (by simp), if_neg (by simp), if_pos c]
end Go.Proofs.YtelnlfhdaelfdaaDoor.Abs
end
section
set_option linter.unusedVariables false
set_option linter.unusedSimpArgs false
namespace Go.Proofs.YtelnlfhdaelfdaaDoor.Abs
open Go
/-- Items one behind the other. -/
def Items (g : Nat → Option (Nat × List Int)) : Nat → List (List Int) → Nat → Prop
  | a, [], b => a = b
  | a, x :: xs, b => ∃ c, g a = some (c, x) ∧ Items g c xs b
theorem rLoop_items {g : Nat → Option (Nat × List Int)} : ∀ (xs : List (List Int)) (i a b : Nat) (acc last : List Int), Items g a xs b → acc.length + xs.flatten.length ≤ 32768 → rLoop g false xs.length i a acc last = some (b, acc ++ xs.flatten)
  | [], i, a, b, acc, last, h, _ => by
    obtain rfl : a = b := h
    simp [rLoop]
  | x :: xs, i, a, b, acc, last, h, hl => by
    obtain ⟨c, hc, h⟩ := h
    simp only [List.flatten_cons, List.length_append] at hl
    rw [List.length_cons, rLoop, hc]
    dsimp only
    rw [if_neg (by omega), if_neg (by simp), rLoop_items xs (i + 1) c b (acc ++ x) last h (by simp only [List.length_append]; omega)]
    simp
def IsItem (u : List Int → Bool) (f : Nat) (ts : List Tok) (x : List Int) : Prop := ∀ pre post : List Tok, rItem u (pre ++ (ts ++ post)) f pre.length = some (pre.length + ts.length, x)
def AreItems (u : List Int → Bool) (f : Nat) (ts : List Tok) (xs : List (List Int)) : Prop := ∀ pre post : List Tok, Items (rItem u (pre ++ (ts ++ post)) f) pre.length xs (pre.length + ts.length)
theorem are_nil (u : List Int → Bool) (f : Nat) : AreItems u f [] [] := fun pre post => by simp [Items]
theorem are_cons {u : List Int → Bool} {f : Nat} {ts us : List Tok} {x : List Int} {xs : List (List Int)} (h : IsItem u f ts x) (k : AreItems u f us xs) : AreItems u f (ts ++ us) (x :: xs) := by
  intro pre post
  refine ⟨pre.length + ts.length, ?_, ?_⟩
  · rw [List.append_assoc]; exact h pre (us ++ post)
  · have := k (pre ++ ts) post
    simpa [List.append_assoc, Nat.add_assoc] using this
theorem are_one {u : List Int → Bool} {f : Nat} {ts : List Tok} {x : List Int} (h : IsItem u f ts x) : AreItems u f ts [x] := by
  have := are_cons h (are_nil u f)
  rwa [List.append_nil] at this
theorem are_app {u : List Int → Bool} {f : Nat} : ∀ {xs ys : List (List Int)} {ts us : List Tok}, AreItems u f ts xs → AreItems u f us ys → AreItems u f (ts ++ us) (xs ++ ys) := by
  intro xs ys ts us h k pre post
  have h1 := h pre (us ++ post)
  have h2 := k (pre ++ ts) post
  rw [List.append_assoc]
  have e : pre ++ ts ++ (us ++ post) = pre ++ (ts ++ (us ++ post)) := by simp
  rw [e] at h2
  have e2 : (pre ++ ts).length = pre.length + ts.length := by simp
  rw [e2] at h2
  rw [List.length_append, ← Nat.add_assoc]
  generalize rItem u (pre ++ (ts ++ (us ++ post))) f = g at h1 h2
  clear h k e e2
  generalize pre.length + ts.length = m at h1 h2
  generalize pre.length = n at h1
  induction xs generalizing n with
  | nil => obtain rfl : n = m := h1; exact h2
  | cons x xs ih =>
    obtain ⟨c, hc, h1⟩ := h1
    exact ⟨c, hc, ih c h1⟩
/-- A token's own bytes. -/
def tB (t : Tok) : List Int := if t.k = 1 then putL 0 t.n else if t.k = 3 then putL 2 t.b.length ++ t.b else putL 3 t.b.length ++ t.b
def FlatOk (u : List Int → Bool) (t : Tok) : Prop := (t.k = 1 ∧ 0 ≤ t.n ∧ t.b = []) ∨ (t.k = 3 ∧ t.n = 0) ∨ (t.k = 4 ∧ t.n = 0 ∧ u t.b = true)
theorem is_flat {u : List Int → Bool} {f : Nat} {t : Tok} (h : FlatOk u t) : IsItem u f [t] (tB t) := by
  intro pre post
  have hk : pre.length < (pre ++ ([t] ++ post)).length := by simp
  rw [rItem_tok u _ f pre.length hk]
  have e : (pre ++ ([t] ++ post))[pre.length] = t := by simp
  rw [e]
  unfold rTok tB
  have hb : ¬ rBad t := by
    unfold rBad
    rcases h with h | h | h
    · rw [h.2.2]; simp; omega
    · rw [h.1, h.2]; simp
    · rw [h.1, h.2.1]; simp
  rw [if_neg hb]
  rcases h with h | h | h
  · simp [h.1]
  · simp [h.1]
  · simp [h.1, h.2.2]
theorem is_arr {u : List Int → Bool} {f : Nat} {ts : List Tok} {xs : List (List Int)} (h : AreItems u f ts xs) (hx : xs.length ≤ 64) (hl : (putL 4 xs.length).length + xs.flatten.length ≤ 32768) : IsItem u (f + 1) (⟨5, xs.length, []⟩ :: ts) (putL 4 xs.length ++ xs.flatten) := by
  intro pre post
  have hk : pre.length < (pre ++ (⟨5, (xs.length : Int), []⟩ :: ts ++ post)).length := by simp
  rw [rItem_tok u _ (f + 1) pre.length hk]
  have e : (pre ++ (⟨5, (xs.length : Int), []⟩ :: ts ++ post))[pre.length] = ⟨5, (xs.length : Int), []⟩ := by simp
  rw [e]
  unfold rTok
  rw [if_neg (by unfold rBad; simp <;> omega)]
  dsimp only
  rw [if_neg (by omega), if_neg (by omega), if_neg (by omega), if_neg (by omega), if_pos (by omega), if_neg (by simp), if_neg (by omega), if_neg (by omega)]
  have := h (pre ++ [⟨5, (xs.length : Int), []⟩]) post
  have e2 : pre ++ [(⟨5, (xs.length : Int), []⟩ : Tok)] ++ (ts ++ post) = pre ++ (⟨5, (xs.length : Int), []⟩ :: ts ++ post) := by simp
  rw [e2, List.length_append, List.length_singleton] at this
  simp only [rSub, Int.toNat_natCast]
  rw [rLoop_items xs 0 _ _ _ _ this hl]
  simp
  omega
theorem enc_item {u : List Int → Bool} {ts : List Tok} {x : List Int} (h : IsItem u 6 ts x) (ht : ts.length ≤ 600) (hx : x.length ≤ 32768) : encR u ts = (x, 0) := by
  rw [encR_iff]
  have := h [] []
  simp at this
  exact ⟨ht, this, hx⟩
theorem is_deep {u : List Int → Bool} {f : Nat} {ts : List Tok} {x : List Int} (h : IsItem u f ts x) : IsItem u (f + 1) ts x := fun pre post => rItem_deep u _ f _ _ (h pre post)
theorem is_lift {u : List Int → Bool} {f g : Nat} (hfg : f ≤ g) {ts : List Tok} {x : List Int} (h : IsItem u f ts x) : IsItem u g ts x := by
  induction hfg with
  | refl => exact h
  | step _ ih => exact is_deep ih
theorem flat_num {u : List Int → Bool} {n : Int} (h : 0 ≤ n) (f : Nat) : IsItem u f [⟨1, n, []⟩] (putL 0 n) := is_flat (.inl ⟨rfl, h, rfl⟩)
theorem flat_str {u : List Int → Bool} (b : List Int) (f : Nat) : IsItem u f [⟨3, 0, b⟩] (putL 2 b.length ++ b) := is_flat (.inr (.inl ⟨rfl, rfl⟩))
theorem flat_text {u : List Int → Bool} {b : List Int} (h : u b = true) (f : Nat) : IsItem u f [⟨4, 0, b⟩] (putL 3 b.length ++ b) := is_flat (.inr (.inr ⟨rfl, rfl, h⟩))
theorem putL_le (M : Int) {n : Int} (h : 0 ≤ n) : (putL M n).length ≤ 9 := by
  rw [putL_length]; have := (sizeR_le n h).1; omega
/-- The items of an entry's array. -/
def entX (e : Ent) : List (List Int) := [putL 0 1, putL 2 e.au.length ++ e.au, putL 0 e.seq, putL 2 e.prev.length ++ e.prev, putL 0 e.stamp, putL 4 3 ++ [putL 0 e.kind, putL 3 e.key.length ++ e.key, putL 2 e.val.length ++ e.val].flatten]
theorem entR_facts {e : Ent} (hr : entR e = true) : (1 ≤ e.seq ∧ e.seq ≤ 200) ∧ 0 ≤ e.stamp ∧ (1 ≤ e.key.length ∧ e.key.length ≤ 16) ∧ validR e.key = true ∧ (e.kind = 1 ∨ e.kind = 2) ∧ e.val.length ≤ 40 := by
  unfold entR opR at hr
  simp only [Bool.and_eq_true, Bool.or_eq_true, decide_eq_true_eq] at hr
  obtain ⟨⟨⟨⟨h1, h2⟩, h3⟩, h4⟩, ⟨⟨h5, h6⟩, h7⟩, h8⟩ := hr
  refine ⟨⟨h1, h2⟩, h4, ⟨h5, h6⟩, h7, ?_, ?_⟩
  · rcases h8 with h | h
    · exact .inl h.1
    · exact .inr h.1
  · rcases h8 with h | h
    · exact h.2
    · omega
theorem entX_are {e : Ent} (hr : entR e = true) (h1 : e.au.length = 32) (h2 : e.prev.length = 32) (f : Nat) : AreItems validR (f + 1) [⟨1, 1, []⟩, ⟨3, 0, e.au⟩, ⟨1, e.seq, []⟩, ⟨3, 0, e.prev⟩, ⟨1, e.stamp, []⟩, ⟨5, 3, []⟩, ⟨1, e.kind, []⟩, ⟨4, 0, e.key⟩, ⟨3, 0, e.val⟩] (entX e) := by
  have F := entR_facts hr
  have op : IsItem validR (f + 1) [⟨5, 3, []⟩, ⟨1, e.kind, []⟩, ⟨4, 0, e.key⟩, ⟨3, 0, e.val⟩] (putL 4 3 ++ [putL 0 e.kind, putL 3 e.key.length ++ e.key, putL 2 e.val.length ++ e.val].flatten) := by
    have := is_arr (u := validR) (f := f) (are_cons (flat_num (n := e.kind) (by omega) f) (are_cons (flat_text F.2.2.2.1 f) (are_one (flat_str e.val f)))) (by simp) (by
      have a1 := putL_le 4 (n := 3) (by omega)
      have a2 := putL_le 0 (n := e.kind) (by omega)
      have a3 := putL_le 3 (n := e.key.length) (by omega)
      have a4 := putL_le 2 (n := e.val.length) (by omega)
      simp only [List.length_cons, List.length_nil, List.flatten_cons, List.flatten_nil, List.length_append]
      have : ((0 + 1 + 1 + 1 : Nat) : Int) = 3 := rfl
      rw [this]
      omega)
    exact this
  exact are_cons (flat_num (by omega) _) (are_cons (flat_str e.au _) (are_cons (flat_num (by omega) _) (are_cons (flat_str e.prev _) (are_cons (flat_num F.2.1 _) (are_one op)))))
theorem entX_len {e : Ent} (hr : entR e = true) (h1 : e.au.length = 32) (h2 : e.prev.length = 32) : (entX e).flatten.length ≤ 300 := by
  have F := entR_facts hr
  have a0 := putL_le 0 (n := 1) (by omega)
  have a1 := putL_le 4 (n := 3) (by omega)
  have a2 := putL_le 0 (n := e.kind) (by omega)
  have a3 := putL_le 3 (n := e.key.length) (by omega)
  have a4 := putL_le 2 (n := e.val.length) (by omega)
  have a5 := putL_le 2 (n := e.au.length) (by omega)
  have a6 := putL_le 0 (n := e.seq) (by omega)
  have a7 := putL_le 2 (n := e.prev.length) (by omega)
  have a8 := putL_le 0 (n := e.stamp) (by omega)
  simp only [entX, List.flatten_cons, List.flatten_nil, List.length_append, List.length_nil]
  omega
/-- An entry's bytes, written out. -/
theorem entTs_bytes {e : Ent} (hr : entR e = true) (h1 : e.au.length = 32) (h2 : e.prev.length = 32) (h3 : e.sig.length = 64) : encR validR (entTs e) = (putL 4 7 ++ (entX e ++ [putL 2 e.sig.length ++ e.sig]).flatten, 0) := by
  have A := are_app (entX_are hr h1 h2 4) (are_one (flat_str e.sig 5))
  have L := entX_len hr h1 h2
  have a1 := putL_le 4 (n := 7) (by omega)
  have a2 := putL_le 2 (n := e.sig.length) (by omega)
  have := is_arr A (by simp [entX]) (by
    have : (((entX e ++ [putL 2 e.sig.length ++ e.sig]).length : Nat) : Int) = 7 := by simp [entX]
    rw [this]
    simp only [List.flatten_append, List.length_append, List.flatten_cons, List.flatten_nil, List.length_nil]
    omega)
  have e7 : (((entX e ++ [putL 2 e.sig.length ++ e.sig]).length : Nat) : Int) = 7 := by simp [entX]
  rw [e7] at this
  exact enc_item (ts := entTs e) this (by show 11 ≤ 600; decide) (by
    simp only [List.flatten_append, List.length_append, List.flatten_cons, List.flatten_nil, List.length_nil]
    omega)
theorem entBody_bytes {e : Ent} (hr : entR e = true) (h1 : e.au.length = 32) (h2 : e.prev.length = 32) : encR validR (entT 6 e) = (putL 4 6 ++ (entX e).flatten, 0) := by
  have A := entX_are hr h1 h2 4
  have L := entX_len hr h1 h2
  have a1 := putL_le 4 (n := 6) (by omega)
  have e6 : (((entX e).length : Nat) : Int) = 6 := by simp [entX]
  have := is_arr A (by simp [entX]) (by rw [e6]; omega)
  rw [e6] at this
  exact enc_item (ts := entT 6 e) this (by show 10 ≤ 600; decide) (by simp only [List.length_append]; omega)
theorem entB_yes {e : Ent} (he : EntS e) (hr : entR e = true) : entB e = (putL 4 7 ++ (entX e ++ [putL 2 e.sig.length ++ e.sig]).flatten, 0) := by
  unfold entB
  rw [if_pos hr, entTs_bytes hr he.au.2 he.prev.2 he.sig.2]
theorem entB_err {e : Ent} (he : EntS e) : decide ((entB e).2 = 0) = entR e := by
  cases h : entR e
  · unfold entB; rw [h]; rfl
  · rw [entB_yes he h]; rfl
end Go.Proofs.YtelnlfhdaelfdaaDoor.Abs
end
section
set_option linter.unusedVariables false
set_option linter.unusedSimpArgs false
namespace Go.Proofs.YtelnlfhdaelfdaaDoor.Abs
open Go
/-- Numbers of what is read are not below 0. -/
def NNk (p : Pa) : Prop := ∀ t ∈ p.l, 0 ≤ t.n
theorem nnk_snoc {l : List Tok} {x : Nat} {bd : Bool} {t : Tok} (h : ∀ t ∈ l, 0 ≤ t.n) (ht : 0 ≤ t.n) : NNk ⟨x, l ++ [t], bd⟩ := by
  intro s hs
  rcases List.mem_append.1 hs with hs | hs
  · exact h s hs
  · simp at hs; subst hs; exact ht
theorem pMany_nnk (g : Pa → Pa) (hg : ∀ p, NNk p → NNk (g p)) : ∀ (n : Nat) (p : Pa), NNk p → NNk (pMany g n p)
  | 0, p, h => h
  | n + 1, p, h => by
    unfold pMany
    split
    · exact h
    · exact pMany_nnk g hg n _ (hg p h)
theorem pPart_nnk (b : List Int) (k n : Int) (next : Nat) (l : List Tok) (h : ∀ t ∈ l, 0 ≤ t.n) : NNk (pPart b k n next l) := by
  unfold pPart
  split
  · exact nnk_snoc h (by simp)
  · exact nnk_snoc h (by simp)
theorem pGo_nnk (b : List Int) (g : Pa → Pa) (hg : ∀ p, NNk p → NNk (g p)) (m n : Int) (hn : 0 ≤ n) (next : Nat) (l : List Tok) (h : ∀ t ∈ l, 0 ≤ t.n) : NNk (pGo b g m n next l) := by
  unfold pGo
  split
  · exact nnk_snoc h hn
  split
  · exact nnk_snoc h hn
  split
  · exact pPart_nnk b _ n next l h
  split
  · exact pPart_nnk b _ n next l h
  split
  · exact pMany_nnk g hg _ _ (nnk_snoc h hn)
  split
  · exact pMany_nnk g hg _ _ (nnk_snoc h hn)
  · exact h
theorem pItem_nnk (b : List Int) (hb : Byt b) : ∀ (f : Nat) (p : Pa), NNk p → NNk (pItem b f p)
  | 0, p, h => h
  | f + 1, p, h => by
    unfold pItem
    split
    · exact h
    · rename_i c
      have e : (getR b p.at').2.2.2 = 0 := Classical.not_not.1 fun h => c (.inr (.inl h))
      obtain ⟨M, n, X, hg, _, hn, _⟩ := getR_right b hb p.at' e
      exact pGo_nnk b _ (fun p hp => pItem_nnk b hb f p hp) _ _ (by rw [hg]; exact hn.1) _ _ h
theorem rOpen_nn (b : List Int) (hb : Byt b) : ∀ t ∈ (rOpen b).l, 0 ≤ t.n := by
  unfold rOpen
  rcases decR_or validR b with h | ⟨l, h, _, hp⟩
  · rw [h]; exact fun t ht => absurd ht (List.not_mem_nil)
  · rw [h]
    have := pItem_nnk b hb 7 ⟨0, [], false⟩ (fun t ht => absurd ht (List.not_mem_nil))
    rw [hp] at this
    exact this
theorem flat_len {c : Nat} : ∀ {l : List (List Int)}, (∀ x ∈ l, x.length ≤ c) → l.flatten.length ≤ c * l.length
  | [], _ => by simp
  | x :: r, h => by
    have h1 := h x List.mem_cons_self
    have h2 := flat_len (l := r) (fun y hy => h y (List.mem_cons_of_mem _ hy))
    simp only [List.flatten_cons, List.length_append, List.length_cons, Nat.mul_add]
    omega
/-- A head's bytes. -/
def hdX (h : Hd) : List Int := putL 4 4 ++ [putL 2 h.au.length ++ h.au, putL 0 h.len, putL 2 h.id.length ++ h.id, putL 0 (bitR h.shut)].flatten
def HdI (h : Hd) : Prop := 0 ≤ h.len ∧ h.au.length = 32 ∧ h.id.length = 32
theorem bitR_nn (b : Bool) : 0 ≤ bitR b := by unfold bitR; split <;> omega
theorem hdX_len {h : Hd} (H : HdI h) : (hdX h).length ≤ 120 := by
  obtain ⟨h1, h2, h3⟩ := H
  have a1 := putL_le 4 (n := 4) (by omega)
  have a2 := putL_le 2 (n := h.au.length) (by omega)
  have a3 := putL_le 0 (n := h.len) h1
  have a4 := putL_le 2 (n := h.id.length) (by omega)
  have a5 := putL_le 0 (n := bitR h.shut) (bitR_nn _)
  simp only [hdX, List.flatten_cons, List.flatten_nil, List.length_append, List.length_nil]
  omega
theorem hd_is {h : Hd} (H : HdI h) (f : Nat) : IsItem validR (f + 1) (hdT h) (hdX h) := by
  have L := hdX_len H
  have := is_arr (u := validR) (f := f) (are_cons (flat_str h.au f) (are_cons (flat_num H.1 f) (are_cons (flat_str h.id f) (are_one (flat_num (bitR_nn h.shut) f))))) (by simp) (by
    rw [← List.length_append]
    exact Nat.le_trans L (by omega))
  exact this
theorem hds_are (f : Nat) : ∀ {l : List Hd}, (∀ h ∈ l, HdI h) → AreItems validR (f + 1) (hdsT l) (l.map hdX)
  | [], _ => are_nil _ _
  | h :: r, H => are_cons (hd_is (H h List.mem_cons_self) f) (hds_are f fun x hx => H x (List.mem_cons_of_mem _ hx))
def strX (b : List Int) : List Int := putL 2 b.length ++ b
theorem strX_len (b : List Int) : (strX b).length ≤ b.length + 9 := by
  have := putL_le 2 (n := b.length) (by omega)
  unfold strX
  rw [List.length_append]; omega
theorem strs_are (f : Nat) : ∀ l : List (List Int), AreItems validR f (l.map fun b => ⟨3, 0, b⟩) (l.map strX)
  | [] => are_nil _ _
  | b :: r => are_cons (flat_str b f) (strs_are f r)
theorem entB_len {e : Ent} (he : EntS e) : (entB e).1.length ≤ 400 := by
  cases hr : entR e
  · unfold entB; rw [hr]; simp
  · rw [entB_yes he hr]
    have L := entX_len hr he.au.2 he.prev.2
    have a1 := putL_le 4 (n := 7) (by omega)
    have a2 := putL_le 2 (n := e.sig.length) (by omega)
    have := he.sig.2
    simp only [List.flatten_append, List.length_append, List.flatten_cons, List.flatten_nil, List.length_nil]
    omega
def prfX (p : Prf) : List Int := putL 4 3 ++ [putL 0 2, strX (entB p.a).1, strX (entB p.b).1].flatten
theorem prfX_len {p : Prf} (hp : PrfS p) : (prfX p).length ≤ 900 := by
  have b1 := entB_len hp.a
  have b2 := entB_len hp.b
  have s1 := strX_len (entB p.a).1
  have s2 := strX_len (entB p.b).1
  have a1 := putL_le 4 (n := 3) (by omega)
  have a2 := putL_le 0 (n := 2) (by omega)
  simp only [prfX, List.flatten_cons, List.flatten_nil, List.length_append, List.length_nil]
  omega
theorem prfB_yes {p : Prf} (hp : PrfS p) (hr : prfR p = true) : prfB p = (prfX p, 0) := by
  have L := prfX_len hp
  unfold prfB
  rw [if_pos hr]
  have := is_arr (u := validR) (f := 5) (are_cons (flat_num (n := 2) (by omega) 5) (are_cons (flat_str (entB p.a).1 5) (are_one (flat_str (entB p.b).1 5)))) (by simp) (by
    rw [← List.length_append]
    exact Nat.le_trans L (by omega))
  exact enc_item (x := prfX p) this (by simp) (by omega)
theorem prfB_len {p : Prf} (hp : PrfS p) : (prfB p).1.length ≤ 900 := by
  cases hr : prfR p
  · unfold prfB; rw [hr]; simp
  · rw [prfB_yes hp hr]; exact prfX_len hp
theorem prT_eq (l : List Prf) : prT l = (l.map fun p => (prfB p).1).map fun b => ⟨3, 0, b⟩ := by simp [prT]
theorem enT_eq (l : List Ent) : enT l = (l.map fun p => (entB p).1).map fun b => ⟨3, 0, b⟩ := by simp [enT]
theorem strs_len {c : Nat} {l : List (List Int)} (h : ∀ b ∈ l, b.length ≤ c) : (l.map strX).flatten.length ≤ (c + 9) * l.length := by
  have := flat_len (c := c + 9) (l := l.map strX) (by
    intro x hx
    obtain ⟨b, hb, rfl⟩ := List.mem_map.1 hx
    have := strX_len b
    have := h b hb
    omega)
  rwa [List.length_map] at this
/-- The items of messages. -/
def frX (m : Msg) : List (List Int) := [putL 0 3, putL 0 m.frm, putL 0 m.to, putL 4 m.hs.length ++ (m.hs.map hdX).flatten]
def anX (m : Msg) : List (List Int) := [putL 0 4, putL 0 m.frm, putL 0 m.to, putL 4 m.ps.length ++ (m.ps.map fun p => strX (prfB p).1).flatten, putL 4 m.es.length ++ (m.es.map fun e => strX (entB e).1).flatten]
set_option maxHeartbeats 1000000 in
theorem fr_yes {m : Msg} (h1 : 0 ≤ m.frm) (h2 : 0 ≤ m.to) (hl : m.hs.length ≤ 8) (H : ∀ h ∈ m.hs, HdI h) : encR validR (frT m ++ hdsT m.hs) = (putL 4 4 ++ (frX m).flatten, 0) := by
  have F := flat_len (c := 120) (l := m.hs.map hdX) (by
    intro x hx
    obtain ⟨h, hh, rfl⟩ := List.mem_map.1 hx
    exact hdX_len (H h hh))
  rw [List.length_map] at F
  have a1 := putL_le 4 (n := m.hs.length) (by omega)
  have hd := is_arr (hds_are 3 H) (by rw [List.length_map]; omega) (by rw [List.length_map]; omega)
  rw [List.length_map] at hd
  have b0 := putL_le 4 (n := 4) (by omega)
  have b1 := putL_le 0 (n := 3) (by omega)
  have b2 := putL_le 0 (n := m.frm) h1
  have b3 := putL_le 0 (n := m.to) h2
  have L : (putL 4 4 ++ (frX m).flatten).length ≤ 32768 := by
    simp only [frX, List.flatten_cons, List.flatten_nil, List.length_append, List.length_nil]
    omega
  have := is_arr (are_cons (flat_num (n := 3) (by omega) 5) (are_cons (flat_num h1 5) (are_cons (flat_num h2 5) (are_one hd)))) (by simp) (by
    rw [← List.length_append]
    exact L)
  exact enc_item (ts := frT m ++ hdsT m.hs) (x := putL 4 4 ++ (frX m).flatten) this (by rw [List.length_append, hdsT_len]; simp [frT]; omega) L
set_option maxHeartbeats 1000000 in
theorem an_yes {m : Msg} (h1 : 0 ≤ m.frm) (h2 : 0 ≤ m.to) (hp : m.ps.length ≤ 4) (he : m.es.length ≤ 4) (P : ∀ p ∈ m.ps, PrfS p) (E : ∀ e ∈ m.es, EntS e) : encR validR (anT m ++ prT m.ps ++ [⟨5, m.es.length, []⟩] ++ enT m.es) = (putL 4 5 ++ (anX m).flatten, 0) := by
  have Fp := strs_len (c := 900) (l := m.ps.map fun p => (prfB p).1) (by
    intro x hx
    obtain ⟨h, hh, rfl⟩ := List.mem_map.1 hx
    exact prfB_len (P h hh))
  have Fe := strs_len (c := 400) (l := m.es.map fun p => (entB p).1) (by
    intro x hx
    obtain ⟨h, hh, rfl⟩ := List.mem_map.1 hx
    exact entB_len (E h hh))
  have pa := strs_are 4 (m.ps.map fun p => (prfB p).1)
  have ea := strs_are 4 (m.es.map fun p => (entB p).1)
  rw [← prT_eq] at pa
  rw [← enT_eq] at ea
  rw [List.length_map] at Fp Fe
  rw [List.map_map] at pa ea Fp Fe
  have a1 := putL_le 4 (n := m.ps.length) (by omega)
  have a2 := putL_le 4 (n := m.es.length) (by omega)
  have hd := is_arr pa (by rw [List.length_map]; omega) (by rw [List.length_map]; omega)
  have hd2 := is_arr ea (by rw [List.length_map]; omega) (by rw [List.length_map]; omega)
  rw [List.length_map] at hd hd2
  have b0 := putL_le 4 (n := 5) (by omega)
  have b1 := putL_le 0 (n := 4) (by omega)
  have b2 := putL_le 0 (n := m.frm) h1
  have b3 := putL_le 0 (n := m.to) h2
  have L : (putL 4 5 ++ (anX m).flatten).length ≤ 32768 := by
    simp only [anX, List.flatten_cons, List.flatten_nil, List.length_append, List.length_nil]
    have Fp' : (m.ps.map fun p => strX (prfB p).1).flatten.length ≤ 909 * m.ps.length := Fp
    have Fe' : (m.es.map fun p => strX (entB p).1).flatten.length ≤ 409 * m.es.length := Fe
    omega
  have := is_arr (are_cons (flat_num (n := 4) (by omega) 5) (are_cons (flat_num h1 5) (are_cons (flat_num h2 5) (are_cons hd (are_one hd2))))) (by simp) (by
    rw [← List.length_append]
    exact L)
  exact enc_item (ts := anT m ++ prT m.ps ++ [⟨5, m.es.length, []⟩] ++ enT m.es) (x := putL 4 5 ++ (anX m).flatten) (by
    have e : anT m ++ prT m.ps ++ [⟨5, (m.es.length : Int), []⟩] ++ enT m.es = anT m ++ (prT m.ps ++ (⟨5, (m.es.length : Int), []⟩ :: enT m.es)) := by simp only [List.append_assoc, List.singleton_append]
    rw [e]
    exact this) (by simp [anT, prT, enT]; omega) L
theorem headsR_facts {l : List Hd} (h : headsR l = true) : l.length ≤ 8 ∧ ∀ x ∈ l, hdR x = true := by
  unfold headsR at h
  rw [Bool.and_eq_true] at h
  obtain ⟨h1, h2⟩ := h
  refine ⟨of_decide_eq_true h1, fun x hx => ?_⟩
  rw [List.all_eq_true] at h2
  obtain ⟨i, hi, rfl⟩ := List.getElem_of_mem hx
  have := h2 i (by simpa using hi)
  unfold hdAt at this
  rw [Bool.and_eq_true] at this
  have g : l.getD i hd0 = l[i] := by simp [List.getD, hi]
  rw [g] at this
  exact this.2
theorem hdR_nn {h : Hd} (H : hdR h = true) : 0 ≤ h.len := by
  unfold hdR at H
  simp only [Bool.and_eq_true, decide_eq_true_eq] at H
  exact H.1.1.1
theorem hdI_of {h : Hd} (H : hdR h = true) (hs : HdS h) : HdI h := ⟨hdR_nn H, hs.au.2, hs.id.2⟩
theorem msgR_facts {m : Msg} (h : msgR m = true) : (0 ≤ m.frm ∧ m.frm < 8) ∧ (0 ≤ m.to ∧ m.to < 8) ∧ m.frm ≠ m.to ∧
    ((m.kind = 1 ∧ headsR m.hs = true ∧ m.ps = [] ∧ m.es = []) ∨ (m.kind = 2 ∧ m.hs = [] ∧ m.ps.length + m.es.length ≤ 4 ∧ (∀ p ∈ m.ps, prfR p = true) ∧ ∀ e ∈ m.es, entR e = true)) := by
  unfold msgR at h
  rw [Bool.and_eq_true] at h
  obtain ⟨h1, h2⟩ := h
  unfold whoR at h1
  simp only [Bool.and_eq_true, decide_eq_true_eq] at h1
  refine ⟨⟨h1.1.1.1.1, h1.1.1.1.2⟩, ⟨h1.1.1.2, h1.1.2⟩, h1.2, ?_⟩
  split at h2
  · rename_i k
    simp only [Bool.and_eq_true, decide_eq_true_eq] at h2
    left
    exact ⟨k, h2.1, List.length_eq_zero_iff.1 (by omega), List.length_eq_zero_iff.1 (by omega)⟩
  · split at h2
    · rename_i k
      simp only [Bool.and_eq_true, decide_eq_true_eq, Bool.not_eq_true', List.any_eq_false] at h2
      right
      refine ⟨k, List.length_eq_zero_iff.1 h2.1.1.1.1, by omega, fun p hp => ?_, fun p hp => ?_⟩
      · have := h2.1.2 p hp; revert this; cases prfR p <;> simp
      · have := h2.2 p hp; revert this; cases entR p <;> simp
    · cases h2
theorem msgB_yes {m : Msg} (hm : MsgS m) (hr : msgR m = true) : ∃ a, encR validR (msgT m) = (a, 0) := by
  obtain ⟨h1, h2, _, h3⟩ := msgR_facts hr
  unfold msgT
  rcases h3 with ⟨k, hh, _, _⟩ | ⟨k, _, hl, hp, he⟩
  · rw [if_pos k]
    have F := headsR_facts hh
    exact ⟨_, fr_yes h1.1 h2.1 F.1 fun h hx => hdI_of (F.2 h hx) (hm.hs h hx)⟩
  · rw [if_neg (by omega)]
    exact ⟨_, an_yes h1.1 h2.1 (by omega) (by omega) hm.ps hm.es⟩
theorem msgB_err {m : Msg} (hm : MsgS m) : decide ((msgB m).2 = 0) = msgR m := by
  unfold msgB
  cases hr : msgR m
  · rfl
  · obtain ⟨a, ha⟩ := msgB_yes hm hr
    rw [if_pos rfl, ha]; rfl
theorem msgB_or (m : Msg) : msgB m = ([], 1) ∨ ∃ a, msgB m = (a, 0) := by
  unfold msgB
  split
  · exact encR_or _ _
  · exact .inl rfl
end Go.Proofs.YtelnlfhdaelfdaaDoor.Abs
end
section
set_option linter.unusedVariables false
set_option linter.unusedSimpArgs false
namespace Go.Proofs.YtelnlfhdaelfdaaDoor.Abs
open Go
def Nn (l : List Tok) : Prop := ∀ t ∈ l, Norm t ∧ 0 ≤ t.n
theorem nn_tail {t : Tok} {q : List Tok} (h : Nn (t :: q)) : Nn q := fun s hs => h s (List.mem_cons_of_mem _ hs)
theorem good1 {k : Int} {r : Rw} (h : (rNext k r).2.bad = false) : r.bad = false := by
  obtain ⟨t, q, e, _⟩ := rNext_inv h
  rw [e]
theorem goodA {m : Nat} {r : Rw} (h : (rArr m r).2.bad = false) : r.bad = false := by
  obtain ⟨t, q, e, _⟩ := rArr_inv h
  rw [e]
theorem num_inv {k : Int} (hk : k ≠ 3 ∧ k ≠ 4) {l : List Tok} (hn : Nn l) (h : (rNext k ⟨l, false⟩).2.bad = false) : ∃ n q, 0 ≤ n ∧ l = ⟨k, n, []⟩ :: q ∧ rNext k ⟨l, false⟩ = (⟨k, n, []⟩, ⟨q, false⟩) ∧ Nn q := by
  obtain ⟨t, q, e, hk', hx⟩ := rNext_inv h
  injection e with e _
  subst e
  have N := hn t List.mem_cons_self
  have := tok_eq' N.1 (by omega)
  rw [hk'] at this
  refine ⟨t.n, q, N.2, by rw [← this], ?_, nn_tail hn⟩
  rw [hx, ← this]
theorem str_inv {l : List Tok} (hn : Nn l) (h : (rNext 3 ⟨l, false⟩).2.bad = false) : ∃ b q, l = ⟨3, 0, b⟩ :: q ∧ rNext 3 ⟨l, false⟩ = (⟨3, 0, b⟩, ⟨q, false⟩) ∧ Nn q := by
  obtain ⟨t, q, e, hk', hx⟩ := rNext_inv h
  injection e with e _
  subst e
  have N := hn t List.mem_cons_self
  have := tok_eq N.1 (by omega)
  rw [hk'] at this
  refine ⟨t.b, q, by rw [← this], ?_, nn_tail hn⟩
  rw [hx, ← this]
theorem arr_inv {m : Nat} {l : List Tok} (hn : Nn l) (h : (rArr m ⟨l, false⟩).2.bad = false) : ∃ b q, b.length = m ∧ l = ⟨3, 0, b⟩ :: q ∧ rArr m ⟨l, false⟩ = (b, ⟨q, false⟩) ∧ Nn q := by
  obtain ⟨t, q, e, hk', hm, hx⟩ := rArr_inv h
  injection e with e _
  subst e
  have N := hn t List.mem_cons_self
  have := tok_eq N.1 (by omega)
  rw [hk'] at this
  refine ⟨t.b, q, hm, by rw [← this], ?_, nn_tail hn⟩
  rw [hx]
theorem rNext_lit (k n : Int) (b : List Int) (q : List Tok) : rNext k ⟨⟨k, n, b⟩ :: q, false⟩ = (⟨k, n, b⟩, ⟨q, false⟩) := rNext_cons rfl
theorem rdHd_eq (r : Rw) : rdHd r = (⟨(rArr 32 r).1, (rNext 1 (rArr 32 r).2).1.n, (rArr 32 (rNext 1 (rArr 32 r).2).2).1, decide ((rNext 1 (rArr 32 (rNext 1 (rArr 32 r).2).2).2).1.n = 1)⟩,
    ⟨(rNext 1 (rArr 32 (rNext 1 (rArr 32 r).2).2).2).2.l, (rNext 1 (rArr 32 (rNext 1 (rArr 32 r).2).2).2).2.bad || decide (1 < (rNext 1 (rArr 32 (rNext 1 (rArr 32 r).2).2).2).1.n)⟩) := rfl
theorem bitR_is (b : Bool) : decide (bitR b = 1) = b := by cases b <;> decide
theorem rdHd_cons (h : Hd) (h1 : h.au.length = 32) (h2 : h.id.length = 32) (q : List Tok) : rdHd ⟨⟨3, 0, h.au⟩ :: ⟨1, h.len, []⟩ :: ⟨3, 0, h.id⟩ :: ⟨1, bitR h.shut, []⟩ :: q, false⟩ = (h, ⟨q, false⟩) := by
  rw [rdHd_eq, rArr_cons rfl h1]; dsimp only
  rw [rNext_lit]; dsimp only
  rw [rArr_cons rfl h2]; dsimp only
  rw [rNext_lit]; dsimp only
  rw [bitR_is]
  have : ¬ 1 < bitR h.shut := by unfold bitR; split <;> omega
  simp [this]
theorem rdHd_inv {l : List Tok} (hn : Nn l) (h : (rdHd ⟨l, false⟩).2.bad = false) : ∃ x q, (x.au.length = 32 ∧ x.id.length = 32) ∧ l = ⟨3, 0, x.au⟩ :: ⟨1, x.len, []⟩ :: ⟨3, 0, x.id⟩ :: ⟨1, bitR x.shut, []⟩ :: q ∧ rdHd ⟨l, false⟩ = (x, ⟨q, false⟩) ∧ Nn q := by
  rw [rdHd_eq] at h
  simp only [Bool.or_eq_false_iff, decide_eq_false_iff_not] at h
  obtain ⟨g4, gs⟩ := h
  have g3 := good1 g4
  have g2 := goodA g3
  have g1 := good1 g2
  obtain ⟨au, q1, m1, rfl, e1, n1⟩ := arr_inv hn g1
  rw [e1] at g2 g3 g4 gs
  dsimp only at g2 g3 g4 gs
  obtain ⟨n, q2, m2, rfl, e2, n2⟩ := num_inv (by omega) n1 g2
  rw [e2] at g3 g4 gs
  dsimp only at g3 g4 gs
  obtain ⟨id, q3, m3, rfl, e3, n3⟩ := arr_inv n2 g3
  rw [e3] at g4 gs
  dsimp only at g4 gs
  obtain ⟨s, q4, m4, rfl, e4, n4⟩ := num_inv (by omega) n3 g4
  rw [e4] at gs
  dsimp only at gs
  have hb : bitR (decide (s = 1)) = s := by
    unfold bitR
    by_cases c : s = 1
    · rw [if_pos (by simpa using c)]; omega
    · rw [if_neg (by simpa using c)]; omega
  refine ⟨⟨au, n, id, decide (s = 1)⟩, q4, ⟨m1, m3⟩, by rw [hb], ?_, n4⟩
  have := rdHd_cons ⟨au, n, id, decide (s = 1)⟩ m1 m3 q4
  rw [hb] at this
  exact this
theorem frLoop_hds : ∀ (l acc : List Hd) (q : List Tok), (∀ h ∈ l, h.au.length = 32 ∧ h.id.length = 32) → frLoop l.length ⟨hdsT l ++ q, false⟩ acc = (acc ++ l, ⟨q, false⟩)
  | [], acc, q, _ => by simp [frLoop, hdsT]
  | h :: r, acc, q, H => by
    have h0 := H h List.mem_cons_self
    rw [List.length_cons, frLoop_s, if_neg (by simp)]
    have e : hdsT (h :: r) ++ q = ⟨5, 4, []⟩ :: ⟨3, 0, h.au⟩ :: ⟨1, h.len, []⟩ :: ⟨3, 0, h.id⟩ :: ⟨1, bitR h.shut, []⟩ :: (hdsT r ++ q) := by simp [hdsT, hdT]
    rw [e, rNext_lit]
    dsimp only
    rw [if_neg (by simp), rdHd_cons h h0.1 h0.2]
    dsimp only
    rw [frLoop_hds r (acc ++ [h]) q fun x hx => H x (List.mem_cons_of_mem _ hx)]
    simp
theorem frLoop_good : ∀ (k : Nat) (r : Rw) (acc : List Hd), (frLoop k r acc).2.bad = false → r.bad = false
  | 0, r, acc, h => h
  | k + 1, r, acc, h => by
    rw [frLoop_s] at h
    cases hb : r.bad
    · rfl
    · rw [if_pos hb] at h
      dsimp only at h
      rw [hb] at h; cases h
theorem frLoop_inv' : ∀ (k : Nat) (l : List Tok) (acc : List Hd), Nn l → (frLoop k ⟨l, false⟩ acc).2.bad = false → ∃ hs q, hs.length = k ∧ l = hdsT hs ++ q ∧ frLoop k ⟨l, false⟩ acc = (acc ++ hs, ⟨q, false⟩) ∧ Nn q
  | 0, l, acc, hn, h => ⟨[], l, rfl, rfl, by rw [List.append_nil]; rfl, hn⟩
  | k + 1, l, acc, hn, h => by
    rw [frLoop_s, if_neg (by simp)] at h
    split at h
    · cases h
    rename_i c
    have g2 := frLoop_good k _ _ h
    have g2' : (rdHd (rNext 5 ⟨l, false⟩).2).2.bad = false := g2
    have g1 : (rNext 5 ⟨l, false⟩).2.bad = false := by
      rw [rdHd_eq] at g2'
      simp only [Bool.or_eq_false_iff] at g2'
      exact goodA (good1 (goodA (good1 g2'.1)))
    obtain ⟨n, q1, m1, rfl, e1, n1⟩ := num_inv (by omega) hn g1
    rw [e1] at c h g2'
    dsimp only at c h g2'
    obtain ⟨x, q2, m2, rfl, e2, n2⟩ := rdHd_inv n1 g2'
    rw [e2] at h
    dsimp only at h
    obtain ⟨hs, q3, m3, rfl, e3, n3⟩ := frLoop_inv' k _ _ n2 h
    have c' : n = 4 := Classical.not_not.1 c
    subst c'
    refine ⟨x :: hs, q3, by simp [m3], by simp [hdsT, hdT], ?_, n3⟩
    rw [frLoop_s, if_neg (by simp), e1]
    dsimp only
    rw [if_neg (by simp), e2]
    dsimp only
    rw [e3]
    simp
theorem anLoop_strs {α : Type} {rd : List Int → α × Int} {f : α → List Int} : ∀ (l acc : List α) (q : List Tok), (∀ p ∈ l, rd (f p) = (p, 0)) → anLoop rd l.length ⟨(l.map fun p => ⟨3, 0, f p⟩) ++ q, false⟩ acc = (acc ++ l, ⟨q, false⟩)
  | [], acc, q, _ => by simp [anLoop]
  | p :: r, acc, q, H => by
    have h0 := H p List.mem_cons_self
    rw [List.length_cons, anLoop_s, if_neg (by simp), List.map_cons, List.cons_append, rNext_lit]
    dsimp only
    rw [h0]
    have := anLoop_strs (rd := rd) (f := f) r (acc ++ [p]) q fun x hx => H x (List.mem_cons_of_mem _ hx)
    simpa using this
theorem anLoop_good {α : Type} {rd : List Int → α × Int} : ∀ (k : Nat) (r : Rw) (acc : List α), (anLoop rd k r acc).2.bad = false → r.bad = false
  | 0, r, acc, h => h
  | k + 1, r, acc, h => by
    rw [anLoop_s] at h
    cases hb : r.bad
    · rfl
    · rw [if_pos hb] at h
      dsimp only at h
      rw [hb] at h; cases h
theorem anLoop_inv' {α : Type} {rd : List Int → α × Int} {f : α → List Int} (hrd : ∀ b, (rd b).2 = 0 → f (rd b).1 = b) : ∀ (k : Nat) (l : List Tok) (acc : List α), Nn l → (anLoop rd k ⟨l, false⟩ acc).2.bad = false →
    ∃ ps q, ps.length = k ∧ l = (ps.map fun p => ⟨3, 0, f p⟩) ++ q ∧ anLoop rd k ⟨l, false⟩ acc = (acc ++ ps, ⟨q, false⟩) ∧ Nn q
  | 0, l, acc, hn, h => ⟨[], l, rfl, rfl, by rw [List.append_nil]; rfl, hn⟩
  | k + 1, l, acc, hn, h => by
    rw [anLoop_s, if_neg (by simp)] at h
    have g2 := anLoop_good k _ _ h
    dsimp only at g2
    simp only [Bool.or_eq_false_iff, decide_eq_false_iff_not] at g2
    obtain ⟨g1, g3⟩ := g2
    obtain ⟨b, q1, rfl, e1, n1⟩ := str_inv hn g1
    rw [e1] at h g3
    dsimp only at h g3
    have g3 : (rd b).2 = 0 := Classical.not_not.1 g3
    rw [g3] at h
    simp only [Bool.false_or, ne_eq, not_true_eq_false, decide_false] at h
    obtain ⟨ps, q2, m2, rfl, e2, n2⟩ := anLoop_inv' hrd k _ _ n1 h
    refine ⟨(rd b).1 :: ps, q2, by simp [m2], by simp [hrd b g3], ?_, n2⟩
    rw [anLoop_s, if_neg (by simp), e1]
    dsimp only
    rw [g3]
    simp only [Bool.false_or, ne_eq, not_true_eq_false, decide_false]
    rw [e2]
    simp
theorem rdM_eq (r : Rw) : rdM r = if (rNext 5 r).1.n = 4 ∧ (rNext 1 (rNext 5 r).2).1.n = 3 then rdFin (rdFr (rNext 1 (rNext 5 r).2).2) else if (rNext 5 r).1.n = 5 ∧ (rNext 1 (rNext 5 r).2).1.n = 4 then rdFin (rdAn (rNext 1 (rNext 5 r).2).2) else (msg0, 3) := rfl
theorem rdFr_eq (r : Rw) : rdFr r = (⟨1, (rNext 1 r).1.n, (rNext 1 (rNext 1 r).2).1.n, (frLoop (rNext 5 (rNext 1 (rNext 1 r).2).2).1.n.toNat (rNext 5 (rNext 1 (rNext 1 r).2).2).2 []).1, [], []⟩, (frLoop (rNext 5 (rNext 1 (rNext 1 r).2).2).1.n.toNat (rNext 5 (rNext 1 (rNext 1 r).2).2).2 []).2) := rfl
theorem rdAn_eq (r : Rw) : rdAn r = (⟨2, (rNext 1 r).1.n, (rNext 1 (rNext 1 r).2).1.n, [], (anLoop rdPrf (rNext 5 (rNext 1 (rNext 1 r).2).2).1.n.toNat (rNext 5 (rNext 1 (rNext 1 r).2).2).2 []).1,
      (anLoop rdEnt (rNext 5 (anLoop rdPrf (rNext 5 (rNext 1 (rNext 1 r).2).2).1.n.toNat (rNext 5 (rNext 1 (rNext 1 r).2).2).2 []).2).1.n.toNat (rNext 5 (anLoop rdPrf (rNext 5 (rNext 1 (rNext 1 r).2).2).1.n.toNat (rNext 5 (rNext 1 (rNext 1 r).2).2).2 []).2).2 []).1⟩,
      (anLoop rdEnt (rNext 5 (anLoop rdPrf (rNext 5 (rNext 1 (rNext 1 r).2).2).1.n.toNat (rNext 5 (rNext 1 (rNext 1 r).2).2).2 []).2).1.n.toNat (rNext 5 (anLoop rdPrf (rNext 5 (rNext 1 (rNext 1 r).2).2).1.n.toNat (rNext 5 (rNext 1 (rNext 1 r).2).2).2 []).2).2 []).2) := rfl
theorem rdFin_or (q : Msg × Rw) : rdFin q = (msg0, 3) ∨ (rdFin q = (q.1, 0) ∧ q.2 = ⟨[], false⟩ ∧ msgR q.1 = true) := by
  unfold rdFin
  split
  · rename_i c
    split
    · rename_i d
      refine .inr ⟨rfl, ?_, d⟩
      simp only [Bool.and_eq_true, Bool.not_eq_true', decide_eq_true_eq] at c
      obtain ⟨m, l, b⟩ := q
      dsimp only at c ⊢
      rw [c.1, c.2]
    · exact .inl rfl
  · exact .inl rfl
theorem rdFin_yes {m : Msg} (h : msgR m = true) : rdFin (m, ⟨[], false⟩) = (m, 0) := by
  unfold rdFin
  rw [if_pos (by simp), if_pos h]
theorem rdM_or (r : Rw) : rdM r = (msg0, 3) ∨ (rdM r).2 = 0 := by
  rw [rdM_eq]
  split
  · rcases rdFin_or (rdFr (rNext 1 (rNext 5 r).2).2) with h | h
    · exact .inl h
    · exact .inr (by rw [h.1])
  split
  · rcases rdFin_or (rdAn (rNext 1 (rNext 5 r).2).2) with h | h
    · exact .inl h
    · exact .inr (by rw [h.1])
  · exact .inl rfl
theorem rdMsg_or (b : List Int) : rdMsg b = (msg0, 3) ∨ (rdMsg b).2 = 0 := rdM_or _
theorem rdM_inv {l : List Tok} {bad : Bool} (hn : Nn l) (h : (rdM ⟨l, bad⟩).2 = 0) : bad = false ∧ l = msgT (rdM ⟨l, bad⟩).1 ∧ msgR (rdM ⟨l, bad⟩).1 = true := by
  rw [rdM_eq] at h ⊢
  split
  · rename_i c
    rw [if_pos c] at h
    rcases rdFin_or (rdFr (rNext 1 (rNext 5 ⟨l, bad⟩).2).2) with e | ⟨e, e2, e3⟩
    · rw [e] at h; cases h
    rw [e]
    dsimp only
    refine ⟨?_, ?_, e3⟩
    · rw [rdFr_eq] at e2
      have g := frLoop_good _ _ _ (by rw [e2])
      exact good1 (good1 (good1 (good1 (good1 g))))
    · have g : (rdFr (rNext 1 (rNext 5 ⟨l, bad⟩).2).2).2.bad = false := by rw [e2]
      rw [rdFr_eq] at g
      have g5 := frLoop_good _ _ _ g
      have g4 := good1 g5
      have g3 := good1 g4
      have g2 := good1 g3
      have g1 := good1 g2
      have g0 := good1 g1
      dsimp only at g0
      subst g0
      obtain ⟨a1, q1, m1, rfl, x1, n1⟩ := num_inv (by omega) hn g1
      rw [x1] at c e2 g g2 g3 g4 g5 ⊢
      dsimp only at c e2 g g2 g3 g4 g5 ⊢
      obtain ⟨a2, q2, m2, rfl, x2, n2⟩ := num_inv (by omega) n1 g2
      rw [x2] at c e2 g g3 g4 g5 ⊢
      dsimp only at c e2 g g3 g4 g5 ⊢
      rw [rdFr_eq] at e2 ⊢
      obtain ⟨a3, q3, m3, rfl, x3, n3⟩ := num_inv (by omega) n2 g3
      rw [x3] at e2 g g4 g5 ⊢
      dsimp only at e2 g g4 g5 ⊢
      obtain ⟨a4, q4, m4, rfl, x4, n4⟩ := num_inv (by omega) n3 g4
      rw [x4] at e2 g g5 ⊢
      dsimp only at e2 g g5 ⊢
      obtain ⟨a5, q5, m5, rfl, x5, n5⟩ := num_inv (by omega) n4 g5
      rw [x5] at e2 g ⊢
      dsimp only at e2 g ⊢
      obtain ⟨hs, q6, m6, rfl, x6, n6⟩ := frLoop_inv' _ _ _ n5 g
      rw [x6] at e2 ⊢
      dsimp only at e2 ⊢
      injection e2 with e2 _
      subst e2
      obtain ⟨rfl, rfl⟩ := c
      have : (hs.length : Int) = a5 := by omega
      unfold msgT
      rw [if_pos rfl]
      simp [frT, this]
  · rename_i c0
    rw [if_neg c0] at h
    clear c0
    split
    · rename_i c
      rw [if_pos c] at h
      rcases rdFin_or (rdAn (rNext 1 (rNext 5 ⟨l, bad⟩).2).2) with e | ⟨e, e2, e3⟩
      · rw [e] at h; cases h
      rw [e]
      dsimp only
      refine ⟨?_, ?_, e3⟩
      · rw [rdAn_eq] at e2
        have g := anLoop_good _ _ _ (by rw [e2])
        have g := anLoop_good _ _ _ (good1 g)
        exact good1 (good1 (good1 (good1 (good1 g))))
      · have g : (rdAn (rNext 1 (rNext 5 ⟨l, bad⟩).2).2).2.bad = false := by rw [e2]
        rw [rdAn_eq] at g
        have g7 := anLoop_good _ _ _ g
        have g6 := good1 g7
        have g5 := anLoop_good _ _ _ g6
        have g4 := good1 g5
        have g3 := good1 g4
        have g2 := good1 g3
        have g1 := good1 g2
        have g0 := good1 g1
        dsimp only at g0
        subst g0
        obtain ⟨a1, q1, m1, rfl, x1, n1⟩ := num_inv (by omega) hn g1
        rw [x1] at c e2 g g2 g3 g4 g5 g6 g7 ⊢
        dsimp only at c e2 g g2 g3 g4 g5 g6 g7 ⊢
        obtain ⟨a2, q2, m2, rfl, x2, n2⟩ := num_inv (by omega) n1 g2
        rw [x2] at c e2 g g3 g4 g5 g6 g7 ⊢
        dsimp only at c e2 g g3 g4 g5 g6 g7 ⊢
        rw [rdAn_eq] at e2 ⊢
        obtain ⟨a3, q3, m3, rfl, x3, n3⟩ := num_inv (by omega) n2 g3
        rw [x3] at e2 g g4 g5 g6 g7 ⊢
        dsimp only at e2 g g4 g5 g6 g7 ⊢
        obtain ⟨a4, q4, m4, rfl, x4, n4⟩ := num_inv (by omega) n3 g4
        rw [x4] at e2 g g5 g6 g7 ⊢
        dsimp only at e2 g g5 g6 g7 ⊢
        obtain ⟨a5, q5, m5, rfl, x5, n5⟩ := num_inv (by omega) n4 g5
        rw [x5] at e2 g g6 g7 ⊢
        dsimp only at e2 g g6 g7 ⊢
        obtain ⟨ps, q6, m6, rfl, x6, n6⟩ := anLoop_inv' (f := fun p => (prfB p).1) (fun b hb => by rw [(rdPrf_inv hb).1]) _ _ _ n5 g6
        rw [x6] at e2 g g7 ⊢
        dsimp only at e2 g g7 ⊢
        obtain ⟨a7, q7, m7, rfl, x7, n7⟩ := num_inv (by omega) n6 g7
        rw [x7] at e2 g ⊢
        dsimp only at e2 g ⊢
        obtain ⟨es, q8, m8, rfl, x8, n8⟩ := anLoop_inv' (f := fun p => (entB p).1) (fun b hb => by rw [entB_read hb]) _ _ _ n7 g
        rw [x8] at e2 ⊢
        dsimp only at e2 ⊢
        injection e2 with e2 _
        subst e2
        obtain ⟨rfl, rfl⟩ := c
        have y1 : (ps.length : Int) = a5 := by omega
        have y2 : (es.length : Int) = a7 := by omega
        unfold msgT
        rw [if_neg (by simp)]
        simp [anT, prT, enT, y1, y2]
    · rename_i c
      rw [if_neg c] at h
      cases h
/-- What is read was written so. -/
theorem rdMsg_inv {b : List Int} (hb : Byt b) (h : (rdMsg b).2 = 0) : msgR (rdMsg b).1 = true ∧ encR validR (msgT (rdMsg b).1) = (b, 0) := by
  have N1 := rOpen_norm b
  have N2 := rOpen_nn b hb
  have G := rOpen_good (b := b)
  unfold rdMsg at h ⊢
  generalize hr : rOpen b = r at h N1 N2 G ⊢
  obtain ⟨l, bad⟩ := r
  have i := rdM_inv (fun t ht => ⟨N1 t ht, N2 t ht⟩) h
  refine ⟨i.2.2, ?_⟩
  rw [← i.2.1]
  exact (G i.1).1
theorem msgT_toks {m : Msg} (hm : MsgS m) : ToksOk (msgT m) := by
  unfold msgT
  split
  · exact fun t ht => (fr_tokB hm t ht).1
  · exact fun t ht => (an_tokB hm t ht).1
/-- What is written is read. -/
theorem rdMsg_enc {m : Msg} (hm : MsgS m) (hr : msgR m = true) {a : List Int} (h : encR validR (msgT m) = (a, 0)) : rdMsg a = (m, 0) := by
  unfold rdMsg
  rw [rOpen_enc (msgT_toks hm) h]
  obtain ⟨_, _, _, h3⟩ := msgR_facts hr
  unfold msgT
  rcases h3 with ⟨k, hh, h4, h5⟩ | ⟨k, h4, hl, hp, he⟩
  · rw [if_pos k]
    obtain ⟨kind, frm, to, hs, ps, es⟩ := m
    dsimp only at k h4 h5
    subst k h4 h5
    have e : frT ⟨1, frm, to, hs, [], []⟩ ++ hdsT hs = ⟨5, 4, []⟩ :: ⟨1, 3, []⟩ :: ⟨1, frm, []⟩ :: ⟨1, to, []⟩ :: ⟨5, hs.length, []⟩ :: (hdsT hs ++ []) := by simp [frT]
    rw [rdM_eq]
    dsimp only
    rw [e, rNext_lit]; dsimp only
    rw [rNext_lit]; dsimp only
    rw [if_pos (by simp), rdFr_eq, rNext_lit]; dsimp only
    rw [rNext_lit]; dsimp only
    rw [rNext_lit]; dsimp only
    rw [Int.toNat_natCast, frLoop_hds hs [] [] fun h hx => ⟨(hm.hs h hx).au.2, (hm.hs h hx).id.2⟩]
    exact rdFin_yes hr
  · rw [if_neg (by omega)]
    obtain ⟨kind, frm, to, hs, ps, es⟩ := m
    dsimp only at k h4 hp he
    subst k h4
    have e : anT ⟨2, frm, to, [], ps, es⟩ ++ prT ps ++ [⟨5, es.length, []⟩] ++ enT es = ⟨5, 5, []⟩ :: ⟨1, 4, []⟩ :: ⟨1, frm, []⟩ :: ⟨1, to, []⟩ :: ⟨5, ps.length, []⟩ :: (prT ps ++ (⟨5, es.length, []⟩ :: (enT es ++ []))) := by simp [anT]
    rw [rdM_eq]
    dsimp only
    rw [e, rNext_lit]; dsimp only
    rw [rNext_lit]; dsimp only
    rw [if_neg (by simp), if_pos (by simp), rdAn_eq, rNext_lit]; dsimp only
    rw [rNext_lit]; dsimp only
    rw [rNext_lit]; dsimp only
    have ep := anLoop_strs (rd := rdPrf) (f := fun p => (prfB p).1) ps [] (⟨5, es.length, []⟩ :: (enT es ++ [])) fun p hx => rdPrf_bytes (hm.ps p hx) (by rw [prfB_yes (hm.ps p hx) (hp p hx)])
    have ee := anLoop_strs (rd := rdEnt) (f := fun p => (entB p).1) es [] [] fun p hx => rdEnt_bytes (hm.es p hx) (by rw [entB_yes (hm.es p hx) (he p hx)])
    change anLoop rdPrf ps.length ⟨prT ps ++ _, false⟩ [] = _ at ep
    change anLoop rdEnt es.length ⟨enT es ++ _, false⟩ [] = _ at ee
    rw [Int.toNat_natCast, ep]
    dsimp only
    rw [rNext_lit]; dsimp only
    rw [Int.toNat_natCast, ee]
    exact rdFin_yes hr
theorem rdMsg_bytes {m : Msg} (hm : MsgS m) (h : (msgB m).2 = 0) : msgR m = true ∧ rdMsg (msgB m).1 = (m, 0) := by
  have e := msgB_err hm
  rw [h] at e
  have hr : msgR m = true := by rw [← e]; rfl
  refine ⟨hr, ?_⟩
  obtain ⟨a, ha⟩ := msgB_yes hm hr
  unfold msgB
  rw [if_pos hr, ha]
  exact rdMsg_enc hm hr ha
theorem msgB_toks {m : Msg} (h : (msgB m).2 = 0) : msgR m = true ∧ encR validR (msgT m) = ((msgB m).1, 0) := by
  unfold msgB at h ⊢
  split at h
  · rename_i c
    rw [if_pos c]
    exact ⟨c, Prod.ext rfl h⟩
  · cases h
/-- Cut short, or with more, they are none. -/
theorem rdMsg_no {b : List Int} (h : decR validR b = ([], 3)) : rdMsg b = (msg0, 3) := by
  unfold rdMsg rOpen
  rw [h]
  rfl
theorem rdMsg_cut {m : Msg} (hm : MsgS m) (h : (msgB m).2 = 0) (n : Nat) (hn : n < (msgB m).1.length) : rdMsg ((msgB m).1.take n) = (msg0, 3) :=
  rdMsg_no (decR_cut (msgT_toks hm) (by have := encR_byt _ (msgT_toks hm); rwa [(msgB_toks h).2] at this) (msgB_toks h).2 n hn)
theorem rdMsg_more {m : Msg} (hm : MsgS m) (h : (msgB m).2 = 0) (x : Int) : rdMsg ((msgB m).1 ++ [x]) = (msg0, 3) :=
  rdMsg_no (decR_more (msgT_toks hm) (msgB_toks h).2 [x] (by simp))
theorem msgB_inj {m k : Msg} (hm : MsgS m) (hk : MsgS k) (h1 : (msgB m).2 = 0) (h2 : (msgB k).2 = 0) : decide ((msgB m).1 = (msgB k).1) = decide (m = k) := by
  have a := (rdMsg_bytes hm h1).2
  have b := (rdMsg_bytes hk h2).2
  by_cases c : m = k
  · rw [c]; simp
  · rw [decide_eq_false c, decide_eq_false]
    intro e
    rw [e, b] at a
    exact c (by injection a with a _; exact a.symm)
theorem msgB_pos {m : Msg} (hm : MsgS m) (h : (msgB m).2 = 0) : 0 < (msgB m).1.length := enc_pos (msgT_toks hm) (msgB_toks h).2
end Go.Proofs.YtelnlfhdaelfdaaDoor.Abs
end
section
set_option linter.unusedVariables false
set_option linter.unusedSimpArgs false
namespace Go.Proofs.YtelnlfhdaelfdaaDoor.Abs
open Go
theorem roOf_own {E' : Env} {Z : Nat → Prop} {len esz : Nat} {cs : List AV} {u : Value} {Y : List Nat} (hV : ∀ b, Z b → E'.V b) (hZ : ∀ b ∈ Y, ¬ Z b) (h : RepB E' (.own len esz cs) u Y) :
    RepB ⟨E'.η, E'.ρ, Z, E'.w⟩ (.ro len cs) u [] := by
  simp only [RepB] at h ⊢
  obtain ⟨hp, a, cap, rfl, hl, hc⟩ := h
  refine ⟨by simpa [pureV] using hp, ?_, trivial⟩
  simp only [RepV]
  refine ⟨a, cap, rfl, hl, ?_⟩
  rcases hc with ⟨_, hcs, _⟩ | ⟨n, c, e, fr, rfl, rfl, hh, _, _, hcl, hr⟩
  · exact .inl hcs
  · refine .inr ⟨n, 0, rfl, hZ n (by simp), ?_⟩
    refine repM_of_get _ _ _ fun j x hx => ?_
    have hr' := pureL_rep (E := E') (E' := ⟨E'.η, E'.ρ, Z, E'.w⟩) ⟨rfl, rfl⟩ hV cs _ hp hr
    obtain ⟨u, hu, hru⟩ := repL_get _ _ hr' j x hx
    have hj : j < cs.length := by
      rcases Nat.lt_or_ge j cs.length with h' | h'
      · exact h'
      · rw [List.getElem?_eq_none h'] at hx; cases hx
    rw [List.getElem?_take_of_lt hj, Array.getElem?_toList] at hu
    exact ⟨u, by simp [World.cell?, hh, hu], hru⟩
theorem ACall.roRes {P : Program} {f : FuncId} {args : List AV} {len esz : Nat} {cs : List AV} (h : ACall P f args (.own len esz cs) []) : ACall P f args (.ro len cs) [] := by
  refine ⟨h.1, fun Z E vals X hh hr hn hz => ?_⟩
  refine (h.2 Z E vals X hh hr hn hz).mono ?_
  rintro e w' ⟨v, E', Xr, he, hw, hη, hev, hV, hB, hnd, hX⟩
  refine ⟨v, ⟨E'.η, E'.ρ, Z, E'.w⟩, [], he, hw, hη, hev, fun b => by simp, ?_, List.nodup_nil, fun b hb => absurd hb (List.not_mem_nil)⟩
  simp only [List.nil_append, RepBL] at hB ⊢
  obtain ⟨u, us, Y, Y', e1, e2, h1, h2, h3⟩ := hB
  refine ⟨u, us, [], [], e1, rfl, ?_, h2, rfl⟩
  exact roOf_own (fun b hb => (hV b).2 (.inl hb)) (fun b hb => (hX b (by rw [e2]; exact List.mem_append_left _ hb)).1) h1
/-- The same of a pair. -/
theorem ACall.roRes2 {P : Program} {f : FuncId} {args : List AV} {len esz : Nat} {cs : List AV} {y : AV} (hy : (∃ k n, y = .int k n) ∨ ∃ b, y = .bool b) (h : ACall P f args (.tuple [.own len esz cs, y]) []) : ACall P f args (.tuple [.ro len cs, y]) [] := by
  refine ⟨h.1, fun Z E vals X hh hr hn hz => ?_⟩
  refine (h.2 Z E vals X hh hr hn hz).mono ?_
  rintro e w' ⟨v, E', Xr, he, hw, hη, hev, hV, hB, hnd, hX⟩
  refine ⟨v, ⟨E'.η, E'.ρ, Z, E'.w⟩, [], he, hw, hη, hev, fun b => by simp, ?_, List.nodup_nil, fun b hb => absurd hb (List.not_mem_nil)⟩
  simp only [List.nil_append, RepBL] at hB ⊢
  obtain ⟨u, us, Y, Y', e1, e2, h1, h2, h3⟩ := hB
  refine ⟨u, us, [], [], e1, rfl, ?_, h2, rfl⟩
  simp only [RepB, RepBL] at h1 ⊢
  obtain ⟨vs, rfl, u1, us1, Y1, Y2, f1, f2, k1, u2, us2, Y3, Y4, f3, f4, k2, k3, k4⟩ := h1
  refine ⟨vs, rfl, u1, us1, [], [], f1, rfl, ?_, u2, us2, [], [], f3, rfl, ?_, k3, rfl⟩
  · exact roOf_own (fun b hb => (hV b).2 (.inl hb)) (fun b hb => (hX b (by rw [e2, f2]; exact List.mem_append_left _ (List.mem_append_left _ hb))).1) k1
  · rcases hy with ⟨k, n, rfl⟩ | ⟨b, rfl⟩
    · simp only [RepB, pureV, RepV] at k2 ⊢
      exact ⟨trivial, k2.2.1, trivial⟩
    · simp only [RepB, pureV, RepV] at k2 ⊢
      exact ⟨trivial, k2.2.1, trivial⟩
end Go.Proofs.YtelnlfhdaelfdaaDoor.Abs
end
section
--KR
set_option linter.unusedVariables false
set_option linter.unusedSimpArgs false
namespace Go.Proofs.YtelnlfhdaelfdaaDoor.Abs
open Go
attribute [local irreducible] ifB fitP Does Weaker
def MK : FuncId → List Mode := orElse [(109, [.rd, .rd]), (88, [.rd, .rd]), (87, [.rd, .rd]), (45, [.rd, .rd]), (44, [.rd, .rd]), (43, [.rd, .rd]), (22, [.rd, .rd]), (21, [.rd, .rd]), (34, [.rd, .rd]),
  (85, [.rd]), (41, [.rd]), (40, [.rd]), (18, [.rd])] MW
def opEq (a b : Ent) : Bool := decide (a.kind = b.kind) && decide (a.key = b.key) && decide (a.val = b.val)
theorem kop_ok (a b : Ent) (ha : EntS a) : ACall Tryd.prog 109 [.agg (opC a), .agg (opC b)] (.bool (opEq a b)) [] := by
  have h := bytes_ok a.val b.val (by have := ha.val'; omega)
  unfold opEq
  refine ACall.of_does TTok Tryd.func109 rfl Tryd.call109 rfl (wpc_sound (M := MK) (PL := PL0) (CU := noCut) TTok mixed _ _ _ ?_)
  by_cases c1 : a.kind = b.kind
  · rw [dt c1]
    by_cases c2 : a.key = b.key
    · rw [dt c2]
      conv => whnf
      repeat ((first | refine ifB_t ?_ | (refine ifB_pos (decide_eq_true (by first | omega | rfl | (dsimp only; omega))) ?_) | refine ⟨pureL_bys _, ?_⟩ | refine ⟨rfl, ?_⟩ | refine ⟨_, rfl, ?_⟩); conv => whnf)
      refine ⟨_, _, h, by first | rfl | simp [noRoIf, noRoL, noRoV, noRoL_bys], ?_⟩
      conv => whnf
      repeat ((first | refine ifB_t ?_ | refine ⟨rfl, ?_⟩); conv => whnf)
      rfl
    · rw [df c2]
      conv => whnf
      repeat ((first | refine ifB_t ?_ | refine ifB_f ?_ | (refine ifB_neg (decide_eq_false (by first | omega | rfl | (dsimp only; omega))) ?_) | (refine ifB_pos (decide_eq_true (by first | omega | rfl | (dsimp only; omega))) ?_) | refine ⟨rfl, ?_⟩ | refine ⟨_, rfl, ?_⟩); conv => whnf)
      rfl
  · rw [df c1]
    conv => whnf
    repeat ((first | refine ifB_f ?_ | (refine ifB_neg (decide_eq_false (by first | omega | rfl | (dsimp only; omega))) ?_) | refine ⟨rfl, ?_⟩ | refine ⟨_, rfl, ?_⟩); conv => whnf)
    rfl
theorem ent_eq (a b : Ent) : decide (a = b) = (decide (a.au = b.au) && decide (a.seq = b.seq) && decide (a.prev = b.prev) && decide (a.stamp = b.stamp) && opEq a b && decide (a.sig = b.sig)) := by
  unfold opEq
  obtain ⟨a1, a2, a3, a4, a5, a6, a7, a8⟩ := a
  obtain ⟨b1, b2, b3, b4, b5, b6, b7, b8⟩ := b
  rw [Bool.eq_iff_iff]
  simp only [Bool.and_eq_true, decide_eq_true_eq, Ent.mk.injEq]
  constructor
  · rintro ⟨rfl, rfl, rfl, rfl, rfl, rfl, rfl, rfl⟩; simp
  · rintro ⟨⟨⟨⟨⟨rfl, rfl⟩, rfl⟩, rfl⟩, ⟨⟨rfl, rfl⟩, rfl⟩⟩, rfl⟩; simp
set_option maxRecDepth 20000 in
set_option maxHeartbeats 4000000 in
theorem kent_ok (a b : Ent) (ha : EntS a) (hb : EntS b) : ACall Tryd.prog 88 [.agg (entC a), .agg (entC b)] (.bool (decide (a = b))) [] := by
  have h := kop_ok a b ha
  rw [ent_eq]
  refine ACall.of_does TTok Tryd.func88 rfl Tryd.call88 rfl (wpc_sound (M := MK) (PL := PL0) (CU := cutAt [100001]) TTok mixed _ _ _ ?_)
  conv => whnf
  repeat ((refine ⟨rfl, ?_⟩); conv => whnf)
  refine Does.freeze 0 rfl (Does.freeze 1 (zs := entC b) (by show some (frzL 0 _ (entC b)) = _; rw [entC_frz]) (Does.tidy [(2, .rop (entC a)), (3, .rop (entC b))] [] 2 45 rfl rfl rfl (by kernel_rfl) (by kernel_rfl) ?_))
  refine wpc_sound (M := MK) (PL := PL0) (CU := noCut) TTok mixed _ _ _ ?_
  conv => whnf
  repeat ((refine ⟨_, rfl, ?_⟩); conv => whnf)
  refine ⟨a.au, b.au, ⟨rfl, c32_map ha.au.2, c32_map hb.au.2, ha.au.2, hb.au.2⟩, ?_⟩
  conv => whnf
  by_cases c1 : a.au = b.au
  · rw [dt c1]
    conv => whnf
    repeat ((first | refine ifB_t ?_ | refine ⟨_, rfl, ?_⟩); conv => whnf)
    by_cases c2 : a.seq = b.seq
    · rw [dt c2]
      conv => whnf
      repeat ((first | refine ifB_t ?_ | refine ⟨_, rfl, ?_⟩); conv => whnf)
      refine ⟨a.prev, b.prev, ⟨rfl, c32_map ha.prev.2, c32_map hb.prev.2, ha.prev.2, hb.prev.2⟩, ?_⟩
      conv => whnf
      repeat ((refine ifB_t ?_); conv => whnf)
      by_cases c3 : a.prev = b.prev
      · rw [dt c3]
        conv => whnf
        repeat ((first | refine ifB_t ?_ | refine ⟨_, rfl, ?_⟩); conv => whnf)
        by_cases c4 : a.stamp = b.stamp
        · rw [dt c4]
          conv => whnf
          repeat ((first | refine ifB_t ?_ | refine ⟨entC_pure _, ?_⟩ | refine ⟨rfl, ?_⟩ | refine ⟨_, rfl, ?_⟩); conv => whnf)
          cases c5 : opEq a b <;> rw [c5] at h
          · refine ⟨_, _, h, by first | rfl | simp [noRoIf, noRoL, noRoV, noRoL_bys], ?_⟩
            conv => whnf
            repeat ((first | refine ifB_t ?_ | refine ifB_f ?_ | refine ⟨rfl, ?_⟩); conv => whnf)
            rfl
          · refine ⟨_, _, h, by first | rfl | simp [noRoIf, noRoL, noRoV, noRoL_bys], ?_⟩
            conv => whnf
            repeat ((first | refine ifB_t ?_ | refine ⟨_, rfl, ?_⟩); conv => whnf)
            refine ⟨a.sig, b.sig, ⟨rfl, c64_map ha.sig.2, c64_map hb.sig.2, ha.sig.2, hb.sig.2⟩, ?_⟩
            conv => whnf
            repeat ((first | refine ifB_t ?_ | refine ⟨rfl, ?_⟩); conv => whnf)
            rfl
        · rw [df c4]
          conv => whnf
          repeat ((first | refine ifB_f ?_ | refine ⟨rfl, ?_⟩); conv => whnf)
          rfl
      · rw [df c3]
        conv => whnf
        repeat ((first | refine ifB_f ?_ | refine ⟨rfl, ?_⟩); conv => whnf)
        rfl
    · rw [df c2]
      conv => whnf
      repeat ((first | refine ifB_f ?_ | refine ⟨rfl, ?_⟩); conv => whnf)
      rfl
  · rw [df c1]
    conv => whnf
    repeat ((first | refine ifB_f ?_ | refine ⟨rfl, ?_⟩); conv => whnf)
    rfl
end Go.Proofs.YtelnlfhdaelfdaaDoor.Abs
end
section
--KR
set_option linter.unusedVariables false
set_option linter.unusedSimpArgs false
namespace Go.Proofs.YtelnlfhdaelfdaaDoor.Abs
open Go
attribute [local irreducible] ifB fitP Does Weaker
set_option maxRecDepth 20000 in
set_option maxHeartbeats 4000000 in
theorem kprf_ok (a b : Prf) (ha : PrfS a) (hb : PrfS b) : ACall Tryd.prog 87 [.agg (prfC a), .agg (prfC b)] (.bool (decide (a = b))) [] := by
  have h1 := kent_ok a.a b.a ha.a hb.a
  have h2 := kent_ok a.b b.b ha.b hb.b
  have e : decide (a = b) = (decide (a.a = b.a) && decide (a.b = b.b)) := by
    obtain ⟨x, y⟩ := a
    obtain ⟨z, w⟩ := b
    rw [Bool.eq_iff_iff]
    simp
  rw [e]
  refine ACall.of_does TTok Tryd.func87 rfl Tryd.call87 rfl (wpc_sound (M := MK) (PL := PL0) (CU := cutAt [100001]) TTok mixed _ _ _ ?_)
  conv => whnf
  repeat ((refine ⟨rfl, ?_⟩); conv => whnf)
  refine Does.tidy [(2, .ptr 0 0), (3, .ptr 1 0)] [(0, prfC a), (1, prfC b)] 2 17 rfl rfl rfl (by kernel_rfl) (by kernel_rfl) ?_
  refine wpc_sound (M := MK) (PL := PL0) (CU := noCut) TTok mixed _ _ _ ?_
  by_cases c1 : a.a = b.a
  · rw [dt c1] at h1 ⊢
    conv => whnf
    repeat ((first | refine ⟨entC_pure _, ?_⟩ | refine ⟨rfl, ?_⟩ | refine ⟨_, rfl, ?_⟩); conv => whnf)
    refine ⟨_, _, h1, by first | rfl | simp [noRoIf, noRoL, noRoV, noRoL_bys], ?_⟩
    conv => whnf
    repeat ((first | refine ifB_t ?_ | refine ⟨entC_pure _, ?_⟩ | refine ⟨rfl, ?_⟩ | refine ⟨_, rfl, ?_⟩); conv => whnf)
    refine ⟨_, _, h2, by first | rfl | simp [noRoIf, noRoL, noRoV, noRoL_bys], ?_⟩
    conv => whnf
    repeat ((first | refine ifB_t ?_ | refine ⟨rfl, ?_⟩); conv => whnf)
    rfl
  · rw [df c1] at h1 ⊢
    conv => whnf
    repeat ((first | refine ⟨entC_pure _, ?_⟩ | refine ⟨rfl, ?_⟩ | refine ⟨_, rfl, ?_⟩); conv => whnf)
    refine ⟨_, _, h1, by first | rfl | simp [noRoIf, noRoL, noRoV, noRoL_bys], ?_⟩
    conv => whnf
    repeat ((first | refine ifB_f ?_ | refine ⟨rfl, ?_⟩); conv => whnf)
    rfl
theorem takeOk_row {α : Type} {f : α → List AV} {n : Nat} (hf : ∀ x, (f x).length = n) (hn : 0 < n) {l : List α} {j m : Nat} (h : j < l.length) (hm : m = n * j) {ops : Array Oper} {st : St} {dst : Option Tmp} {ty : TypeId} {pos : String} {af : Array Edge} {t : TypeId} {a : Operand} (he : evalO st.env a = .rop (List.drop m (rowsC f l))) : takeOk ops ⟨dst, .load t a, ty, pos, af, none⟩ st = true := by
  show roLoad st (.load t a) = true
  have hl : 0 < (List.drop m (rowsC f l)).length := by rw [rowsC_at hf h hm, List.length_append, hf]; omega
  simp only [roLoad, he]
  generalize List.drop m (rowsC f l) = cs at hl
  cases cs with
  | nil => simp at hl
  | cons x r => rfl
theorem list_all_eq {α : Type} [DecidableEq α] (d : α) {x y : List α} (hl : x.length = y.length) (h : ∀ j, j < x.length → x.getD j d = y.getD j d) : x = y := by
  refine List.ext_getElem hl fun j h1 h2 => ?_
  have := h j h1
  rwa [List.getD_eq_getElem?_getD, List.getD_eq_getElem?_getD, List.getElem?_eq_getElem h1, List.getElem?_eq_getElem h2] at this
def PLkl : Nat → Bool × Plan := plans [(6, (false, takesTo [0, 1, 2, 3, 4, 5, 6, 7] (.all [(8, takes [9])])))]
set_option maxHeartbeats 1000000 in
theorem kents_ok (x y : List Ent) (hx : ∀ e ∈ x, EntS e) (hy : ∀ e ∈ y, EntS e) (lx : x.length ≤ 1000000000) (ly : y.length ≤ 1000000000) : ACall Tryd.prog 45 [.ro x.length (rowsC entC x), .ro y.length (rowsC entC y)] (.bool (decide (x = y))) [] := by
  refine ACall.of_does TTok Tryd.func45 rfl Tryd.call45 rfl (wpc_sound (M := MK) (PL := PLkl) (CU := noCut) TTok mixed _ _ _ ?_)
  by_cases c0 : x.length = y.length
  case neg =>
    rw [df (show ¬ x = y from fun e => c0 (by rw [e]))]
    conv => whnf
    repeat ((first | (refine ifB_pos (decide_eq_true (by first | omega | rfl | (dsimp only; omega))) ?_) | refine ⟨rfl, ?_⟩); conv => whnf)
    rfl
  conv => whnf
  repeat ((refine ifB_neg (decide_eq_false (by first | omega | rfl | (dsimp only; omega))) ?_); conv => whnf)
  refine Does.loop (fun c : Nat => mkSt [(0, .ro x.length (rowsC entC x)), (1, .ro y.length (rowsC entC y)), (5, .int .i64 c)] [] 0 27)
    (fun c => c ≤ x.length ∧ ∀ j, j < c → x.getD j ent0 = y.getD j ent0) (fun c => x.length - c) ?_ 0 ⟨Nat.zero_le _, fun j h => by omega⟩ ?_
  · rintro c ⟨hc, hj⟩
    rcases Nat.lt_or_ge c x.length with c1 | c1
    · have c2 : c < y.length := by omega
      have h := kent_ok x[c] y[c] (hx _ (List.getElem_mem c1)) (hy _ (List.getElem_mem c2))
      have hd : x.getD c ent0 = x[c] ∧ y.getD c ent0 = y[c] := by
        rw [List.getD_eq_getElem?_getD, List.getD_eq_getElem?_getD, List.getElem?_eq_getElem c1, List.getElem?_eq_getElem c2]; exact ⟨rfl, rfl⟩
      refine wpc_sound (M := MK) (PL := PLkl) (CU := noCut) TTok mixed _ _ _ ?_
      conv => whnf
      repeat ((refine ifB_pos (decide_eq_true (by first | omega | rfl | (dsimp only; omega))) ?_); conv => whnf)
      refine ⟨by kernel_rfl, ?_⟩
      conv => whnf
      repeat ((refine ⟨⟨?_, ?_, ?_⟩, ?_⟩; (focus omega); (focus (first | omega | (simp; done) | (simp; omega))); (focus (first | (rw [prfs_len]; simp; omega) | (rw [ents_len]; simp; omega) | (rw [hds_len]; simp; omega) | (rw [lets_len]; simp; omega)))); conv => whnf)
      conv => whnf
      repeat' (first | (refine ⟨entC_pure _, ?_⟩; (conv => whnf)) | (refine ⟨rfl, ?_⟩; (conv => whnf)) | (refine ⟨⟨?_, ?_, ?_⟩, ?_⟩; (focus omega); (focus (first | omega | (simp; done) | (simp; omega))); (focus (first | (rw [prfs_len]; simp; omega) | (rw [ents_len]; simp; omega) | (rw [hds_len]; simp; omega) | (rw [lets_len]; simp; omega))); (conv => whnf)) | (refine ⟨_, takeN_row entC_length c1 (by simp; omega) rfl, ?_⟩; conv => whnf) | (refine ⟨_, takeN_row entC_length c2 (by simp; omega) rfl, ?_⟩; conv => whnf) | (refine ⟨takeOk_row entC_length (by decide) c1 (by simp; omega) rfl, ?_⟩; conv => whnf) | (refine ⟨takeOk_row entC_length (by decide) c2 (by simp; omega) rfl, ?_⟩; conv => whnf) | (refine ⟨entC_pure _, ?_⟩; conv => whnf) | (refine ⟨_, rfl, ?_⟩; conv => whnf) | (refine And.intro ?_ ?_ <;> conv => whnf))
      by_cases c3 : x[c] = y[c]
      · rw [dt c3] at h
        refine ⟨_, _, h, by first | rfl | simp [noRoIf, noRoL, noRoV, noRoL_bys], ?_⟩
        conv => whnf
        repeat ((first | refine ifB_f ?_ | (refine fit_i64 ⟨by first | omega | rfl | (dsimp only; omega), by first | omega | rfl | (dsimp only; omega)⟩ ?_)); conv => whnf)
        refine ⟨c + 1, ⟨by omega, fun j hj' => ?_⟩, by omega, weaker_of [] rfl rfl ⟨⟨rfl, rfl, ents_pure _⟩, ⟨rfl, rfl, ents_pure _⟩, ⟨rfl, rfl⟩, trivial⟩ trivial⟩
        rcases Nat.lt_or_ge j c with k | k
        · exact hj j k
        · obtain rfl : j = c := by omega
          rw [hd.1, hd.2, c3]
      · rw [df c3] at h
        have : x ≠ y := fun e => by subst e; exact c3 rfl
        rw [df this]
        refine ⟨_, _, h, by first | rfl | simp [noRoIf, noRoL, noRoV, noRoL_bys], ?_⟩
        conv => whnf
        repeat ((first | refine ifB_t ?_ | refine ⟨rfl, ?_⟩); conv => whnf)
        rfl
    · obtain rfl : c = x.length := by omega
      rw [dt (list_all_eq ent0 c0 hj)]
      refine wpc_sound (M := MK) (PL := PLkl) (CU := noCut) TTok mixed _ _ _ ?_
      conv => whnf
      repeat ((first | (refine ifB_neg (decide_eq_false (by first | omega | rfl | (dsimp only; omega))) ?_) | refine ⟨rfl, ?_⟩); conv => whnf)
      rfl
  · exact weaker_of [] rfl rfl ⟨⟨rfl, rfl, ents_pure _⟩, ⟨rfl, rfl, ents_pure _⟩, ⟨rfl, rfl⟩, trivial⟩ trivial
set_option maxRecDepth 20000 in
set_option maxHeartbeats 2000000 in
theorem kprfs_ok (x y : List Prf) (hx : ∀ e ∈ x, PrfS e) (hy : ∀ e ∈ y, PrfS e) (lx : x.length ≤ 1000000000) (ly : y.length ≤ 1000000000) : ACall Tryd.prog 44 [.ro x.length (rowsC prfC x), .ro y.length (rowsC prfC y)] (.bool (decide (x = y))) [] := by
  refine ACall.of_does TTok Tryd.func44 rfl Tryd.call44 rfl (wpc_sound (M := MK) (PL := PLkl) (CU := noCut) TTok mixed _ _ _ ?_)
  by_cases c0 : x.length = y.length
  case neg =>
    rw [df (show ¬ x = y from fun e => c0 (by rw [e]))]
    conv => whnf
    repeat ((first | (refine ifB_pos (decide_eq_true (by first | omega | rfl | (dsimp only; omega))) ?_) | refine ⟨rfl, ?_⟩); conv => whnf)
    rfl
  conv => whnf
  repeat ((refine ifB_neg (decide_eq_false (by first | omega | rfl | (dsimp only; omega))) ?_); conv => whnf)
  refine Does.loop (fun c : Nat => mkSt [(0, .ro x.length (rowsC prfC x)), (1, .ro y.length (rowsC prfC y)), (5, .int .i64 c)] [] 0 27)
    (fun c => c ≤ x.length ∧ ∀ j, j < c → x.getD j prf0 = y.getD j prf0) (fun c => x.length - c) ?_ 0 ⟨Nat.zero_le _, fun j h => by omega⟩ ?_
  · rintro c ⟨hc, hj⟩
    rcases Nat.lt_or_ge c x.length with c1 | c1
    · have c2 : c < y.length := by omega
      have h := kprf_ok x[c] y[c] (hx _ (List.getElem_mem c1)) (hy _ (List.getElem_mem c2))
      have hd : x.getD c prf0 = x[c] ∧ y.getD c prf0 = y[c] := by
        rw [List.getD_eq_getElem?_getD, List.getD_eq_getElem?_getD, List.getElem?_eq_getElem c1, List.getElem?_eq_getElem c2]; exact ⟨rfl, rfl⟩
      refine wpc_sound (M := MK) (PL := PLkl) (CU := noCut) TTok mixed _ _ _ ?_
      conv => whnf
      repeat ((refine ifB_pos (decide_eq_true (by first | omega | rfl | (dsimp only; omega))) ?_); conv => whnf)
      refine ⟨by kernel_rfl, ?_⟩
      conv => whnf
      repeat ((refine ⟨⟨?_, ?_, ?_⟩, ?_⟩; (focus omega); (focus (first | omega | (simp; done) | (simp; omega))); (focus (first | (rw [prfs_len]; simp; omega) | (rw [ents_len]; simp; omega) | (rw [hds_len]; simp; omega) | (rw [lets_len]; simp; omega)))); conv => whnf)
      conv => whnf
      repeat' (first | (refine ⟨rfl, ?_⟩; (conv => whnf)) | (refine ⟨⟨?_, ?_, ?_⟩, ?_⟩; (focus omega); (focus (first | omega | (simp; done) | (simp; omega))); (focus (first | (rw [prfs_len]; simp; omega) | (rw [ents_len]; simp; omega) | (rw [hds_len]; simp; omega) | (rw [lets_len]; simp; omega))); (conv => whnf)) | (refine ⟨(show pureL _ = true from by first | exact prfC_pure _ | exact hdC_pure _ | exact msgC_pure _ | exact letC_pure _), ?_⟩; (conv => whnf)) | (refine ⟨_, takeN_row prfC_length c1 (by simp; omega) rfl, ?_⟩; conv => whnf) | (refine ⟨_, takeN_row prfC_length c2 (by simp; omega) rfl, ?_⟩; conv => whnf) | (refine ⟨takeOk_row prfC_length (by decide) c1 (by simp; omega) rfl, ?_⟩; conv => whnf) | (refine ⟨takeOk_row prfC_length (by decide) c2 (by simp; omega) rfl, ?_⟩; conv => whnf) | (refine ⟨prfC_pure _, ?_⟩; conv => whnf) | (refine ⟨_, rfl, ?_⟩; conv => whnf) | (refine And.intro ?_ ?_ <;> conv => whnf))
      by_cases c3 : x[c] = y[c]
      · rw [dt c3] at h
        refine ⟨_, _, h, by first | rfl | simp [noRoIf, noRoL, noRoV, noRoL_bys], ?_⟩
        conv => whnf
        repeat ((first | refine ifB_f ?_ | (refine fit_i64 ⟨by first | omega | rfl | (dsimp only; omega), by first | omega | rfl | (dsimp only; omega)⟩ ?_)); conv => whnf)
        refine ⟨c + 1, ⟨by omega, fun j hj' => ?_⟩, by omega, weaker_of [] rfl rfl ⟨⟨rfl, rfl, prfs_pure _⟩, ⟨rfl, rfl, prfs_pure _⟩, ⟨rfl, rfl⟩, trivial⟩ trivial⟩
        rcases Nat.lt_or_ge j c with k | k
        · exact hj j k
        · obtain rfl : j = c := by omega
          rw [hd.1, hd.2, c3]
      · rw [df c3] at h
        have : x ≠ y := fun e => by subst e; exact c3 rfl
        rw [df this]
        refine ⟨_, _, h, by first | rfl | simp [noRoIf, noRoL, noRoV, noRoL_bys], ?_⟩
        conv => whnf
        repeat ((first | refine ifB_t ?_ | refine ⟨rfl, ?_⟩); conv => whnf)
        rfl
    · obtain rfl : c = x.length := by omega
      rw [dt (list_all_eq prf0 c0 hj)]
      refine wpc_sound (M := MK) (PL := PLkl) (CU := noCut) TTok mixed _ _ _ ?_
      conv => whnf
      repeat ((first | (refine ifB_neg (decide_eq_false (by first | omega | rfl | (dsimp only; omega))) ?_) | refine ⟨rfl, ?_⟩); conv => whnf)
      rfl
  · exact weaker_of [] rfl rfl ⟨⟨rfl, rfl, prfs_pure _⟩, ⟨rfl, rfl, prfs_pure _⟩, ⟨rfl, rfl⟩, trivial⟩ trivial
end Go.Proofs.YtelnlfhdaelfdaaDoor.Abs
end
section
--KR
set_option linter.unusedVariables false
set_option linter.unusedSimpArgs false
namespace Go.Proofs.YtelnlfhdaelfdaaDoor.Abs
open Go
attribute [local irreducible] ifB fitP Does Weaker
theorem hd_id {l : List Hd} {j m s : Nat} (h : j < l.length) (hm : m = 66 * j) (hs : s = 32) : takeN s (List.drop 33 (List.drop m (rowsC hdC l))) = some (c32 l[j].id []) := by
  rw [rowsC_at hdC_length h hm, hs]; rfl
theorem hd_len {l : List Hd} {j m : Nat} (h : j < l.length) (hm : m = 66 * j) : (List.drop 32 (List.drop m (rowsC hdC l)))[0]? = some (.int .i64 l[j].len) := by
  rw [rowsC_at hdC_length h hm]; rfl
theorem hd_shut {l : List Hd} {j m : Nat} (h : j < l.length) (hm : m = 66 * j) : (List.drop 65 (List.drop m (rowsC hdC l)))[0]? = some (.bool l[j].shut) := by
  rw [rowsC_at hdC_length h hm]; rfl
theorem hd_eq (a b : Hd) : decide (a = b) = (decide (a.au = b.au) && decide (a.len = b.len) && decide (a.id = b.id) && (a.shut == b.shut)) := by
  obtain ⟨a1, a2, a3, a4⟩ := a
  obtain ⟨b1, b2, b3, b4⟩ := b
  rw [Bool.eq_iff_iff]
  simp [and_assoc]
def PLkh : Nat → Bool × Plan := plans [(6, (true, takes [0, 1, 2, 3, 4, 5, 6, 7, 8, 9, 10, 11, 12, 13, 14, 15, 16, 17, 18, 19, 20, 21, 22, 23, 24, 25, 26, 27, 28, 29, 30, 31, 32, 33, 34, 35, 36, 37, 38, 39, 40, 41, 42, 43, 44, 45, 46, 47, 48, 49]))]
set_option maxHeartbeats 4000000 in
theorem kheads_ok (x y : List Hd) (hx : ∀ e ∈ x, HdS e) (hy : ∀ e ∈ y, HdS e) (lx : x.length ≤ 1000000000) (ly : y.length ≤ 1000000000) : ACall Tryd.prog 43 [.ro x.length (rowsC hdC x), .ro y.length (rowsC hdC y)] (.bool (decide (x = y))) [] := by
  refine ACall.of_does TTok Tryd.func43 rfl Tryd.call43 rfl (wpc_sound (M := MK) (PL := PLkh) (CU := noCut) TTok mixed _ _ _ ?_)
  by_cases c0 : x.length = y.length
  case neg =>
    rw [df (show ¬ x = y from fun e => c0 (by rw [e]))]
    conv => whnf
    repeat ((first | (refine ifB_pos (decide_eq_true (by first | omega | rfl | (dsimp only; omega))) ?_) | refine ⟨rfl, ?_⟩); conv => whnf)
    rfl
  conv => whnf
  repeat ((refine ifB_neg (decide_eq_false (by first | omega | rfl | (dsimp only; omega))) ?_); conv => whnf)
  refine Does.loop (fun c : Nat => mkSt [(0, .ro x.length (rowsC hdC x)), (1, .ro y.length (rowsC hdC y)), (5, .int .i64 c)] [] 0 67)
    (fun c => c ≤ x.length ∧ ∀ j, j < c → x.getD j hd0 = y.getD j hd0) (fun c => x.length - c) ?_ 0 ⟨Nat.zero_le _, fun j h => by omega⟩ ?_
  · rintro c ⟨hc, hj⟩
    rcases Nat.lt_or_ge c x.length with c1 | c1
    · have c2 : c < y.length := by omega
      have hd : x.getD c hd0 = x[c] ∧ y.getD c hd0 = y[c] := by
        rw [List.getD_eq_getElem?_getD, List.getD_eq_getElem?_getD, List.getElem?_eq_getElem c1, List.getElem?_eq_getElem c2]; exact ⟨rfl, rfl⟩
      have e := hd_eq x[c] y[c]
      have hx1 := hx _ (List.getElem_mem c1)
      have hy1 := hy _ (List.getElem_mem c2)
      have g1 : ∀ m, m = 66 * c → takeN 32 (List.drop 0 (List.drop m (rowsC hdC x))) = some (c32 x[c].au []) := fun m hm => hd_au c1 hm rfl
      have g2 : ∀ m, m = 66 * c → takeN 32 (List.drop 0 (List.drop m (rowsC hdC y))) = some (c32 y[c].au []) := fun m hm => hd_au c2 hm rfl
      have g3 : ∀ m, m = 66 * c → (List.drop 32 (List.drop m (rowsC hdC x)))[0]? = some (.int .i64 x[c].len) := fun m hm => hd_len c1 hm
      have g4 : ∀ m, m = 66 * c → (List.drop 32 (List.drop m (rowsC hdC y)))[0]? = some (.int .i64 y[c].len) := fun m hm => hd_len c2 hm
      have g5 : ∀ m, m = 66 * c → takeN 32 (List.drop 33 (List.drop m (rowsC hdC x))) = some (c32 x[c].id []) := fun m hm => hd_id c1 hm rfl
      have g6 : ∀ m, m = 66 * c → takeN 32 (List.drop 33 (List.drop m (rowsC hdC y))) = some (c32 y[c].id []) := fun m hm => hd_id c2 hm rfl
      have g7 : ∀ m, m = 66 * c → (List.drop 65 (List.drop m (rowsC hdC x)))[0]? = some (.bool x[c].shut) := fun m hm => hd_shut c1 hm
      have g8 : ∀ m, m = 66 * c → (List.drop 65 (List.drop m (rowsC hdC y)))[0]? = some (.bool y[c].shut) := fun m hm => hd_shut c2 hm
      have no : x[c] ≠ y[c] → decide (x = y) = false := fun h => df (fun e => by subst e; exact h rfl)
      have yes : x[c] = y[c] → ∀ j, j < c + 1 → x.getD j hd0 = y.getD j hd0 := fun h j hj' => by
        rcases Nat.lt_or_ge j c with k | k
        · exact hj j k
        · obtain rfl : j = c := by omega
          rw [hd.1, hd.2, h]
      generalize x[c] = p at *
      generalize y[c] = q at *
      refine wpc_sound (M := MK) (PL := PLkh) (CU := noCut) TTok mixed _ _ _ ?_
      conv => whnf
      repeat ((refine ifB_pos (decide_eq_true (by first | omega | rfl | (dsimp only; omega))) ?_); conv => whnf)
      refine ⟨by kernel_rfl, ?_⟩
      conv => whnf
      repeat' (first | (refine ⟨⟨?_, ?_, ?_⟩, ?_⟩; (focus omega); (focus (first | omega | (simp; done) | (simp; omega))); (focus (first | (rw [prfs_len]; simp; omega) | (rw [ents_len]; simp; omega) | (rw [hds_len]; simp; omega) | (rw [lets_len]; simp; omega))); (conv => whnf)) | (refine ⟨_, g1 _ (by simp; omega), ?_⟩; conv => whnf) | (refine ⟨_, g2 _ (by simp; omega), ?_⟩; conv => whnf) | (refine ⟨_, g3 _ (by simp; omega), ?_⟩; conv => whnf) | (refine ⟨_, g4 _ (by simp; omega), ?_⟩; conv => whnf) | (refine ⟨_, g5 _ (by simp; omega), ?_⟩; conv => whnf) | (refine ⟨_, g6 _ (by simp; omega), ?_⟩; conv => whnf) | (refine ⟨_, g7 _ (by simp; omega), ?_⟩; conv => whnf) | (refine ⟨_, g8 _ (by simp; omega), ?_⟩; conv => whnf) | (refine ⟨⟨by omega, by omega, by rw [hds_len]; simp; omega⟩, ?_⟩; conv => whnf) | (refine ⟨_, rfl, ?_⟩; conv => whnf) | (refine And.intro ?_ ?_ <;> conv => whnf))
      refine ⟨p.au, q.au, ⟨rfl, c32_map hx1.au.2, c32_map hy1.au.2, hx1.au.2, hy1.au.2⟩, ?_⟩
      conv => whnf
      by_cases d1 : p.au = q.au
      · rw [dt d1] at e ⊢
        conv => whnf
        repeat ((first | refine ifB_f ?_ | (refine ⟨⟨?_, ?_, ?_⟩, ?_⟩; (focus omega); (focus (first | omega | (simp; done) | (simp; omega))); (focus (first | (rw [prfs_len]; simp; omega) | (rw [ents_len]; simp; omega) | (rw [hds_len]; simp; omega) | (rw [lets_len]; simp; omega))))); conv => whnf)
        conv => whnf
        repeat' (first | (refine ifB_f ?_; (conv => whnf)) | (refine ⟨⟨?_, ?_, ?_⟩, ?_⟩; (focus omega); (focus (first | omega | (simp; done) | (simp; omega))); (focus (first | (rw [prfs_len]; simp; omega) | (rw [ents_len]; simp; omega) | (rw [hds_len]; simp; omega) | (rw [lets_len]; simp; omega))); (conv => whnf)) | (refine ⟨_, g1 _ (by simp; omega), ?_⟩; conv => whnf) | (refine ⟨_, g2 _ (by simp; omega), ?_⟩; conv => whnf) | (refine ⟨_, g3 _ (by simp; omega), ?_⟩; conv => whnf) | (refine ⟨_, g4 _ (by simp; omega), ?_⟩; conv => whnf) | (refine ⟨_, g5 _ (by simp; omega), ?_⟩; conv => whnf) | (refine ⟨_, g6 _ (by simp; omega), ?_⟩; conv => whnf) | (refine ⟨_, g7 _ (by simp; omega), ?_⟩; conv => whnf) | (refine ⟨_, g8 _ (by simp; omega), ?_⟩; conv => whnf) | (refine ⟨⟨by omega, by omega, by rw [hds_len]; simp; omega⟩, ?_⟩; conv => whnf) | (refine ⟨_, rfl, ?_⟩; conv => whnf) | (refine And.intro ?_ ?_ <;> conv => whnf))
        by_cases d2 : p.len = q.len
        · rw [dt d2] at e
          conv => whnf
          repeat ((first | refine ifB_f ?_ | (refine ifB_neg (decide_eq_false (by first | omega | rfl | (dsimp only; omega))) ?_) | (refine ⟨⟨?_, ?_, ?_⟩, ?_⟩; (focus omega); (focus (first | omega | (simp; done) | (simp; omega))); (focus (first | (rw [prfs_len]; simp; omega) | (rw [ents_len]; simp; omega) | (rw [hds_len]; simp; omega) | (rw [lets_len]; simp; omega))))); conv => whnf)
          conv => whnf
          repeat' (first | (refine ifB_f ?_; (conv => whnf)) | (refine ⟨⟨?_, ?_, ?_⟩, ?_⟩; (focus omega); (focus (first | omega | (simp; done) | (simp; omega))); (focus (first | (rw [prfs_len]; simp; omega) | (rw [ents_len]; simp; omega) | (rw [hds_len]; simp; omega) | (rw [lets_len]; simp; omega))); (conv => whnf)) | (refine ⟨_, g1 _ (by simp; omega), ?_⟩; conv => whnf) | (refine ⟨_, g2 _ (by simp; omega), ?_⟩; conv => whnf) | (refine ⟨_, g3 _ (by simp; omega), ?_⟩; conv => whnf) | (refine ⟨_, g4 _ (by simp; omega), ?_⟩; conv => whnf) | (refine ⟨_, g5 _ (by simp; omega), ?_⟩; conv => whnf) | (refine ⟨_, g6 _ (by simp; omega), ?_⟩; conv => whnf) | (refine ⟨_, g7 _ (by simp; omega), ?_⟩; conv => whnf) | (refine ⟨_, g8 _ (by simp; omega), ?_⟩; conv => whnf) | (refine ⟨⟨by omega, by omega, by rw [hds_len]; simp; omega⟩, ?_⟩; conv => whnf) | (refine ⟨_, rfl, ?_⟩; conv => whnf) | (refine And.intro ?_ ?_ <;> conv => whnf))
          refine ⟨p.id, q.id, ⟨rfl, c32_map hx1.id.2, c32_map hy1.id.2, hx1.id.2, hy1.id.2⟩, ?_⟩
          conv => whnf
          repeat ((refine ifB_f ?_); conv => whnf)
          by_cases d3 : p.id = q.id
          · rw [dt d3] at e ⊢
            conv => whnf
            repeat ((first | refine ifB_f ?_ | (refine ⟨⟨?_, ?_, ?_⟩, ?_⟩; (focus omega); (focus (first | omega | (simp; done) | (simp; omega))); (focus (first | (rw [prfs_len]; simp; omega) | (rw [ents_len]; simp; omega) | (rw [hds_len]; simp; omega) | (rw [lets_len]; simp; omega))))); conv => whnf)
            conv => whnf
            repeat' (first | (refine ifB_f ?_; (conv => whnf)) | (refine ⟨⟨?_, ?_, ?_⟩, ?_⟩; (focus omega); (focus (first | omega | (simp; done) | (simp; omega))); (focus (first | (rw [prfs_len]; simp; omega) | (rw [ents_len]; simp; omega) | (rw [hds_len]; simp; omega) | (rw [lets_len]; simp; omega))); (conv => whnf)) | (refine ⟨_, g1 _ (by simp; omega), ?_⟩; conv => whnf) | (refine ⟨_, g2 _ (by simp; omega), ?_⟩; conv => whnf) | (refine ⟨_, g3 _ (by simp; omega), ?_⟩; conv => whnf) | (refine ⟨_, g4 _ (by simp; omega), ?_⟩; conv => whnf) | (refine ⟨_, g5 _ (by simp; omega), ?_⟩; conv => whnf) | (refine ⟨_, g6 _ (by simp; omega), ?_⟩; conv => whnf) | (refine ⟨_, g7 _ (by simp; omega), ?_⟩; conv => whnf) | (refine ⟨_, g8 _ (by simp; omega), ?_⟩; conv => whnf) | (refine ⟨⟨by omega, by omega, by rw [hds_len]; simp; omega⟩, ?_⟩; conv => whnf) | (refine ⟨_, rfl, ?_⟩; conv => whnf) | (refine And.intro ?_ ?_ <;> conv => whnf))
            cases d4 : p.shut == q.shut
            · rw [d4] at e
              conv => whnf
              repeat' (first | (refine ifB_t ?_; (conv => whnf)) | (refine ⟨_, g1 _ (by simp; omega), ?_⟩; conv => whnf) | (refine ⟨_, g2 _ (by simp; omega), ?_⟩; conv => whnf) | (refine ⟨_, g3 _ (by simp; omega), ?_⟩; conv => whnf) | (refine ⟨_, g4 _ (by simp; omega), ?_⟩; conv => whnf) | (refine ⟨_, g5 _ (by simp; omega), ?_⟩; conv => whnf) | (refine ⟨_, g6 _ (by simp; omega), ?_⟩; conv => whnf) | (refine ⟨_, g7 _ (by simp; omega), ?_⟩; conv => whnf) | (refine ⟨_, g8 _ (by simp; omega), ?_⟩; conv => whnf) | (refine ⟨⟨by omega, by omega, by rw [hds_len]; simp; omega⟩, ?_⟩; conv => whnf) | (rw [no (fun h => by rw [h] at e; simp at e)]; exact ⟨rfl, rfl⟩) | (rw [no (of_decide_eq_false e)]; exact ⟨rfl, rfl⟩) | (rw [no (of_decide_eq_false e)]; rfl) | (refine ⟨_, rfl, ?_⟩; conv => whnf) | (refine And.intro ?_ ?_ <;> conv => whnf))
            · rw [d4] at e
              conv => whnf
              repeat' (first | (refine ifB_f ?_; (conv => whnf)) | (refine fit_i64 ⟨by first | omega | rfl | (dsimp only; omega), by first | omega | rfl | (dsimp only; omega)⟩ ?_; (conv => whnf)) | (refine ⟨_, g1 _ (by simp; omega), ?_⟩; conv => whnf) | (refine ⟨_, g2 _ (by simp; omega), ?_⟩; conv => whnf) | (refine ⟨_, g3 _ (by simp; omega), ?_⟩; conv => whnf) | (refine ⟨_, g4 _ (by simp; omega), ?_⟩; conv => whnf) | (refine ⟨_, g5 _ (by simp; omega), ?_⟩; conv => whnf) | (refine ⟨_, g6 _ (by simp; omega), ?_⟩; conv => whnf) | (refine ⟨_, g7 _ (by simp; omega), ?_⟩; conv => whnf) | (refine ⟨_, g8 _ (by simp; omega), ?_⟩; conv => whnf) | (refine ⟨⟨by omega, by omega, by rw [hds_len]; simp; omega⟩, ?_⟩; conv => whnf) | (exact ⟨c + 1, ⟨by omega, yes (of_decide_eq_true e)⟩, by omega, weaker_of [] rfl rfl ⟨⟨rfl, rfl, hds_pure _⟩, ⟨rfl, rfl, hds_pure _⟩, ⟨rfl, rfl⟩, trivial⟩ trivial⟩) | (refine ⟨_, rfl, ?_⟩; conv => whnf) | (refine And.intro ?_ ?_ <;> conv => whnf))
          · rw [df d3] at e ⊢
            conv => whnf
            repeat ((refine ifB_t ?_); conv => whnf)
            conv => whnf
            repeat' (first | (refine ⟨_, g1 _ (by simp; omega), ?_⟩; conv => whnf) | (refine ⟨_, g2 _ (by simp; omega), ?_⟩; conv => whnf) | (refine ⟨_, g3 _ (by simp; omega), ?_⟩; conv => whnf) | (refine ⟨_, g4 _ (by simp; omega), ?_⟩; conv => whnf) | (refine ⟨_, g5 _ (by simp; omega), ?_⟩; conv => whnf) | (refine ⟨_, g6 _ (by simp; omega), ?_⟩; conv => whnf) | (refine ⟨_, g7 _ (by simp; omega), ?_⟩; conv => whnf) | (refine ⟨_, g8 _ (by simp; omega), ?_⟩; conv => whnf) | (refine ⟨⟨by omega, by omega, by rw [hds_len]; simp; omega⟩, ?_⟩; conv => whnf) | (rw [no (fun h => by rw [h] at e; simp at e)]; exact ⟨rfl, rfl⟩) | (rw [no (of_decide_eq_false e)]; exact ⟨rfl, rfl⟩) | (rw [no (of_decide_eq_false e)]; rfl) | (refine ⟨_, rfl, ?_⟩; conv => whnf) | (refine And.intro ?_ ?_ <;> conv => whnf))
        · rw [df d2] at e
          conv => whnf
          repeat ((first | refine ifB_t ?_ | (refine ifB_pos (decide_eq_true (by first | omega | rfl | (dsimp only; omega))) ?_)); conv => whnf)
          conv => whnf
          repeat' (first | (refine ⟨_, g1 _ (by simp; omega), ?_⟩; conv => whnf) | (refine ⟨_, g2 _ (by simp; omega), ?_⟩; conv => whnf) | (refine ⟨_, g3 _ (by simp; omega), ?_⟩; conv => whnf) | (refine ⟨_, g4 _ (by simp; omega), ?_⟩; conv => whnf) | (refine ⟨_, g5 _ (by simp; omega), ?_⟩; conv => whnf) | (refine ⟨_, g6 _ (by simp; omega), ?_⟩; conv => whnf) | (refine ⟨_, g7 _ (by simp; omega), ?_⟩; conv => whnf) | (refine ⟨_, g8 _ (by simp; omega), ?_⟩; conv => whnf) | (refine ⟨⟨by omega, by omega, by rw [hds_len]; simp; omega⟩, ?_⟩; conv => whnf) | (rw [no (fun h => by rw [h] at e; simp at e)]; exact ⟨rfl, rfl⟩) | (rw [no (of_decide_eq_false e)]; exact ⟨rfl, rfl⟩) | (rw [no (of_decide_eq_false e)]; rfl) | (refine ⟨_, rfl, ?_⟩; conv => whnf) | (refine And.intro ?_ ?_ <;> conv => whnf))
      · rw [df d1] at e ⊢
        conv => whnf
        repeat ((refine ifB_t ?_); conv => whnf)
        conv => whnf
        repeat' (first | (refine ⟨_, g1 _ (by simp; omega), ?_⟩; conv => whnf) | (refine ⟨_, g2 _ (by simp; omega), ?_⟩; conv => whnf) | (refine ⟨_, g3 _ (by simp; omega), ?_⟩; conv => whnf) | (refine ⟨_, g4 _ (by simp; omega), ?_⟩; conv => whnf) | (refine ⟨_, g5 _ (by simp; omega), ?_⟩; conv => whnf) | (refine ⟨_, g6 _ (by simp; omega), ?_⟩; conv => whnf) | (refine ⟨_, g7 _ (by simp; omega), ?_⟩; conv => whnf) | (refine ⟨_, g8 _ (by simp; omega), ?_⟩; conv => whnf) | (refine ⟨⟨by omega, by omega, by rw [hds_len]; simp; omega⟩, ?_⟩; conv => whnf) | (rw [no (fun h => by rw [h] at e; simp at e)]; exact ⟨rfl, rfl⟩) | (rw [no (of_decide_eq_false e)]; exact ⟨rfl, rfl⟩) | (rw [no (of_decide_eq_false e)]; rfl) | (refine ⟨_, rfl, ?_⟩; conv => whnf) | (refine And.intro ?_ ?_ <;> conv => whnf))
    · obtain rfl : c = x.length := by omega
      rw [dt (list_all_eq hd0 c0 hj)]
      refine wpc_sound (M := MK) (PL := PLkh) (CU := noCut) TTok mixed _ _ _ ?_
      conv => whnf
      repeat ((first | (refine ifB_neg (decide_eq_false (by first | omega | rfl | (dsimp only; omega))) ?_) | refine ⟨rfl, ?_⟩); conv => whnf)
      rfl
  · exact weaker_of [] rfl rfl ⟨⟨rfl, rfl, hds_pure _⟩, ⟨rfl, rfl, hds_pure _⟩, ⟨rfl, rfl⟩, trivial⟩ trivial
end Go.Proofs.YtelnlfhdaelfdaaDoor.Abs
end
section
--KR
set_option linter.unusedVariables false
set_option linter.unusedSimpArgs false
namespace Go.Proofs.YtelnlfhdaelfdaaDoor.Abs
open Go
attribute [local irreducible] ifB fitP Does Weaker
theorem msg_eq (a b : Msg) : decide (a = b) = (decide (a.kind = b.kind) && decide (a.frm = b.frm) && decide (a.to = b.to) && decide (a.hs = b.hs) && decide (a.ps = b.ps) && decide (a.es = b.es)) := by
  obtain ⟨a1, a2, a3, a4, a5, a6⟩ := a
  obtain ⟨b1, b2, b3, b4, b5, b6⟩ := b
  rw [Bool.eq_iff_iff]
  simp [and_assoc]
set_option maxHeartbeats 2000000 in
theorem kmsg_ok (a b : Msg) (ha : MsgS a) (hb : MsgS b) : ACall Tryd.prog 22 [.agg (msgC a), .agg (msgC b)] (.bool (decide (a = b))) [] := by
  have h1 := kheads_ok a.hs b.hs ha.hs hb.hs ha.hl hb.hl
  have h2 := kprfs_ok a.ps b.ps ha.ps hb.ps ha.pl hb.pl
  have h3 := kents_ok a.es b.es ha.es hb.es ha.el hb.el
  rw [msg_eq]
  refine ACall.of_does TTok Tryd.func22 rfl Tryd.call22 rfl (wpc_sound (M := MK) (PL := PL0) (CU := noCut) TTok mixed _ _ _ ?_)
  by_cases c1 : a.kind = b.kind
  · rw [dt c1]
    by_cases c2 : a.frm = b.frm
    · rw [dt c2]
      by_cases c3 : a.to = b.to
      · rw [dt c3]
        cases c4 : decide (a.hs = b.hs) <;> rw [c4] at h1
        · conv => whnf
          repeat ((first | refine ifB_t ?_ | (refine ifB_pos (decide_eq_true (by first | omega | rfl | (dsimp only; omega))) ?_) | refine ⟨rfl, ?_⟩ | refine ⟨_, rfl, ?_⟩ | refine ⟨(show pureL (rowsC _ _) = true from by first | exact prfs_pure _ | exact ents_pure _ | exact hds_pure _ | exact lets_pure _), ?_⟩); conv => whnf)
          refine ⟨_, _, h1, by first | rfl | simp [noRoIf, noRoL, noRoV, noRoL_bys], ?_⟩
          conv => whnf
          repeat ((first | refine ifB_t ?_ | refine ifB_f ?_ | refine ⟨rfl, ?_⟩); conv => whnf)
          rfl
        cases c5 : decide (a.ps = b.ps) <;> rw [c5] at h2
        · conv => whnf
          repeat ((first | refine ifB_t ?_ | (refine ifB_pos (decide_eq_true (by first | omega | rfl | (dsimp only; omega))) ?_) | refine ⟨rfl, ?_⟩ | refine ⟨_, rfl, ?_⟩ | refine ⟨(show pureL (rowsC _ _) = true from by first | exact prfs_pure _ | exact ents_pure _ | exact hds_pure _ | exact lets_pure _), ?_⟩); conv => whnf)
          refine ⟨_, _, h1, by first | rfl | simp [noRoIf, noRoL, noRoV, noRoL_bys], ?_⟩
          conv => whnf
          repeat ((first | refine ifB_t ?_ | refine ⟨rfl, ?_⟩ | refine ⟨_, rfl, ?_⟩ | refine ⟨(show pureL (rowsC _ _) = true from by first | exact prfs_pure _ | exact ents_pure _ | exact hds_pure _ | exact lets_pure _), ?_⟩); conv => whnf)
          refine ⟨_, _, h2, by first | rfl | simp [noRoIf, noRoL, noRoV, noRoL_bys], ?_⟩
          conv => whnf
          repeat ((first | refine ifB_t ?_ | refine ifB_f ?_ | refine ⟨rfl, ?_⟩); conv => whnf)
          rfl
        · conv => whnf
          repeat ((first | refine ifB_t ?_ | (refine ifB_pos (decide_eq_true (by first | omega | rfl | (dsimp only; omega))) ?_) | refine ⟨rfl, ?_⟩ | refine ⟨_, rfl, ?_⟩ | refine ⟨(show pureL (rowsC _ _) = true from by first | exact prfs_pure _ | exact ents_pure _ | exact hds_pure _ | exact lets_pure _), ?_⟩); conv => whnf)
          refine ⟨_, _, h1, by first | rfl | simp [noRoIf, noRoL, noRoV, noRoL_bys], ?_⟩
          conv => whnf
          repeat ((first | refine ifB_t ?_ | refine ⟨rfl, ?_⟩ | refine ⟨_, rfl, ?_⟩ | refine ⟨(show pureL (rowsC _ _) = true from by first | exact prfs_pure _ | exact ents_pure _ | exact hds_pure _ | exact lets_pure _), ?_⟩); conv => whnf)
          refine ⟨_, _, h2, by first | rfl | simp [noRoIf, noRoL, noRoV, noRoL_bys], ?_⟩
          conv => whnf
          repeat ((first | refine ifB_t ?_ | refine ⟨rfl, ?_⟩ | refine ⟨_, rfl, ?_⟩ | refine ⟨(show pureL (rowsC _ _) = true from by first | exact prfs_pure _ | exact ents_pure _ | exact hds_pure _ | exact lets_pure _), ?_⟩); conv => whnf)
          refine ⟨_, _, h3, by first | rfl | simp [noRoIf, noRoL, noRoV, noRoL_bys], ?_⟩
          conv => whnf
          repeat ((first | refine ifB_t ?_ | refine ⟨rfl, ?_⟩); conv => whnf)
          rfl
      · rw [df c3]
        conv => whnf
        repeat ((first | refine ifB_t ?_ | refine ifB_f ?_ | (refine ifB_neg (decide_eq_false (by first | omega | rfl | (dsimp only; omega))) ?_) | (refine ifB_pos (decide_eq_true (by first | omega | rfl | (dsimp only; omega))) ?_) | refine ⟨rfl, ?_⟩ | refine ⟨_, rfl, ?_⟩); conv => whnf)
        rfl
    · rw [df c2]
      conv => whnf
      repeat ((first | refine ifB_t ?_ | refine ifB_f ?_ | (refine ifB_neg (decide_eq_false (by first | omega | rfl | (dsimp only; omega))) ?_) | (refine ifB_pos (decide_eq_true (by first | omega | rfl | (dsimp only; omega))) ?_) | refine ⟨rfl, ?_⟩ | refine ⟨_, rfl, ?_⟩); conv => whnf)
      rfl
  · rw [df c1]
    conv => whnf
    repeat ((first | refine ifB_f ?_ | (refine ifB_neg (decide_eq_false (by first | omega | rfl | (dsimp only; omega))) ?_) | refine ⟨rfl, ?_⟩ | refine ⟨_, rfl, ?_⟩); conv => whnf)
    rfl
end Go.Proofs.YtelnlfhdaelfdaaDoor.Abs
end
section
--KR
set_option linter.unusedVariables false
set_option linter.unusedSimpArgs false
namespace Go.Proofs.YtelnlfhdaelfdaaDoor.Abs
open Go
attribute [local irreducible] ifB fitP Does Weaker demsP
theorem entV_val (e : Ent) : entV e (roW e.val) = entC e := by rw [roW_eq]; rfl
theorem ent_dems1 {H : Heap} {e : Ent} {zs : List AV} {K : List Nat → Prop} (hz : zs = entC e) (h : K []) : demsP H [.agg (entC e)] [.agg zs] K := by
  subst hz
  simp only [demsP, demP]
  refine ent_dems e ?_
  simpa only [and_self, true_and, List.nil_append] using h
set_option maxRecDepth 20000 in
set_option maxHeartbeats 2000000 in
theorem ktwin_ok (e : Ent) (he : EntS e) : ACall Tryd.prog 85 [.agg (entC e)] (.agg (entC e)) [] := by
  have h := twin_ok e.val (by have := he.val'; omega)
  refine ACall.of_does TTok Tryd.func85 rfl Tryd.call85 rfl (wpc_sound (M := MK) (PL := PL0) (CU := cutAt [100002]) TTok mixed _ _ _ ?_)
  conv => whnf
  repeat ((first | refine ⟨pureL_bys _, ?_⟩ | refine ⟨rfl, ?_⟩ | refine ⟨_, rfl, ?_⟩); conv => whnf)
  refine ⟨_, _, h, by first | rfl | simp [noRoIf, noRoL, noRoV, noRoL_bys], ?_⟩
  conv => whnf
  repeat ((refine ⟨(⟨by kernel_rfl, by kernel_rfl, Nat.le_of_ble_eq_true (by kernel_rfl)⟩ : AV.ones _ = true ∧ _ ∧ _), ?_⟩); conv => whnf)
  refine Does.freeze 2 rfl (Does.tidy [(1, .ptr 0 0), (2, .ptr 1 0)] [(0, entC e), (1, zeroE)] 3 10 rfl rfl rfl (by kernel_rfl) (by rw [← entV_val]; kernel_rfl) ?_)
  refine wpc_sound (M := MK) (PL := PL0) (CU := noCut) TTok mixed _ _ _ ?_
  conv => whnf
  refine ⟨entC e, by kernel_rfl, ?_⟩
  conv => whnf
  refine ⟨(⟨by kernel_rfl, by kernel_rfl, Nat.le_of_ble_eq_true (by kernel_rfl)⟩ : AV.ones _ = true ∧ _ ∧ _), ?_⟩
  conv => whnf
  refine ⟨entC e, by kernel_rfl, ?_⟩
  conv => whnf
  refine ent_dems1 (by kernel_rfl) ?_
  rfl
end Go.Proofs.YtelnlfhdaelfdaaDoor.Abs
end
section
--KR
set_option linter.unusedVariables false
set_option linter.unusedSimpArgs false
namespace Go.Proofs.YtelnlfhdaelfdaaDoor.Abs
open Go
attribute [local irreducible] ifB fitP Does Weaker
def heavyE (e : Ent) : Bool := decide (100 < e.key.length) || decide (300 < e.val.length)
def heavyEs (l : List Ent) : Bool := decide (300 < l.length) || l.any heavyE
theorem heavyEs_no {l : List Ent} (h : heavyEs l = false) : l.length ≤ 300 ∧ ∀ e ∈ l, e.key.length ≤ 100 ∧ e.val.length ≤ 300 := by
  unfold heavyEs at h
  simp only [Bool.or_eq_false_iff, decide_eq_false_iff_not, Nat.not_lt, List.any_eq_false, heavyE, Bool.or_eq_true, decide_eq_true_eq, not_or] at h
  exact ⟨h.1, fun e he => by have := h.2 e he; omega⟩
theorem ent_key {l : List Ent} {j m : Nat} (h : j < l.length) (hm : m = 133 * j) : (List.drop 1 (List.drop 66 (List.drop m (rowsC entC l))))[0]? = some (.str l[j].key) := by
  rw [rowsC_at entC_length h hm]; rfl
theorem ent_val {l : List Ent} {j m : Nat} (h : j < l.length) (hm : m = 133 * j) : (List.drop 2 (List.drop 66 (List.drop m (rowsC entC l))))[0]? = some (.ro l[j].val.length (bys l[j].val)) := by
  rw [rowsC_at entC_length h hm]; rfl
set_option maxHeartbeats 1000000 in
theorem heavy11_ok (l : List Ent) : ACall Tryd.prog 39 [.ro l.length (rowsC entC l)] (.bool (heavyEs l)) [] := by
  refine ACall.of_does TTok Tryd.func39 rfl Tryd.call39 rfl (wpc_sound (M := MK) (PL := PL0) (CU := noCut) TTok mixed _ _ _ ?_)
  conv => whnf
  refine ifB_dec (fun c0 => ?_) (fun c0 => ?_)
  · have : heavyEs l = true := by unfold heavyEs; rw [dt (show 300 < l.length by omega)]; rfl
    rw [this]
    conv => whnf
    repeat ((refine ⟨rfl, ?_⟩); conv => whnf)
    rfl
  have e0 : heavyEs l = l.any heavyE := by unfold heavyEs; rw [df (show ¬ 300 < l.length by omega)]; rfl
  conv => whnf
  refine Does.loop (fun c : Nat => mkSt [(0, .ro l.length (rowsC entC l)), (3, .int .i64 c)] [] 0 31)
    (fun c => c ≤ l.length ∧ (l.drop c).any heavyE = l.any heavyE) (fun c => l.length - c) ?_ 0 ⟨Nat.zero_le _, by rw [List.drop_zero]⟩ ?_
  · rintro c ⟨hc, hx⟩
    rcases Nat.lt_or_ge c l.length with c1 | c1
    · have gk : ∀ m, m = 133 * c → (List.drop 1 (List.drop 66 (List.drop m (rowsC entC l))))[0]? = some (.str l[c].key) := fun m hm => ent_key c1 hm
      have gv : ∀ m, m = 133 * c → (List.drop 2 (List.drop 66 (List.drop m (rowsC entC l))))[0]? = some (.ro l[c].val.length (bys l[c].val)) := fun m hm => ent_val c1 hm
      rw [List.drop_eq_getElem_cons c1, List.any_cons] at hx
      generalize l[c] = q at gk gv hx
      refine wpc_sound (M := MK) (PL := PL0) (CU := noCut) TTok mixed _ _ _ ?_
      by_cases k1 : 100 < q.key.length
      · rw [show heavyE q = true by unfold heavyE; rw [dt k1]; rfl, Bool.true_or] at hx
        rw [e0, ← hx]
        conv => whnf
        repeat ((first | (refine ifB_pos (decide_eq_true (by first | omega | rfl | (dsimp only; omega))) ?_) | (refine ⟨⟨?_, ?_, ?_⟩, ?_⟩; (focus omega); (focus (first | omega | (simp; done) | (simp; omega))); (focus (first | (rw [prfs_len]; simp; omega) | (rw [ents_len]; simp; omega) | (rw [hds_len]; simp; omega) | (rw [lets_len]; simp; omega))))); conv => whnf)
        conv => whnf
        repeat' (first | (refine ifB_t ?_; (conv => whnf)) | (refine ifB_pos (decide_eq_true (by first | omega | rfl | (dsimp only; omega))) ?_; (conv => whnf)) | (refine ⟨rfl, ?_⟩; (conv => whnf)) | (refine ⟨_, gk _ (by simp; omega), ?_⟩; conv => whnf) | (refine ⟨_, gv _ (by simp; omega), ?_⟩; conv => whnf) | (rfl) | (refine ⟨_, rfl, ?_⟩; conv => whnf) | (refine And.intro ?_ ?_ <;> conv => whnf))
      · by_cases k2 : 300 < q.val.length
        · rw [show heavyE q = true by unfold heavyE; rw [dt k2, Bool.or_true], Bool.true_or] at hx
          rw [e0, ← hx]
          conv => whnf
          repeat ((first | (refine ifB_pos (decide_eq_true (by first | omega | rfl | (dsimp only; omega))) ?_) | (refine ⟨⟨?_, ?_, ?_⟩, ?_⟩; (focus omega); (focus (first | omega | (simp; done) | (simp; omega))); (focus (first | (rw [prfs_len]; simp; omega) | (rw [ents_len]; simp; omega) | (rw [hds_len]; simp; omega) | (rw [lets_len]; simp; omega))))); conv => whnf)
          conv => whnf
          repeat' (first | (refine ifB_f ?_; (conv => whnf)) | (refine ifB_neg (decide_eq_false (by first | omega | rfl | (dsimp only; omega))) ?_; (conv => whnf)) | (refine ifB_pos (decide_eq_true (by first | omega | rfl | (dsimp only; omega))) ?_; (conv => whnf)) | (refine ⟨rfl, ?_⟩; (conv => whnf)) | (refine ⟨⟨?_, ?_, ?_⟩, ?_⟩; (focus omega); (focus (first | omega | (simp; done) | (simp; omega))); (focus (first | (rw [prfs_len]; simp; omega) | (rw [ents_len]; simp; omega) | (rw [hds_len]; simp; omega) | (rw [lets_len]; simp; omega))); (conv => whnf)) | (refine ⟨_, gk _ (by simp; omega), ?_⟩; conv => whnf) | (refine ⟨_, gv _ (by simp; omega), ?_⟩; conv => whnf) | (rfl) | (refine ⟨_, rfl, ?_⟩; conv => whnf) | (refine And.intro ?_ ?_ <;> conv => whnf))
        · rw [show heavyE q = false by unfold heavyE; rw [df k1, df k2]; rfl, Bool.false_or] at hx
          conv => whnf
          repeat ((first | (refine ifB_pos (decide_eq_true (by first | omega | rfl | (dsimp only; omega))) ?_) | (refine ⟨⟨?_, ?_, ?_⟩, ?_⟩; (focus omega); (focus (first | omega | (simp; done) | (simp; omega))); (focus (first | (rw [prfs_len]; simp; omega) | (rw [ents_len]; simp; omega) | (rw [hds_len]; simp; omega) | (rw [lets_len]; simp; omega))))); conv => whnf)
          conv => whnf
          repeat' (first | (refine ifB_f ?_; (conv => whnf)) | (refine ifB_neg (decide_eq_false (by first | omega | rfl | (dsimp only; omega))) ?_; (conv => whnf)) | (refine fit_i64 ⟨by first | omega | rfl | (dsimp only; omega), by first | omega | rfl | (dsimp only; omega)⟩ ?_; (conv => whnf)) | (refine ⟨⟨?_, ?_, ?_⟩, ?_⟩; (focus omega); (focus (first | omega | (simp; done) | (simp; omega))); (focus (first | (rw [prfs_len]; simp; omega) | (rw [ents_len]; simp; omega) | (rw [hds_len]; simp; omega) | (rw [lets_len]; simp; omega))); (conv => whnf)) | (refine ⟨_, gk _ (by simp; omega), ?_⟩; conv => whnf) | (refine ⟨_, gv _ (by simp; omega), ?_⟩; conv => whnf) | (exact ⟨c + 1, ⟨by omega, hx⟩, by omega, weaker_of [] rfl rfl ⟨⟨rfl, rfl, ents_pure _⟩, ⟨rfl, rfl⟩, trivial⟩ trivial⟩) | (refine ⟨_, rfl, ?_⟩; conv => whnf) | (refine And.intro ?_ ?_ <;> conv => whnf))
    · obtain rfl : c = l.length := by omega
      rw [List.drop_length] at hx
      rw [e0, ← hx]
      refine wpc_sound (M := MK) (PL := PL0) (CU := noCut) TTok mixed _ _ _ ?_
      conv => whnf
      repeat ((first | (refine ifB_neg (decide_eq_false (by first | omega | rfl | (dsimp only; omega))) ?_) | refine ⟨rfl, ?_⟩); conv => whnf)
      rfl
  · exact weaker_of [] rfl rfl ⟨⟨rfl, rfl, ents_pure _⟩, ⟨rfl, rfl⟩, trivial⟩ trivial
end Go.Proofs.YtelnlfhdaelfdaaDoor.Abs
end
