/- Texts EG to SC, merged. -/
import Derived.Test.YtbkclacjamlebaaGreatDoorV10
set_option linter.unusedVariables false
set_option linter.unusedSimpArgs false
namespace Go.Proofs.YtbkclacjamlebaaGreatDoor.Abs
open Go
section
--KR
attribute [local irreducible] ifB fitP Does Weaker
structure Prf where
 a : Ent
 b : Ent
 deriving DecidableEq
def prfC (p : Prf) : List AV := entC p.a ++ entC p.b
structure PrfS (p : Prf) : Prop where
 a : EntS p.a
 b : EntS p.b
def prf0 : Prf := ⟨ent0, ent0⟩
theorem entB_byt {e : Ent} (he : EntS e) : Byt (entB e).1 ∧ (entB e).1.length ≤ 32768 := by
 unfold entB
 split
 ·refine ⟨encR_byt _ (entTs_ok e he).1, ?_⟩
  rcases encR_or validR (entTs e) with h | ⟨a, h⟩
  ·rw [h]; simp
  ·have := encR_len h
   rw [h]; exact this
 ·exact ⟨fun x hx => absurd hx (List.not_mem_nil), by simp⟩
theorem ent_dems' {H : Heap} (e : Ent) {r q : List AV} {K : List Nat → Prop} (h : demsP H r q K) : demsP H (entC e ++ r) (entC e ++ q) K := by
 unfold entC
 simp only [c32_app, List.cons_append]
 refine c32_dems ?_
 simp only [demsP, demP, and_self, true_and, List.nil_append]
 refine c32_dems ?_
 simp only [demsP, demP, and_self, true_and, List.nil_append]
 refine ⟨pureL_bys _, ?_⟩
 simp only [c64_app]
 exact c64_dems h
theorem ent0_dems' {H : Heap} {r q : List AV} {K : List Nat → Prop} (h : demsP H r q K) : demsP H (entC ent0 ++ r) (zeroE ++ q) K := by
 unfold entC zeroE entV
 simp only [c32_app, List.cons_append]
 refine c32_dems ?_
 simp only [demsP, demP, and_self, true_and, List.nil_append]
 refine c32_dems ?_
 simp only [demsP, demP, and_self, true_and, List.nil_append]
 refine ⟨⟨rfl, rfl⟩, ?_⟩
 simp only [c64_app]
 exact c64_dems h
def ordR (a b : Ent) : Int := if (entB a).2 ≠ 0 then 0 else if (entB b).2 ≠ 0 then 0 else if a.au ≠ b.au then 0 else if a.seq ≠ b.seq then 0 else cmpI (entB a).1 (entB b).1
def prfR (p : Prf) : Bool := decide (ordR p.a p.b < 0)
set_option maxHeartbeats 1000000 in
theorem order_ok (a b : Ent) (ha : EntS a) (hb : EntS b) : ACall Tryz.prog 46 [.agg (entC a), .agg (entC b)] (.int .i64 (ordR a b)) [] := by
 have h1 := ebytes_ok a ha
 have h2 := ebytes_ok b hb
 have b1 := entB_byt ha
 have b2 := entB_byt hb
 unfold ordR
 generalize entB a = p at h1 b1 ⊢
 generalize entB b = q at h2 b2 ⊢
 obtain ⟨x, e⟩ := p
 obtain ⟨y, f⟩ := q
 dsimp only at h1 b1 h2 b2 ⊢
 have hc := compare_ok x y b1.1 b2.1
 refine ACall.of_does TTok Tryz.func46 rfl Tryz.call46 rfl (wpc_sound (M := ME) (PL := PL0) (CU := cutAt [100003]) TTok mixed _ _ _ ?_)
 conv => whnf
 repeat ((first | refine ⟨entC_pure _, ?_⟩ | refine ⟨rfl, ?_⟩ | refine ⟨_, rfl, ?_⟩); conv => whnf)
 refine ⟨_, _, h1, by first | rfl | simp [noRoIf, noRoL, noRoV, noRoL_bys], ?_⟩
 conv => whnf
 repeat ((first | refine ⟨entC_pure _, ?_⟩ | refine ⟨rfl, ?_⟩ | refine ⟨_, rfl, ?_⟩); conv => whnf)
 refine ⟨_, _, h2, by first | rfl | simp [noRoIf, noRoL, noRoV, noRoL_bys], ?_⟩
 conv => whnf
 refine Does.tidy [(2, .ptr 0 0), (3, .ptr 1 0), (5, .sl 2 0 x.length 1 false), (6, .int .i64 e), (7, .sl 3 0 y.length 1 false), (8, .int .i64 f)] [(0, entC a), (1, entC b), (2, bys x), (3, bys y)] 4 42 rfl rfl rfl (by kernel_rfl) (by kernel_rfl) ?_
 refine wpc_sound (M := ME) (PL := PL0) (CU := noCut) TTok mixed _ _ _ ?_
 by_cases c1 : e ≠ 0
 ·rw [if_pos c1]
  conv => whnf
  repeat ((first | refine ifB_t ?_ | (refine ifB_pos (decide_eq_true (by first | omega | rfl | (dsimp only; omega))) ?_) | refine ⟨⟨rfl, rfl⟩, ?_⟩); conv => whnf)
  rfl
 rw [if_neg c1]
 by_cases c2 : f ≠ 0
 ·rw [if_pos c2]
  conv => whnf
  repeat ((first | refine ifB_t ?_ | refine ifB_f ?_ | (refine ifB_neg (decide_eq_false (by first | omega | rfl | (dsimp only; omega))) ?_) | (refine ifB_pos (decide_eq_true (by first | omega | rfl | (dsimp only; omega))) ?_) | refine ⟨⟨rfl, rfl⟩, ?_⟩); conv => whnf)
  rfl
 rw [if_neg c2]
 by_cases c3 : a.au ≠ b.au
 ·rw [if_pos c3]
  conv => whnf
  repeat ((first | refine ifB_f ?_ | (refine ifB_neg (decide_eq_false (by first | omega | rfl | (dsimp only; omega))) ?_) | refine ⟨_, rfl, ?_⟩); conv => whnf)
  refine ⟨a.au, b.au, ⟨rfl, c32_map ha.au.2, c32_map hb.au.2, ha.au.2, hb.au.2⟩, ?_⟩
  conv => whnf
  repeat ((refine ifB_f ?_); conv => whnf)
  rw [df (show ¬ a.au = b.au from c3)]
  conv => whnf
  repeat ((first | refine ifB_t ?_ | refine ⟨⟨rfl, rfl⟩, ?_⟩); conv => whnf)
  rfl
 rw [if_neg c3]
 by_cases c4 : a.seq ≠ b.seq
 ·rw [if_pos c4]
  conv => whnf
  repeat ((first | refine ifB_f ?_ | (refine ifB_neg (decide_eq_false (by first | omega | rfl | (dsimp only; omega))) ?_) | refine ⟨_, rfl, ?_⟩); conv => whnf)
  refine ⟨a.au, b.au, ⟨rfl, c32_map ha.au.2, c32_map hb.au.2, ha.au.2, hb.au.2⟩, ?_⟩
  conv => whnf
  repeat ((refine ifB_f ?_); conv => whnf)
  rw [dt (show a.au = b.au from Classical.not_not.1 c3)]
  conv => whnf
  repeat ((first | refine ifB_f ?_ | (refine ifB_pos (decide_eq_true (by first | omega | rfl | (dsimp only; omega))) ?_) | refine ⟨_, rfl, ?_⟩ | refine ⟨⟨rfl, rfl⟩, ?_⟩); conv => whnf)
  rfl
 rw [if_neg c4]
 conv => whnf
 repeat ((first | refine ifB_f ?_ | (refine ifB_neg (decide_eq_false (by first | omega | rfl | (dsimp only; omega))) ?_) | refine ⟨_, rfl, ?_⟩); conv => whnf)
 refine ⟨a.au, b.au, ⟨rfl, c32_map ha.au.2, c32_map hb.au.2, ha.au.2, hb.au.2⟩, ?_⟩
 conv => whnf
 repeat ((refine ifB_f ?_); conv => whnf)
 rw [dt (show a.au = b.au from Classical.not_not.1 c3)]
 conv => whnf
 repeat ((first | refine ifB_f ?_ | (refine ifB_neg (decide_eq_false (by first | omega | rfl | (dsimp only; omega))) ?_) | refine ⟨pureL_bys _, ?_⟩ | (refine Or.inl ⟨⟨rfl, ?_⟩, ?_⟩; (focus (first | rfl | (simp; done) | (rw [toksC_length]; omega)))) | refine ⟨rfl, ?_⟩ | refine ⟨_, rfl, ?_⟩); conv => whnf)
 refine ⟨_, _, hc, by first | rfl | simp [noRoIf, noRoL, noRoV, noRoL_bys], ?_⟩
 conv => whnf
 repeat ((refine ⟨⟨rfl, rfl⟩, ?_⟩); conv => whnf)
 rfl
set_option maxRecDepth 20000 in
set_option maxHeartbeats 1000000 in
theorem check_proof_ok (p : Prf) (hp : PrfS p) : ACall Tryz.prog 18 [.agg (prfC p)] (.int .i64 (if prfR p then 0 else 1)) [] := by
 have h := order_ok p.a p.b hp.a hp.b
 unfold prfR
 refine ACall.of_does TTok Tryz.func18 rfl Tryz.call18 rfl (wpc_sound (M := ME) (PL := PL0) (CU := noCut) TTok mixed _ _ _ ?_)
 conv => whnf
 repeat ((first | refine ⟨entC_pure _, ?_⟩ | refine ⟨rfl, ?_⟩ | refine ⟨_, rfl, ?_⟩); conv => whnf)
 refine ⟨_, _, h, by first | rfl | simp [noRoIf, noRoL, noRoV, noRoL_bys], ?_⟩
 conv => whnf
 refine ifB_dec (fun c => ?_) (fun c => ?_)
 ·rw [df (show ¬ ordR p.a p.b < 0 by omega)]
  conv => whnf
  repeat ((refine ⟨⟨rfl, rfl⟩, ?_⟩); conv => whnf)
  rfl
 ·rw [dt (show ordR p.a p.b < 0 by omega)]
  conv => whnf
  repeat ((refine ⟨⟨rfl, rfl⟩, ?_⟩); conv => whnf)
  rfl
end
section
--KR
attribute [local irreducible] ifB fitP Does Weaker demsP
end
section
--KR
section rows
variable {α : Type}
def rowsC (f : α → List AV) : List α → List AV
 | [] => []
 | x :: r => f x ++ rowsC f r
theorem rowsC_length {f : α → List AV} {n : Nat} (hf : ∀ x, (f x).length = n) : ∀ l : List α, (rowsC f l).length = n * l.length
 | [] => rfl
 | e :: r => by simp only [rowsC, List.length_append, hf, rowsC_length hf r, List.length_cons, Nat.mul_add]; omega
theorem rowsC_pure {f : α → List AV} (hf : ∀ x, pureL (f x) = true) : ∀ l : List α, pureL (rowsC f l) = true
 | [] => rfl
 | e :: r => by simp only [rowsC, pureL_app, hf, rowsC_pure hf r, Bool.and_self]
theorem rowsC_append {f : α → List AV} : ∀ a b : List α, rowsC f (a ++ b) = rowsC f a ++ rowsC f b
 | [], b => rfl
 | e :: a, b => by simp only [List.cons_append, rowsC, rowsC_append a b, List.append_assoc]
theorem rowsC_drop {f : α → List AV} {n : Nat} (hf : ∀ x, (f x).length = n) : ∀ (l : List α) (j : Nat), (rowsC f l).drop (n * j) = rowsC f (l.drop j)
 | [], j => by simp [rowsC]
 | e :: r, 0 => by simp [rowsC]
 | e :: r, j + 1 => by
  simp only [rowsC, List.drop_succ_cons, ← rowsC_drop hf r j]
  rw [show n * (j + 1) = (f e).length + n * j by rw [hf, Nat.mul_add]; omega, List.drop_append]
  simp
theorem rowsC_take {f : α → List AV} {n : Nat} (hf : ∀ x, (f x).length = n) : ∀ (l : List α) (j : Nat), (rowsC f l).take (n * j) = rowsC f (l.take j)
 | [], j => by simp [rowsC]
 | e :: r, 0 => by simp [rowsC]
 | e :: r, j + 1 => by
  simp only [rowsC, List.take_succ_cons, ← rowsC_take hf r j]
  rw [show n * (j + 1) = (f e).length + n * j by rw [hf, Nat.mul_add]; omega, List.take_append, List.take_of_length_le (by omega)]
  simp
theorem rowsC_at {f : α → List AV} {n : Nat} (hf : ∀ x, (f x).length = n) {l : List α} {j m : Nat} (h : j < l.length) (hm : m = n * j) : (rowsC f l).drop m = f l[j] ++ rowsC f (l.drop (j + 1)) := by
 subst hm
 rw [rowsC_drop hf, List.drop_eq_getElem_cons h]
 rfl
theorem takeN_row {f : α → List AV} {n : Nat} (hf : ∀ x, (f x).length = n) {l : List α} {j m s : Nat} (h : j < l.length) (hm : m = n * j) (hs : s = n) : takeN s ((rowsC f l).drop m) = some (f l[j]) := by
 rw [rowsC_at hf h hm]; exact takeN_app (by rw [hs, hf])
theorem rowsC_les {f : α → List AV} {o : Nat → Option Nat} (hf : ∀ x, lesP o (f x) (f x)) {xs : List AV} : ∀ {l : List α}, xs = rowsC f l → lesP o (rowsC f l) xs
 | [], h => by subst h; trivial
 | e :: r, h => by subst h; exact lesP_app'' (hf e) (rowsC_les hf rfl)
end rows
theorem prfC_length (p : Prf) : (prfC p).length = 266 := by simp [prfC, entC_length]
theorem prfC_pure (p : Prf) : pureL (prfC p) = true := by simp [prfC, pureL_app, entC_pure]
theorem prfC_frz (i : Nat) (zs : List AV) (p : Prf) : frzL i zs (prfC p) = prfC p := by simp [prfC, frzL_app, entC_frz]
theorem prfC_les {o : Nat → Option Nat} (p : Prf) : lesP o (prfC p) (prfC p) := lesP_app'' (lesP_ent p.a rfl) (lesP_ent p.b rfl)
theorem entC_les {o : Nat → Option Nat} (e : Ent) : lesP o (entC e) (entC e) := lesP_ent e rfl
structure Hd where
 au : List Int
 len : Int
 id : List Int
 shut : Bool
 deriving DecidableEq
def hdC (h : Hd) : List AV := c32 h.au (.int .i64 h.len :: c32 h.id [.bool h.shut])
structure HdS (h : Hd) : Prop where
 au : Byt h.au ∧ h.au.length = 32
 len : -9223372036854775808 ≤ h.len ∧ h.len < 9223372036854775808
 id : Byt h.id ∧ h.id.length = 32
theorem hdC_length (h : Hd) : (hdC h).length = 66 := by simp [hdC, c32_len]
theorem hdC_pure (h : Hd) : pureL (hdC h) = true := by simp [hdC, c32_pure, pureL, pureV]
structure Msg where
 kind : Int
 frm : Int
 to : Int
 hs : List Hd
 ps : List Prf
 es : List Ent
 deriving DecidableEq
def msgC (m : Msg) : List AV := [.int .i64 m.kind, .int .i64 m.frm, .int .i64 m.to, .ro m.hs.length (rowsC hdC m.hs), .ro m.ps.length (rowsC prfC m.ps), .ro m.es.length (rowsC entC m.es)]
structure MsgS (m : Msg) : Prop where
 kind : -9223372036854775808 ≤ m.kind ∧ m.kind < 9223372036854775808
 frm : -9223372036854775808 ≤ m.frm ∧ m.frm < 9223372036854775808
 to : -9223372036854775808 ≤ m.to ∧ m.to < 9223372036854775808
 hs : ∀ h ∈ m.hs, HdS h
 ps : ∀ p ∈ m.ps, PrfS p
 es : ∀ e ∈ m.es, EntS e
 hl : m.hs.length ≤ 1000000000
 pl : m.ps.length ≤ 1000000000
 el : m.es.length ≤ 1000000000
theorem hds_len (l : List Hd) : (rowsC hdC l).length = 66 * l.length := rowsC_length hdC_length l
theorem prfs_len (l : List Prf) : (rowsC prfC l).length = 266 * l.length := rowsC_length prfC_length l
theorem ents_len (l : List Ent) : (rowsC entC l).length = 133 * l.length := rowsC_length entC_length l
theorem hds_pure (l : List Hd) : pureL (rowsC hdC l) = true := rowsC_pure hdC_pure l
theorem prfs_pure (l : List Prf) : pureL (rowsC prfC l) = true := rowsC_pure prfC_pure l
theorem ents_pure (l : List Ent) : pureL (rowsC entC l) = true := rowsC_pure entC_pure l
theorem msgC_pure (m : Msg) : pureL (msgC m) = true := by simp [msgC, pureL, pureV, hds_pure, prfs_pure, ents_pure]
end
section
--KR
attribute [local irreducible] ifB fitP Does Weaker
def MW : FuncId → List Mode := orElse [(999999, [.rd]), (999999, [.rd]), (999999, [.rd]), (999999, [.rd]), (999999, [.rd]), (999999, [rowM]), (999999, [rowM]),
 (999999, [.rd, .rd]), (999999, [.rd, .rd]), (999999, [.rd, .rd]),
 (999999, [.rd, .rd]), (999999, [.rd]), (999999, [.rd])] ME
end
section
--KR
attribute [local irreducible] ifB fitP Does Weaker
end
section
--KR
attribute [local irreducible] ifB fitP Does Weaker
theorem take_snoc {α : Type} {l : List α} {i : Nat} (h : i < l.length) : l.take (i + 1) = l.take i ++ [l[i]] := by
 rw [List.take_succ_eq_append_getElem h]
end
section
--KR
attribute [local irreducible] ifB fitP Does Weaker
end
section
--KR
attribute [local irreducible] ifB fitP Does Weaker
end
section
--KR
attribute [local irreducible] ifB fitP Does Weaker
end
section

theorem roOf_own {E' : Env} {Z : Nat → Prop} {len esz : Nat} {cs : List AV} {u : Value} {Y : List Nat} (hV : ∀ b, Z b → E'.V b) (hZ : ∀ b ∈ Y, ¬ Z b) (h : RepB E' (.own len esz cs) u Y) :
  RepB ⟨E'.η, E'.ρ, Z, E'.w⟩ (.ro len cs) u [] := by
 simp only [RepB] at h ⊢
 obtain ⟨hp, a, cap, rfl, hl, hc⟩ := h
 refine ⟨by simpa [pureV] using hp, ?_, trivial⟩
 simp only [RepV]
 refine ⟨a, cap, rfl, hl, ?_⟩
 rcases hc with ⟨_, hcs, _⟩ | ⟨n, c, e, fr, rfl, rfl, hh, _, _, hcl, hr⟩
 ·exact .inl hcs
 ·refine .inr ⟨n, 0, rfl, hZ n (by simp), ?_⟩
  refine repM_of_get _ _ _ fun j x hx => ?_
  have hr' := pureL_rep (E := E') (E' := ⟨E'.η, E'.ρ, Z, E'.w⟩) ⟨rfl, rfl⟩ hV cs _ hp hr
  obtain ⟨u, hu, hru⟩ := repL_get _ _ hr' j x hx
  have hj : j < cs.length := by
   rcases Nat.lt_or_ge j cs.length with h' | h'
   ·exact h'
   ·rw [List.getElem?_eq_none h'] at hx; cases hx
  rw [List.getElem?_take_of_lt hj, Array.getElem?_toList] at hu
  exact ⟨u, by simp [World.cell?, hh, hu], hru⟩
theorem ACall.roRes {P : Program} {f : FuncId} {args : List AV} {len esz : Nat} {cs : List AV} (h : ACall P f args (.own len esz cs) []) : ACall P f args (.ro len cs) [] := by
 refine ⟨h.1, fun Z E vals X hh hr hn hz => ?_⟩
 refine (h.2 Z E vals X hh hr hn hz).mono ?_
 rintro e w' ⟨v, E', Xr, he, hw, hη, hev, hV, hB, hnd, hX⟩
 refine ⟨v, ⟨E'.η, E'.ρ, Z, E'.w⟩, [], he, hw, hη, hev, fun b => by simp, ?_, List.nodup_nil, fun b hb => absurd hb (List.not_mem_nil)⟩
 simp only [List.nil_append, RepBL] at hB ⊢
 obtain ⟨u, us, Y, Y', e1, e2, h1, h2, h3⟩ := hB
 refine ⟨u, us, [], [], e1, rfl, ?_, h2, rfl⟩
 exact roOf_own (fun b hb => (hV b).2 (.inl hb)) (fun b hb => (hX b (by rw [e2]; exact List.mem_append_left _ hb)).1) h1
theorem ACall.roRes2 {P : Program} {f : FuncId} {args : List AV} {len esz : Nat} {cs : List AV} {y : AV} (hy : (∃ k n, y = .int k n) ∨ ∃ b, y = .bool b) (h : ACall P f args (.tuple [.own len esz cs, y]) []) : ACall P f args (.tuple [.ro len cs, y]) [] := by
 refine ⟨h.1, fun Z E vals X hh hr hn hz => ?_⟩
 refine (h.2 Z E vals X hh hr hn hz).mono ?_
 rintro e w' ⟨v, E', Xr, he, hw, hη, hev, hV, hB, hnd, hX⟩
 refine ⟨v, ⟨E'.η, E'.ρ, Z, E'.w⟩, [], he, hw, hη, hev, fun b => by simp, ?_, List.nodup_nil, fun b hb => absurd hb (List.not_mem_nil)⟩
 simp only [List.nil_append, RepBL] at hB ⊢
 obtain ⟨u, us, Y, Y', e1, e2, h1, h2, h3⟩ := hB
 refine ⟨u, us, [], [], e1, rfl, ?_, h2, rfl⟩
 simp only [RepB, RepBL] at h1 ⊢
 obtain ⟨vs, rfl, u1, us1, Y1, Y2, f1, f2, k1, u2, us2, Y3, Y4, f3, f4, k2, k3, k4⟩ := h1
 refine ⟨vs, rfl, u1, us1, [], [], f1, rfl, ?_, u2, us2, [], [], f3, rfl, ?_, k3, rfl⟩
 ·exact roOf_own (fun b hb => (hV b).2 (.inl hb)) (fun b hb => (hX b (by rw [e2, f2]; exact List.mem_append_left _ (List.mem_append_left _ hb))).1) k1
 ·rcases hy with ⟨k, n, rfl⟩ | ⟨b, rfl⟩
  ·simp only [RepB, pureV, RepV] at k2 ⊢
   exact ⟨trivial, k2.2.1, trivial⟩
  ·simp only [RepB, pureV, RepV] at k2 ⊢
   exact ⟨trivial, k2.2.1, trivial⟩
end
section
--KR
attribute [local irreducible] ifB fitP Does Weaker
def MK : FuncId → List Mode := orElse [(48, [.rd, .rd]), (13, [.rd, .rd]), (14, [.rd, .rd]), (32, [.rd, .rd]), (999999, [.rd, .rd]), (999999, [.rd, .rd]), (999999, [.rd, .rd]), (999999, [.rd, .rd]), (25, [.rd, .rd]),
 (11, [.rd]), (76, [.rd]), (39, [.rd]), (999999, [.rd])] MW
def opEq (a b : Ent) : Bool := decide (a.kind = b.kind) && decide (a.key = b.key) && decide (a.val = b.val)
theorem kop_ok (a b : Ent) (ha : EntS a) : ACall Tryz.prog 48 [.agg (opC a), .agg (opC b)] (.bool (opEq a b)) [] := by
 have h := bytes_ok a.val b.val (by have := ha.val'; omega)
 unfold opEq
 refine ACall.of_does TTok Tryz.func48 rfl Tryz.call48 rfl (wpc_sound (M := MK) (PL := PL0) (CU := noCut) TTok mixed _ _ _ ?_)
 by_cases c1 : a.kind = b.kind
 ·rw [dt c1]
  by_cases c2 : a.key = b.key
  ·rw [dt c2]
   conv => whnf
   repeat ((first | refine ifB_t ?_ | (refine ifB_pos (decide_eq_true (by first | omega | rfl | (dsimp only; omega))) ?_) | refine ⟨pureL_bys _, ?_⟩ | refine ⟨rfl, ?_⟩ | refine ⟨_, rfl, ?_⟩); conv => whnf)
   refine ⟨_, _, h, by first | rfl | simp [noRoIf, noRoL, noRoV, noRoL_bys], ?_⟩
   conv => whnf
   repeat ((first | refine ifB_t ?_ | refine ⟨rfl, ?_⟩); conv => whnf)
   rfl
  ·rw [df c2]
   conv => whnf
   repeat ((first | refine ifB_t ?_ | refine ifB_f ?_ | (refine ifB_neg (decide_eq_false (by first | omega | rfl | (dsimp only; omega))) ?_) | (refine ifB_pos (decide_eq_true (by first | omega | rfl | (dsimp only; omega))) ?_) | refine ⟨rfl, ?_⟩ | refine ⟨_, rfl, ?_⟩); conv => whnf)
   rfl
 ·rw [df c1]
  conv => whnf
  repeat ((first | refine ifB_f ?_ | (refine ifB_neg (decide_eq_false (by first | omega | rfl | (dsimp only; omega))) ?_) | refine ⟨rfl, ?_⟩ | refine ⟨_, rfl, ?_⟩); conv => whnf)
  rfl
theorem ent_eq (a b : Ent) : decide (a = b) = (decide (a.au = b.au) && decide (a.seq = b.seq) && decide (a.prev = b.prev) && decide (a.stamp = b.stamp) && opEq a b && decide (a.sig = b.sig)) := by
 unfold opEq
 obtain ⟨a1, a2, a3, a4, a5, a6, a7, a8⟩ := a
 obtain ⟨b1, b2, b3, b4, b5, b6, b7, b8⟩ := b
 rw [Bool.eq_iff_iff]
 simp only [Bool.and_eq_true, decide_eq_true_eq, Ent.mk.injEq]
 constructor
 ·rintro ⟨rfl, rfl, rfl, rfl, rfl, rfl, rfl, rfl⟩; simp
 ·rintro ⟨⟨⟨⟨⟨rfl, rfl⟩, rfl⟩, rfl⟩, ⟨⟨rfl, rfl⟩, rfl⟩⟩, rfl⟩; simp
set_option maxRecDepth 20000 in
set_option maxHeartbeats 4000000 in
theorem kent_ok (a b : Ent) (ha : EntS a) (hb : EntS b) : ACall Tryz.prog 13 [.agg (entC a), .agg (entC b)] (.bool (decide (a = b))) [] := by
 have h := kop_ok a b ha
 rw [ent_eq]
 refine ACall.of_does TTok Tryz.func13 rfl Tryz.call13 rfl (wpc_sound (M := MK) (PL := PL0) (CU := cutAt [100001]) TTok mixed _ _ _ ?_)
 conv => whnf
 repeat ((refine ⟨rfl, ?_⟩); conv => whnf)
 refine Does.freeze 0 rfl (Does.freeze 1 (zs := entC b) (by show some (frzL 0 _ (entC b)) = _; rw [entC_frz]) (Does.tidy [(2, .rop (entC a)), (3, .rop (entC b))] [] 2 45 rfl rfl rfl (by kernel_rfl) (by kernel_rfl) ?_))
 refine wpc_sound (M := MK) (PL := PL0) (CU := noCut) TTok mixed _ _ _ ?_
 conv => whnf
 repeat ((refine ⟨_, rfl, ?_⟩); conv => whnf)
 refine ⟨a.au, b.au, ⟨rfl, c32_map ha.au.2, c32_map hb.au.2, ha.au.2, hb.au.2⟩, ?_⟩
 conv => whnf
 by_cases c1 : a.au = b.au
 ·rw [dt c1]
  conv => whnf
  repeat ((first | refine ifB_t ?_ | refine ⟨_, rfl, ?_⟩); conv => whnf)
  by_cases c2 : a.seq = b.seq
  ·rw [dt c2]
   conv => whnf
   repeat ((first | refine ifB_t ?_ | refine ⟨_, rfl, ?_⟩); conv => whnf)
   refine ⟨a.prev, b.prev, ⟨rfl, c32_map ha.prev.2, c32_map hb.prev.2, ha.prev.2, hb.prev.2⟩, ?_⟩
   conv => whnf
   repeat ((refine ifB_t ?_); conv => whnf)
   by_cases c3 : a.prev = b.prev
   ·rw [dt c3]
    conv => whnf
    repeat ((first | refine ifB_t ?_ | refine ⟨_, rfl, ?_⟩); conv => whnf)
    by_cases c4 : a.stamp = b.stamp
    ·rw [dt c4]
     conv => whnf
     repeat ((first | refine ifB_t ?_ | refine ⟨entC_pure _, ?_⟩ | refine ⟨rfl, ?_⟩ | refine ⟨_, rfl, ?_⟩); conv => whnf)
     cases c5 : opEq a b <;> rw [c5] at h
     ·refine ⟨_, _, h, by first | rfl | simp [noRoIf, noRoL, noRoV, noRoL_bys], ?_⟩
      conv => whnf
      repeat ((first | refine ifB_t ?_ | refine ifB_f ?_ | refine ⟨rfl, ?_⟩); conv => whnf)
      rfl
     ·refine ⟨_, _, h, by first | rfl | simp [noRoIf, noRoL, noRoV, noRoL_bys], ?_⟩
      conv => whnf
      repeat ((first | refine ifB_t ?_ | refine ⟨_, rfl, ?_⟩); conv => whnf)
      refine ⟨a.sig, b.sig, ⟨rfl, c64_map ha.sig.2, c64_map hb.sig.2, ha.sig.2, hb.sig.2⟩, ?_⟩
      conv => whnf
      repeat ((first | refine ifB_t ?_ | refine ⟨rfl, ?_⟩); conv => whnf)
      rfl
    ·rw [df c4]
     conv => whnf
     repeat ((first | refine ifB_f ?_ | refine ⟨rfl, ?_⟩); conv => whnf)
     rfl
   ·rw [df c3]
    conv => whnf
    repeat ((first | refine ifB_f ?_ | refine ⟨rfl, ?_⟩); conv => whnf)
    rfl
  ·rw [df c2]
   conv => whnf
   repeat ((first | refine ifB_f ?_ | refine ⟨rfl, ?_⟩); conv => whnf)
   rfl
 ·rw [df c1]
  conv => whnf
  repeat ((first | refine ifB_f ?_ | refine ⟨rfl, ?_⟩); conv => whnf)
  rfl
end
section
--KR
attribute [local irreducible] ifB fitP Does Weaker
set_option maxRecDepth 20000 in
set_option maxHeartbeats 4000000 in
theorem kprf_ok (a b : Prf) (ha : PrfS a) (hb : PrfS b) : ACall Tryz.prog 14 [.agg (prfC a), .agg (prfC b)] (.bool (decide (a = b))) [] := by
 have h1 := kent_ok a.a b.a ha.a hb.a
 have h2 := kent_ok a.b b.b ha.b hb.b
 have e : decide (a = b) = (decide (a.a = b.a) && decide (a.b = b.b)) := by
  obtain ⟨x, y⟩ := a
  obtain ⟨z, w⟩ := b
  rw [Bool.eq_iff_iff]
  simp
 rw [e]
 refine ACall.of_does TTok Tryz.func14 rfl Tryz.call14 rfl (wpc_sound (M := MK) (PL := PL0) (CU := cutAt [100001]) TTok mixed _ _ _ ?_)
 conv => whnf
 repeat ((refine ⟨rfl, ?_⟩); conv => whnf)
 refine Does.tidy [(2, .ptr 0 0), (3, .ptr 1 0)] [(0, prfC a), (1, prfC b)] 2 17 rfl rfl rfl (by kernel_rfl) (by kernel_rfl) ?_
 refine wpc_sound (M := MK) (PL := PL0) (CU := noCut) TTok mixed _ _ _ ?_
 by_cases c1 : a.a = b.a
 ·rw [dt c1] at h1 ⊢
  conv => whnf
  repeat ((first | refine ⟨entC_pure _, ?_⟩ | refine ⟨rfl, ?_⟩ | refine ⟨_, rfl, ?_⟩); conv => whnf)
  refine ⟨_, _, h1, by first | rfl | simp [noRoIf, noRoL, noRoV, noRoL_bys], ?_⟩
  conv => whnf
  repeat ((first | refine ifB_t ?_ | refine ⟨entC_pure _, ?_⟩ | refine ⟨rfl, ?_⟩ | refine ⟨_, rfl, ?_⟩); conv => whnf)
  refine ⟨_, _, h2, by first | rfl | simp [noRoIf, noRoL, noRoV, noRoL_bys], ?_⟩
  conv => whnf
  repeat ((first | refine ifB_t ?_ | refine ⟨rfl, ?_⟩); conv => whnf)
  rfl
 ·rw [df c1] at h1 ⊢
  conv => whnf
  repeat ((first | refine ⟨entC_pure _, ?_⟩ | refine ⟨rfl, ?_⟩ | refine ⟨_, rfl, ?_⟩); conv => whnf)
  refine ⟨_, _, h1, by first | rfl | simp [noRoIf, noRoL, noRoV, noRoL_bys], ?_⟩
  conv => whnf
  repeat ((first | refine ifB_f ?_ | refine ⟨rfl, ?_⟩); conv => whnf)
  rfl
theorem takeOk_row {α : Type} {f : α → List AV} {n : Nat} (hf : ∀ x, (f x).length = n) (hn : 0 < n) {l : List α} {j m : Nat} (h : j < l.length) (hm : m = n * j) {ops : Array Oper} {st : St} {dst : Option Tmp} {ty : TypeId} {pos : String} {af : Array Edge} {t : TypeId} {a : Operand} (he : evalO st.env a = .rop (List.drop m (rowsC f l))) : takeOk ops ⟨dst, .load t a, ty, pos, af, none⟩ st = true := by
 show roLoad st (.load t a) = true
 have hl : 0 < (List.drop m (rowsC f l)).length := by rw [rowsC_at hf h hm, List.length_append, hf]; omega
 simp only [roLoad, he]
 generalize List.drop m (rowsC f l) = cs at hl
 cases cs with
 | nil => simp at hl
 | cons x r => rfl
theorem list_all_eq {α : Type} [DecidableEq α] (d : α) {x y : List α} (hl : x.length = y.length) (h : ∀ j, j < x.length → x.getD j d = y.getD j d) : x = y := by
 refine List.ext_getElem hl fun j h1 h2 => ?_
 have := h j h1
 rwa [List.getD_eq_getElem?_getD, List.getD_eq_getElem?_getD, List.getElem?_eq_getElem h1, List.getElem?_eq_getElem h2] at this
def PLkl : Nat → Bool × Plan := plans [(6, (false, takesTo [0, 1, 2, 3, 4, 5, 6, 7] (.all [(8, takes [9])])))]
set_option maxHeartbeats 1000000 in
theorem kents_ok (x y : List Ent) (hx : ∀ e ∈ x, EntS e) (hy : ∀ e ∈ y, EntS e) (lx : x.length ≤ 1000000000) (ly : y.length ≤ 1000000000) : ACall Tryz.prog 32 [.ro x.length (rowsC entC x), .ro y.length (rowsC entC y)] (.bool (decide (x = y))) [] := by
 refine ACall.of_does TTok Tryz.func32 rfl Tryz.call32 rfl (wpc_sound (M := MK) (PL := PLkl) (CU := noCut) TTok mixed _ _ _ ?_)
 by_cases c0 : x.length = y.length
 case neg =>
  rw [df (show ¬ x = y from fun e => c0 (by rw [e]))]
  conv => whnf
  repeat ((first | (refine ifB_pos (decide_eq_true (by first | omega | rfl | (dsimp only; omega))) ?_) | refine ⟨rfl, ?_⟩); conv => whnf)
  rfl
 conv => whnf
 repeat ((refine ifB_neg (decide_eq_false (by first | omega | rfl | (dsimp only; omega))) ?_); conv => whnf)
 refine Does.loop (fun c : Nat => mkSt [(0, .ro x.length (rowsC entC x)), (1, .ro y.length (rowsC entC y)), (5, .int .i64 c)] [] 0 27)
  (fun c => c ≤ x.length ∧ ∀ j, j < c → x.getD j ent0 = y.getD j ent0) (fun c => x.length - c) ?_ 0 ⟨Nat.zero_le _, fun j h => by omega⟩ ?_
 ·rintro c ⟨hc, hj⟩
  rcases Nat.lt_or_ge c x.length with c1 | c1
  ·have c2 : c < y.length := by omega
   have h := kent_ok x[c] y[c] (hx _ (List.getElem_mem c1)) (hy _ (List.getElem_mem c2))
   have hd : x.getD c ent0 = x[c] ∧ y.getD c ent0 = y[c] := by
    rw [List.getD_eq_getElem?_getD, List.getD_eq_getElem?_getD, List.getElem?_eq_getElem c1, List.getElem?_eq_getElem c2]; exact ⟨rfl, rfl⟩
   refine wpc_sound (M := MK) (PL := PLkl) (CU := noCut) TTok mixed _ _ _ ?_
   conv => whnf
   repeat ((refine ifB_pos (decide_eq_true (by first | omega | rfl | (dsimp only; omega))) ?_); conv => whnf)
   refine ⟨by kernel_rfl, ?_⟩
   conv => whnf
   repeat ((refine ⟨⟨?_, ?_, ?_⟩, ?_⟩; (focus omega); (focus (first | omega | (simp; done) | (simp; omega))); (focus (first | (rw [prfs_len]; simp; omega) | (rw [ents_len]; simp; omega) | (rw [hds_len]; simp; omega) | (rw [lets_len]; simp; omega)))); conv => whnf)
   conv => whnf
   repeat' (first | (refine ⟨entC_pure _, ?_⟩; (conv => whnf)) | (refine ⟨rfl, ?_⟩; (conv => whnf)) | (refine ⟨⟨?_, ?_, ?_⟩, ?_⟩; (focus omega); (focus (first | omega | (simp; done) | (simp; omega))); (focus (first | (rw [prfs_len]; simp; omega) | (rw [ents_len]; simp; omega) | (rw [hds_len]; simp; omega) | (rw [lets_len]; simp; omega))); (conv => whnf)) | (refine ⟨_, takeN_row entC_length c1 (by simp; omega) rfl, ?_⟩; conv => whnf) | (refine ⟨_, takeN_row entC_length c2 (by simp; omega) rfl, ?_⟩; conv => whnf) | (refine ⟨takeOk_row entC_length (by decide) c1 (by simp; omega) rfl, ?_⟩; conv => whnf) | (refine ⟨takeOk_row entC_length (by decide) c2 (by simp; omega) rfl, ?_⟩; conv => whnf) | (refine ⟨entC_pure _, ?_⟩; conv => whnf) | (refine ⟨_, rfl, ?_⟩; conv => whnf) | (refine And.intro ?_ ?_ <;> conv => whnf))
   by_cases c3 : x[c] = y[c]
   ·rw [dt c3] at h
    refine ⟨_, _, h, by first | rfl | simp [noRoIf, noRoL, noRoV, noRoL_bys], ?_⟩
    conv => whnf
    repeat ((first | refine ifB_f ?_ | (refine fit_i64 ⟨by first | omega | rfl | (dsimp only; omega), by first | omega | rfl | (dsimp only; omega)⟩ ?_)); conv => whnf)
    refine ⟨c + 1, ⟨by omega, fun j hj' => ?_⟩, by omega, weaker_of [] rfl rfl ⟨⟨rfl, rfl, ents_pure _⟩, ⟨rfl, rfl, ents_pure _⟩, ⟨rfl, rfl⟩, trivial⟩ trivial⟩
    rcases Nat.lt_or_ge j c with k | k
    ·exact hj j k
    ·obtain rfl : j = c := by omega
     rw [hd.1, hd.2, c3]
   ·rw [df c3] at h
    have : x ≠ y := fun e => by subst e; exact c3 rfl
    rw [df this]
    refine ⟨_, _, h, by first | rfl | simp [noRoIf, noRoL, noRoV, noRoL_bys], ?_⟩
    conv => whnf
    repeat ((first | refine ifB_t ?_ | refine ⟨rfl, ?_⟩); conv => whnf)
    rfl
  ·obtain rfl : c = x.length := by omega
   rw [dt (list_all_eq ent0 c0 hj)]
   refine wpc_sound (M := MK) (PL := PLkl) (CU := noCut) TTok mixed _ _ _ ?_
   conv => whnf
   repeat ((first | (refine ifB_neg (decide_eq_false (by first | omega | rfl | (dsimp only; omega))) ?_) | refine ⟨rfl, ?_⟩); conv => whnf)
   rfl
 ·exact weaker_of [] rfl rfl ⟨⟨rfl, rfl, ents_pure _⟩, ⟨rfl, rfl, ents_pure _⟩, ⟨rfl, rfl⟩, trivial⟩ trivial
end
section
--KR
attribute [local irreducible] ifB fitP Does Weaker
end
section
--KR
attribute [local irreducible] ifB fitP Does Weaker
end
section
--KR
attribute [local irreducible] ifB fitP Does Weaker demsP
theorem entV_val (e : Ent) : entV e (roW e.val) = entC e := by rw [roW_eq]; rfl
theorem ent_dems1 {H : Heap} {e : Ent} {zs : List AV} {K : List Nat → Prop} (hz : zs = entC e) (h : K []) : demsP H [.agg (entC e)] [.agg zs] K := by
 subst hz
 simp only [demsP, demP]
 refine ent_dems e ?_
 simpa only [and_self, true_and, List.nil_append] using h
set_option maxRecDepth 20000 in
set_option maxHeartbeats 2000000 in
theorem ktwin_ok (e : Ent) (he : EntS e) : ACall Tryz.prog 11 [.agg (entC e)] (.agg (entC e)) [] := by
 have h := twin_ok e.val (by have := he.val'; omega)
 refine ACall.of_does TTok Tryz.func11 rfl Tryz.call11 rfl (wpc_sound (M := MK) (PL := PL0) (CU := cutAt [100002]) TTok mixed _ _ _ ?_)
 conv => whnf
 repeat ((first | refine ⟨pureL_bys _, ?_⟩ | refine ⟨rfl, ?_⟩ | refine ⟨_, rfl, ?_⟩); conv => whnf)
 refine ⟨_, _, h, by first | rfl | simp [noRoIf, noRoL, noRoV, noRoL_bys], ?_⟩
 conv => whnf
 repeat ((refine ⟨(⟨by kernel_rfl, by kernel_rfl, Nat.le_of_ble_eq_true (by kernel_rfl)⟩ : AV.ones _ = true ∧ _ ∧ _), ?_⟩); conv => whnf)
 refine Does.freeze 2 rfl (Does.tidy [(1, .ptr 0 0), (2, .ptr 1 0)] [(0, entC e), (1, zeroE)] 3 10 rfl rfl rfl (by kernel_rfl) (by rw [← entV_val]; kernel_rfl) ?_)
 refine wpc_sound (M := MK) (PL := PL0) (CU := noCut) TTok mixed _ _ _ ?_
 conv => whnf
 refine ⟨entC e, by kernel_rfl, ?_⟩
 conv => whnf
 refine ⟨(⟨by kernel_rfl, by kernel_rfl, Nat.le_of_ble_eq_true (by kernel_rfl)⟩ : AV.ones _ = true ∧ _ ∧ _), ?_⟩
 conv => whnf
 refine ⟨entC e, by kernel_rfl, ?_⟩
 conv => whnf
 refine ent_dems1 (by kernel_rfl) ?_
 rfl
end
section
--KR
attribute [local irreducible] ifB fitP Does Weaker demsP
set_option maxRecDepth 20000 in
set_option maxHeartbeats 2000000 in
theorem etwin_ok (e : Ent) (he : EntS e) : ACall Tryz.prog 74 [.agg (entC e)] (.agg (entC e)) [] := by
 have h := bclone_ok e.val (by have := he.val'; omega)
 refine ACall.of_does TTok Tryz.func74 rfl Tryz.call74 rfl (wpc_sound (M := ME) (PL := PL0) (CU := cutAt [100002]) TTok mixed _ _ _ ?_)
 conv => whnf
 repeat (first | (refine ifB_t ?_; conv => whnf) | (refine ifB_f ?_; conv => whnf) | (refine ifB_neg (decide_eq_false (by first | omega | rfl | (dsimp only; omega))) ?_; conv => whnf) | (refine ifB_pos (decide_eq_true (by first | omega | rfl | (dsimp only; omega))) ?_; conv => whnf) | (refine fit_i64 ⟨by first | omega | rfl | (dsimp only; omega), by first | omega | rfl | (dsimp only; omega)⟩ ?_; conv => whnf) | (refine fit_u64 ⟨by first | omega | rfl | (dsimp only; omega), by first | omega | rfl | (dsimp only; omega)⟩ ?_; conv => whnf) | (refine fit_u8 ⟨by first | omega | rfl | (dsimp only; omega), by first | omega | rfl | (dsimp only; omega)⟩ ?_; conv => whnf) | (refine ⟨pureL_bys _, ?_⟩; conv => whnf) | (refine ⟨ones_bys _, ?_⟩; conv => whnf) | (refine ⟨pureL_cutB _ _ _ _, ?_⟩; conv => whnf) | (refine ⟨(⟨by kernel_rfl, by kernel_rfl, Nat.le_of_ble_eq_true (by kernel_rfl)⟩ : AV.ones _ = true ∧ _ ∧ _), ?_⟩; conv => whnf) | (refine ⟨⟨by first | (simp only [List.drop_zero, List.length_drop, hds_len]; omega) | exact Nat.le_of_ble_eq_true (by kernel_rfl), okB_none _⟩, ?_⟩; conv => whnf) | (refine ⟨entC_pure _, ?_⟩; conv => whnf) | (refine Or.inl ⟨⟨rfl, ?_⟩, ?_⟩; (focus (first | rfl | (simp; done) | (rw [toksC_length]; omega))); conv => whnf) | (refine ⟨rfl, ?_⟩; conv => whnf) | (refine ⟨_, rfl, ?_⟩; conv => whnf) | (refine ⟨⟨rfl, rfl⟩, ?_⟩; conv => whnf) | (refine ⟨⟨rfl, rfl, rfl, ?_, pureL_bys _⟩, ?_⟩; (focus (simp; done)); conv => whnf) | (refine ⟨⟨rfl, rfl, ?_, pureL_bys _⟩, ?_⟩; (focus (simp; done)); conv => whnf) | (refine ⟨⟨rfl, rfl, rfl, ?_, pureL_toks _⟩, ?_⟩; (focus (rw [toksC_length]; omega)); conv => whnf) | (refine ⟨⟨rfl, rfl, ?_, pureL_toks _⟩, ?_⟩; (focus (rw [toksC_length]; omega)); conv => whnf) | (refine ⟨⟨rfl, rfl, ?_⟩, ?_⟩; (focus (first | assumption | exact pureL_bys _ | exact pureL_toks _)); conv => whnf) | (refine ⟨⟨rfl, rfl, ?_⟩, ?_⟩; (focus (first | exact Nat.le_of_ble_eq_true rfl | (simp; done))); conv => whnf) | (refine And.intro (by first | omega | rfl | (dsimp only; omega)) ?_; conv => whnf) | (refine ⟨⟨rfl, ?_⟩, ?_⟩; (focus (first | (simp only [okB]; omega) | (simp [okB]; omega))); conv => whnf) | (refine ⟨⟨?_, ?_, ?_⟩, ?_⟩; (focus omega); (focus (first | omega | (simp; done) | (simp; omega))); (focus (first | (simp; done) | (simp; omega) | (rw [toksC_length]; simp; omega))); conv => whnf) | (refine ⟨roLoad_ok rfl ?_, ?_⟩; (focus (simp [toksC_length]; omega)); conv => whnf) | (refine ⟨⟨?_, ?_⟩, ?_⟩; (focus (simp; done)); (focus (first | (simp only [okB]; omega) | (simp [okB]; omega))); conv => whnf) | (refine And.intro ?_ ?_; (focus (first | (simp only [pureL, pureV, pureL_bys, Bool.and_true, Bool.and_self]; done) | (simp only [pureL, pureV, pureL_bys, pureL_toks, Bool.and_true, Bool.and_self]; done))); conv => whnf) | (refine ⟨⟨rfl, rfl, ?_, ?_⟩, ?_⟩; (focus (first | (simp [lenB, offB]; done) | (simp [lenB, offB]; omega))); (focus (first | (simp [limB, lenB, offB]; done) | (simp [limB, lenB, offB]; omega))); conv => whnf) | (refine ⟨⟨rfl, ?_, ?_, ?_⟩, ?_⟩; (focus (first | (simp; done) | (simp; omega))); (focus (first | exact Or.inl rfl | exact Or.inr (by omega))); (focus (first | (simp [limB, lenB, offB]; done) | (simp [limB, lenB, offB]; omega))); conv => whnf) | (refine And.intro ?_ ?_; (focus (first | (simp [limB, lenB, offB]; done) | (simp [limB, lenB, offB]; omega))); conv => whnf) | (refine ⟨ones_toks _, ?_⟩; conv => whnf) | (refine And.intro ?_ ?_; (focus (simp [pureL, pureV, pureL_bys, pureL_toks, pureL_app]; done)); conv => whnf) | (refine fit_i64 ⟨by first | (simp; done) | (simp; omega), by first | (simp; done) | (simp; omega)⟩ ?_; conv => whnf) | (refine ifB_neg (decide_eq_false (by first | (simp; done) | (simp; omega))) ?_; conv => whnf) | (refine ifB_pos (decide_eq_true (by first | (simp; done) | (simp; omega))) ?_; conv => whnf) | (refine Or.inl ⟨⟨rfl, ?_⟩, ?_⟩; (focus (first | (simp [toksC_length]; done) | (simp [toksC_length]; omega))); conv => whnf) | (refine ⟨⟨rfl, rfl, ?_, ?_⟩, ?_⟩; (focus (first | (simp [toksC_length]; done) | (simp [toksC_length]; omega))); (focus (first | (simp [limB, lenB, offB]; done) | (simp [limB, lenB, offB]; omega))); conv => whnf) | (refine ⟨⟨rfl, ?_, ?_, ?_⟩, ?_⟩; (focus (first | (simp [toksC_length]; done) | (simp [toksC_length]; omega))); (focus (first | exact Or.inl rfl | exact Or.inr (by omega))); (focus (first | (simp [limB, lenB, offB]; done) | (simp [limB, lenB, offB]; omega))); conv => whnf) | (refine And.intro ?_ ?_; (focus (first | (simp [toksC_length]; done) | (simp [toksC_length]; omega))); conv => whnf) | (refine ⟨pureL_take (pureL_drop (pureL_bys _) _) _, ?_⟩; conv => whnf) | (refine ⟨pureL_take (pureL_drop (pureL_toks _) _) _, ?_⟩; conv => whnf) | (refine ⟨pureL_ints _, ?_⟩; conv => whnf) | (refine ⟨ones_ints _, ?_⟩; conv => whnf) | (refine ⟨ones_part (ones_ints _) _ _, ?_⟩; conv => whnf) | (refine ⟨ones_part (ones_toks _) _ _, ?_⟩; conv => whnf) | (refine ⟨ones_part (ones_bys _) _ _, ?_⟩; conv => whnf) | (refine ⟨⟨?_, ?_, ?_⟩, ?_⟩; (focus omega); (focus (first | omega | (simp; done) | (simp; omega))); (focus (first | (rw [prfs_len]; simp; omega) | (rw [ents_len]; simp; omega) | (rw [hds_len]; simp; omega) | (rw [lets_len]; simp; omega))); conv => whnf) | (refine ⟨(show pureL (rowsC _ _) = true from by first | exact prfs_pure _ | exact ents_pure _ | exact hds_pure _ | exact lets_pure _), ?_⟩; conv => whnf) | (refine ⟨(show pureL _ = true from by first | exact prfC_pure _ | exact hdC_pure _ | exact msgC_pure _ | exact letC_pure _), ?_⟩; conv => whnf))
 refine ⟨_, _, h, by first | rfl | simp [noRoIf, noRoL, noRoV, noRoL_bys], ?_⟩
 conv => whnf
 repeat (first | (refine ifB_t ?_; conv => whnf) | (refine ifB_f ?_; conv => whnf) | (refine ifB_neg (decide_eq_false (by first | omega | rfl | (dsimp only; omega))) ?_; conv => whnf) | (refine ifB_pos (decide_eq_true (by first | omega | rfl | (dsimp only; omega))) ?_; conv => whnf) | (refine fit_i64 ⟨by first | omega | rfl | (dsimp only; omega), by first | omega | rfl | (dsimp only; omega)⟩ ?_; conv => whnf) | (refine fit_u64 ⟨by first | omega | rfl | (dsimp only; omega), by first | omega | rfl | (dsimp only; omega)⟩ ?_; conv => whnf) | (refine fit_u8 ⟨by first | omega | rfl | (dsimp only; omega), by first | omega | rfl | (dsimp only; omega)⟩ ?_; conv => whnf) | (refine ⟨pureL_bys _, ?_⟩; conv => whnf) | (refine ⟨ones_bys _, ?_⟩; conv => whnf) | (refine ⟨pureL_cutB _ _ _ _, ?_⟩; conv => whnf) | (refine ⟨(⟨by kernel_rfl, by kernel_rfl, Nat.le_of_ble_eq_true (by kernel_rfl)⟩ : AV.ones _ = true ∧ _ ∧ _), ?_⟩; conv => whnf) | (refine ⟨⟨by first | (simp only [List.drop_zero, List.length_drop, hds_len]; omega) | exact Nat.le_of_ble_eq_true (by kernel_rfl), okB_none _⟩, ?_⟩; conv => whnf) | (refine ⟨entC_pure _, ?_⟩; conv => whnf) | (refine Or.inl ⟨⟨rfl, ?_⟩, ?_⟩; (focus (first | rfl | (simp; done) | (rw [toksC_length]; omega))); conv => whnf) | (refine ⟨rfl, ?_⟩; conv => whnf) | (refine ⟨_, rfl, ?_⟩; conv => whnf) | (refine ⟨⟨rfl, rfl⟩, ?_⟩; conv => whnf) | (refine ⟨⟨rfl, rfl, rfl, ?_, pureL_bys _⟩, ?_⟩; (focus (simp; done)); conv => whnf) | (refine ⟨⟨rfl, rfl, ?_, pureL_bys _⟩, ?_⟩; (focus (simp; done)); conv => whnf) | (refine ⟨⟨rfl, rfl, rfl, ?_, pureL_toks _⟩, ?_⟩; (focus (rw [toksC_length]; omega)); conv => whnf) | (refine ⟨⟨rfl, rfl, ?_, pureL_toks _⟩, ?_⟩; (focus (rw [toksC_length]; omega)); conv => whnf) | (refine ⟨⟨rfl, rfl, ?_⟩, ?_⟩; (focus (first | assumption | exact pureL_bys _ | exact pureL_toks _)); conv => whnf) | (refine ⟨⟨rfl, rfl, ?_⟩, ?_⟩; (focus (first | exact Nat.le_of_ble_eq_true rfl | (simp; done))); conv => whnf) | (refine And.intro (by first | omega | rfl | (dsimp only; omega)) ?_; conv => whnf) | (refine ⟨⟨rfl, ?_⟩, ?_⟩; (focus (first | (simp only [okB]; omega) | (simp [okB]; omega))); conv => whnf) | (refine ⟨⟨?_, ?_, ?_⟩, ?_⟩; (focus omega); (focus (first | omega | (simp; done) | (simp; omega))); (focus (first | (simp; done) | (simp; omega) | (rw [toksC_length]; simp; omega))); conv => whnf) | (refine ⟨roLoad_ok rfl ?_, ?_⟩; (focus (simp [toksC_length]; omega)); conv => whnf) | (refine ⟨⟨?_, ?_⟩, ?_⟩; (focus (simp; done)); (focus (first | (simp only [okB]; omega) | (simp [okB]; omega))); conv => whnf) | (refine And.intro ?_ ?_; (focus (first | (simp only [pureL, pureV, pureL_bys, Bool.and_true, Bool.and_self]; done) | (simp only [pureL, pureV, pureL_bys, pureL_toks, Bool.and_true, Bool.and_self]; done))); conv => whnf) | (refine ⟨⟨rfl, rfl, ?_, ?_⟩, ?_⟩; (focus (first | (simp [lenB, offB]; done) | (simp [lenB, offB]; omega))); (focus (first | (simp [limB, lenB, offB]; done) | (simp [limB, lenB, offB]; omega))); conv => whnf) | (refine ⟨⟨rfl, ?_, ?_, ?_⟩, ?_⟩; (focus (first | (simp; done) | (simp; omega))); (focus (first | exact Or.inl rfl | exact Or.inr (by omega))); (focus (first | (simp [limB, lenB, offB]; done) | (simp [limB, lenB, offB]; omega))); conv => whnf) | (refine And.intro ?_ ?_; (focus (first | (simp [limB, lenB, offB]; done) | (simp [limB, lenB, offB]; omega))); conv => whnf) | (refine ⟨ones_toks _, ?_⟩; conv => whnf) | (refine And.intro ?_ ?_; (focus (simp [pureL, pureV, pureL_bys, pureL_toks, pureL_app]; done)); conv => whnf) | (refine fit_i64 ⟨by first | (simp; done) | (simp; omega), by first | (simp; done) | (simp; omega)⟩ ?_; conv => whnf) | (refine ifB_neg (decide_eq_false (by first | (simp; done) | (simp; omega))) ?_; conv => whnf) | (refine ifB_pos (decide_eq_true (by first | (simp; done) | (simp; omega))) ?_; conv => whnf) | (refine Or.inl ⟨⟨rfl, ?_⟩, ?_⟩; (focus (first | (simp [toksC_length]; done) | (simp [toksC_length]; omega))); conv => whnf) | (refine ⟨⟨rfl, rfl, ?_, ?_⟩, ?_⟩; (focus (first | (simp [toksC_length]; done) | (simp [toksC_length]; omega))); (focus (first | (simp [limB, lenB, offB]; done) | (simp [limB, lenB, offB]; omega))); conv => whnf) | (refine ⟨⟨rfl, ?_, ?_, ?_⟩, ?_⟩; (focus (first | (simp [toksC_length]; done) | (simp [toksC_length]; omega))); (focus (first | exact Or.inl rfl | exact Or.inr (by omega))); (focus (first | (simp [limB, lenB, offB]; done) | (simp [limB, lenB, offB]; omega))); conv => whnf) | (refine And.intro ?_ ?_; (focus (first | (simp [toksC_length]; done) | (simp [toksC_length]; omega))); conv => whnf) | (refine ⟨pureL_take (pureL_drop (pureL_bys _) _) _, ?_⟩; conv => whnf) | (refine ⟨pureL_take (pureL_drop (pureL_toks _) _) _, ?_⟩; conv => whnf) | (refine ⟨pureL_ints _, ?_⟩; conv => whnf) | (refine ⟨ones_ints _, ?_⟩; conv => whnf) | (refine ⟨ones_part (ones_ints _) _ _, ?_⟩; conv => whnf) | (refine ⟨ones_part (ones_toks _) _ _, ?_⟩; conv => whnf) | (refine ⟨ones_part (ones_bys _) _ _, ?_⟩; conv => whnf) | (refine ⟨⟨?_, ?_, ?_⟩, ?_⟩; (focus omega); (focus (first | omega | (simp; done) | (simp; omega))); (focus (first | (rw [prfs_len]; simp; omega) | (rw [ents_len]; simp; omega) | (rw [hds_len]; simp; omega) | (rw [lets_len]; simp; omega))); conv => whnf) | (refine ⟨(show pureL (rowsC _ _) = true from by first | exact prfs_pure _ | exact ents_pure _ | exact hds_pure _ | exact lets_pure _), ?_⟩; conv => whnf) | (refine ⟨(show pureL _ = true from by first | exact prfC_pure _ | exact hdC_pure _ | exact msgC_pure _ | exact letC_pure _), ?_⟩; conv => whnf))
 refine Does.freeze 2 rfl (Does.tidy [(1, .ptr 0 0), (2, .ptr 1 0)] [(0, entC e), (1, zeroE)] 3 10 rfl rfl rfl (by kernel_rfl) (by rw [← entV_val]; kernel_rfl) ?_)
 refine wpc_sound (M := ME) (PL := PL0) (CU := noCut) TTok mixed _ _ _ ?_
 conv => whnf
 refine ⟨entC e, by kernel_rfl, ?_⟩
 conv => whnf
 refine ⟨(⟨by kernel_rfl, by kernel_rfl, Nat.le_of_ble_eq_true (by kernel_rfl)⟩ : AV.ones _ = true ∧ _ ∧ _), ?_⟩
 conv => whnf
 refine ⟨entC e, by kernel_rfl, ?_⟩
 conv => whnf
 refine ent_dems1 (by kernel_rfl) ?_
 rfl
end
section

theorem Weaker.trunc {k : Nat} {st : St} {id : Nat} {cs : List AV} (m : Nat) (h : st.heap id = some cs) : Weaker k st { st with heap := setH st.heap id (some (cs.take m)) } := by
 intro Z E a S
 have hs : (setH st.heap id (some (cs.take m))) id = some (cs.take m) := by simp [setH]
 have hn : ∀ i, i ≠ id → (setH st.heap id (some (cs.take m))) i = st.heap i := fun i hi => by
  have : Nat.beq i id = false := by
   cases hb : Nat.beq i id
   ·rfl
   ·exact (hi (Nat.eq_of_beq_eq_true hb)).elim
  simp [setH, this]
 have hk : ∀ i, (setH st.heap id (some (cs.take m))) i ≠ none → st.heap i ≠ none := fun i hi => by
  by_cases e : i = id
  ·subst e; rw [h]; simp
  ·rwa [hn i e] at hi
 have hw : ∀ b, Wr E.ρ (setH st.heap id (some (cs.take m))) b ↔ Wr E.ρ st.heap b := fun b => by
  constructor
  ·rintro ⟨i, ys, h1, h2⟩
   cases hq : st.heap i with
   | none => exact (hk i (by rw [h1]; simp) hq).elim
   | some zs => exact ⟨i, zs, hq, h2⟩
  ·rintro ⟨i, ys, h1, h2⟩
   by_cases e : i = id
   ·subst e; exact ⟨i, _, hs, h2⟩
   ·exact ⟨i, ys, by rw [hn i e]; exact h1, h2⟩
 refine ⟨E, ⟨S.env, S.sz, S.dfr, ?_⟩, rfl, ⟨rfl, Evo.refl _ _, fun b _ hb => (hw b).1 hb, fun _ _ _ h => h⟩⟩
 exact {
  blk := fun i ys hi => by
   dsimp only at hi
   by_cases e : i = id
   ·subst e
    rw [hs] at hi
    cases hi
    rcases S.heap.blk i cs h with ⟨b1, rfl⟩ | ⟨n, b1, c, e, fr, b2, b3, b4, b5⟩
    ·exact .inl ⟨b1, by simp⟩
    ·refine .inr ⟨n, b1, c, e, fr, b2, b3, by simp only [List.length_take]; omega, fun j x hx => ?_⟩
     refine b5 j x ?_
     rw [List.getElem?_take] at hx
     split at hx
     ·exact hx
     ·cases hx
   ·rw [hn i e] at hi
    exact S.heap.blk i ys hi
  inj := fun i i' n h1 h2 h3 h4 => S.heap.inj i i' n (hk i h1) (hk i' h2) h3 h4
  V := fun b => (S.heap.V b).trans (or_congr Iff.rfl (hw b).symm)
  apart := fun i n h1 h2 => S.heap.apart i n (hk i h1) h2
  fresh := fun i hi => by
   have f := S.heap.fresh i hi
   refine ⟨f.1, ?_⟩
   have e : i ≠ id := fun e => by subst e; rw [h] at f; cases f.2
   show (setH st.heap id (some (cs.take m))) i = none
   rw [hn i e]; exact f.2
  one := S.heap.one
  old := S.heap.old
  zold := S.heap.zold
  tab := S.heap.tab }
end
section

attribute [local irreducible] ifB fitP Does Weaker
def u32s (l : List Int) : List AV := l.map (AV.int .u32)
theorem u32s_length (l : List Int) : (u32s l).length = l.length := by simp [u32s]
theorem u32s_ones : ∀ l : List Int, (u32s l).all AV.one = true
 | [] => rfl
 | x :: l => u32s_ones l
theorem u32s_pure : ∀ l : List Int, pureL (u32s l) = true
 | [] => rfl
 | x :: l => by simp only [u32s, List.map_cons, pureL, pureV, Bool.true_and]; exact u32s_pure l
theorem u32s_get {l : List Int} {i m : Nat} (h : i < l.length) (hm : m = i) : ((u32s l).drop m)[0]? = some (.int .u32 (l.getD i 0)) := by
 subst hm
 simp [u32s, h, List.getD]
theorem u32s_set (l : List Int) (i : Nat) (x : Int) : setN (u32s l) i [.int .u32 x] = u32s (l.set i x) := by
 simp [setN, u32s, List.map_set]
theorem and_mask64 (x : Int) (m : Nat) (hm : m < 9223372036854775808) : ∃ r : Nat, bits .and .u64 x m = r ∧ r ≤ m := by
 let q : Nat := (BitVec.ofInt 64 x &&& BitVec.ofInt 64 m).toNat
 have hq : q ≤ m := by
  have e : (BitVec.ofInt 64 (m : Int)).toNat = m := by simp; omega
  simp only [q, BitVec.toNat_and]
  exact Nat.le_trans Nat.and_le_right (by omega)
 refine ⟨q, ?_, hq⟩
 show IntKind.u64.wrap (q : Int) = q
 rw [wrap_u64]
 omega
theorem get_bys2 {l : List Int} {c m : Nat} (h : c < l.length) (hm : m = c) : ((bys l).drop m)[0]? = some (.int .u8 l[c]) := by
 subst hm; exact get_bys h
theorem u32s_les {o : Nat → Option Nat} : ∀ {l : List Int} {xs : List AV}, xs = u32s l → lesP o (u32s l) xs
 | [], _, h => by subst h; trivial
 | x :: l, _, h => by subst h; exact ⟨⟨rfl, rfl⟩, u32s_les rfl⟩
theorem lesP_refl_u {o : Nat → Option Nat} (l : List Int) : lesP o (u32s l) (u32s l) := u32s_les rfl
def rotS (k : Int) : Int := bits .and .u64 (IntKind.u64.wrap k) 31
def rotE (x k : Int) : Int := bits .or .u32 (IntKind.u32.wrap (x * 2 ^ min (rotS k).toNat 32)) (x / 2 ^ min (32 - rotS k).toNat 32)
theorem rot_ok (x k : Int) : ACall Tryz.prog 119 [.int .u32 x, .int .i64 k] (.int .u32 (rotE x k)) [] := by
 refine ACall.of_does TTok Tryz.func119 rfl Tryz.call119 rfl (wpc_sound (M := ME) (PL := PL0) (CU := noCut) TTok mixed _ _ _ ?_)
 obtain ⟨r, hr, hr2⟩ := and_mask64 (IntKind.u64.wrap k) 31 (by omega)
 have hr' : rotS k = r := hr
 have hq : bits .and .u64 (IntKind.u64.wrap k) 31 = r := hr
 unfold rotE
 rw [hr']
 conv => whnf
 refine fit_wrap ?_
 conv => whnf
 repeat ((refine And.intro (by first | omega | rfl | (dsimp only; omega)) ?_); conv => whnf)
 rw [hq]
 conv => whnf
 refine fit_wrap ?_
 conv => whnf
 repeat ((first | (refine fit_u64 ⟨by first | omega | rfl | (dsimp only; omega), by first | omega | rfl | (dsimp only; omega)⟩ ?_) | refine ⟨⟨rfl, rfl⟩, ?_⟩ | (refine And.intro (by first | omega | rfl | (dsimp only; omega)) ?_)); conv => whnf)
 rfl
def highL : Int → List Int → Int
 | x, [] => x
 | x, c :: l => highL (bits .or .u32 (IntKind.u32.wrap (x * 2 ^ 8)) (IntKind.u32.wrap c)) l
theorem high_ok (b : List Int) (hb : Byt b) (hl : b.length ≤ 1000000) : ACall Tryz.prog 148 [.ro b.length (bys b)] (.int .u32 (highL 0 b)) [] := by
 refine ACall.of_does TTok Tryz.func148 rfl Tryz.call148 rfl (wpc_sound (M := ME) (PL := PL0) (CU := noCut) TTok mixed _ _ _ ?_)
 conv => whnf
 refine Does.loop (fun g : Nat × Int => mkSt [(3, .int .u32 g.2), (6, .ro b.length (bys b)), (7, .int .i64 b.length), (8, .int .i64 g.1)] [] 0 19) (fun g => g.1 ≤ b.length ∧ highL g.2 (b.drop g.1) = highL 0 b) (fun g => b.length - g.1) ?_ (0, 0) ⟨Nat.zero_le _, rfl⟩ ?_
 ·rintro ⟨c, x⟩ ⟨hc, hx⟩
  dsimp only at hc hx ⊢
  refine wpc_sound (M := ME) (PL := PL0) (CU := noCut) TTok mixed _ _ _ ?_
  rcases Nat.lt_or_ge c b.length with c1 | c1
  ·have hv := hb _ (List.getElem_mem c1)
   conv => whnf
   repeat ((first | (refine ifB_pos (decide_eq_true (by first | omega | rfl | (dsimp only; omega))) ?_) | (refine ⟨⟨?_, ?_, ?_⟩, ?_⟩; (focus omega); (focus (first | omega | (simp; done) | (simp; omega))); (focus (first | (simp; done) | (simp; omega) | (rw [toksC_length]; simp; omega))))); conv => whnf)
   refine ⟨_, get_bys2 c1 (by simp), ?_⟩
   conv => whnf
   repeat ((refine And.intro (by first | omega | rfl | (dsimp only; omega)) ?_); conv => whnf)
   refine fit_wrap ?_
   conv => whnf
   refine fit_wrap ?_
   conv => whnf
   repeat ((refine fit_i64 ⟨by first | omega | rfl | (dsimp only; omega), by first | omega | rfl | (dsimp only; omega)⟩ ?_); conv => whnf)
   refine ⟨(c + 1, bits .or .u32 (IntKind.u32.wrap (x * 2 ^ 8)) (IntKind.u32.wrap b[c])), ⟨by dsimp only; omega, ?_⟩, by dsimp only; omega, weaker_of [] rfl rfl ⟨⟨rfl, rfl⟩, ⟨rfl, rfl, pureL_bys _⟩, ⟨rfl, rfl⟩, ⟨rfl, rfl⟩, trivial⟩ trivial⟩
   rw [← hx, List.drop_eq_getElem_cons c1]
   rfl
  ·obtain rfl : c = b.length := by omega
   rw [List.drop_length] at hx
   rw [← hx]
   conv => whnf
   repeat ((first | (refine ifB_neg (decide_eq_false (by first | omega | rfl | (dsimp only; omega))) ?_) | refine ⟨⟨rfl, rfl⟩, ?_⟩); conv => whnf)
   rfl
 ·exact weaker_of [] rfl rfl ⟨⟨rfl, rfl⟩, ⟨rfl, rfl, pureL_bys _⟩, ⟨rfl, rfl⟩, ⟨rfl, rfl⟩, trivial⟩ trivial
def sW (a b c d : Int) : Int :=
 IntKind.u32.wrap (IntKind.u32.wrap (IntKind.u32.wrap (a + bits .xor .u32 (bits .xor .u32 (rotE b (-7)) (rotE b (-18))) (b / 2 ^ 3)) + c) + bits .xor .u32 (bits .xor .u32 (rotE d (-17)) (rotE d (-19))) (d / 2 ^ 10))
def spS (p : List Int) (i : Nat) (w : List Int) : List Int := if i < 16 then w.set i (highL 0 ((p.drop (4 * i)).take 4)) else w.set i (sW (w.getD (i - 16) 0) (w.getD (i - 15) 0) (w.getD (i - 7) 0) (w.getD (i - 2) 0))
def spN (p : List Int) : Nat → List Int
 | 0 => List.replicate 64 0
 | i + 1 => spS p i (spN p i)
theorem spN_len (p : List Int) : ∀ i, (spN p i).length = 64
 | 0 => by simp [spN]
 | i + 1 => by
  rw [spN, spS]
  split
  ·rw [List.length_set, spN_len p i]
  ·rw [List.length_set, spN_len p i]
theorem demsP_u32s {H : Heap} : ∀ (l : List Int) (K : List Nat → Prop), K [] → demsP H (u32s l) (u32s l) K
 | [], K, h => by simpa [u32s, demsP] using h
 | x :: l, K, h => by
  simp only [u32s, List.map_cons, demsP, demP, and_self, true_and]
  exact demsP_u32s l _ (by simpa using h)
theorem setN_all {a b : List AV} (h : b.length = a.length) : setN a 0 b = b := by
 rw [setN_eq _ _ _ (by omega), List.drop_eq_nil_of_le (by omega)]; simp
theorem cut_mid (c : Nat) (p : List Int) : cutB (bys p) (some (4 * (c : Int))) (some (4 * (c : Int) + 4)) 1 = bys ((p.drop (4 * c)).take 4) := by
 have e1 : (4 * (c : Int)).toNat = 4 * c := by omega
 have e2 : (4 * (c : Int) + 4).toNat = 4 * c + 4 := by omega
 simp only [cutB, offB, lenB, endB, e1, e2, Nat.mul_one]
 rw [show 4 * c + 4 - 4 * c = 4 by omega, bys_drop, bys_take]
def MS : FuncId → List Mode := orElse [(148, [.rd]), (129, [.rd]), (112, [.rd, .rd]), (119, [.rd, .rd]), (128, []), (110, []), (54, [.rd]), (83, []), (111, [.bw]), (127, [.nl, .rd])] ME
def PLsp : Nat → Bool × Plan := plans [(7, (true, takes [0, 1, 2, 3, 4, 5, 6, 7, 8, 9])), (10, (false, (takesTo [0, 1, 2, 3, 5, 7, 8, 9, 12] (.all [(4, (takesTo [6] (.all [(10, (takesTo [11, 13, 14] (.all [(15, .done)])))]))), (10, (.all [(4, (takesTo [6, 11, 13, 14] (.all [(15, .done)])))]))]))))]
set_option maxHeartbeats 1000000 in
theorem spread_ok (p : List Int) (hb : Byt p) (hl : p.length = 64) : ACall Tryz.prog 129 [.ro 64 (bys p)] (.agg (u32s (spN p 64))) [] := by
 refine ACall.of_does TTok Tryz.func129 rfl Tryz.call129 rfl (wpc_sound (M := MS) (PL := PLsp) (CU := noCut) TTok mixed _ _ _ ?_)
 conv => whnf
 repeat ((refine ⟨rfl, ?_⟩); conv => whnf)
 refine Does.loop (fun c : Nat => mkSt [(0, .ro 64 (bys p)), (2, .ptr 0 0), (3, .ptr 1 0), (9, .int .i64 c)] [(0, u32s (List.replicate 64 0)), (1, u32s (spN p c))] 2 65) (fun c => c ≤ 64) (fun c => 64 - c) ?_ 0 (Nat.zero_le _) ?_
 ·intro c hc
  have hL := spN_len p c
  rcases Nat.lt_or_ge c 64 with c1 | c1
  ·refine wpc_sound (M := MS) (PL := PLsp) (CU := noCut) TTok mixed _ _ _ ?_
   by_cases c2 : c < 16
   ·have hh := high_ok ((p.drop (4 * c)).take 4) (fun x hx => hb x (List.mem_of_mem_drop (List.mem_of_mem_take hx))) (by simp; omega)
    conv => whnf
    repeat ((first | (refine ifB_pos (decide_eq_true (by first | omega | rfl | (dsimp only; omega))) ?_) | (refine fit_i64 ⟨by first | omega | rfl | (dsimp only; omega), by first | omega | rfl | (dsimp only; omega)⟩ ?_)); conv => whnf)
    refine ⟨⟨by simp [hl], by simp [okB]; omega⟩, ?_⟩
    conv => whnf
    repeat ((first | refine ⟨pureL_cutB _ _ _ _, ?_⟩ | refine ⟨rfl, ?_⟩); conv => whnf)
    refine ⟨_, _, hh.arg1 (by simp [lenB, endB, offB]; omega) (cut_mid c p), by first | rfl | simp [noRoIf, noRoL, noRoV, noRoL_bys], ?_⟩
    conv => whnf
    repeat ((refine And.intro (by first | omega | rfl | (dsimp only; omega)) ?_); conv => whnf)
    refine ⟨⟨rfl, rfl, by rw [u32s_length, hL]; simp; omega⟩, ?_⟩
    conv => whnf
    repeat ((refine fit_i64 ⟨by first | omega | rfl | (dsimp only; omega), by first | omega | rfl | (dsimp only; omega)⟩ ?_); conv => whnf)
    refine ⟨c + 1, by omega, by omega, weaker_of [(0, 0), (1, 1)] rfl rfl ⟨⟨rfl, rfl, pureL_bys _⟩, ⟨rfl, rfl⟩, ⟨rfl, rfl⟩, ⟨rfl, rfl⟩, trivial⟩ ⟨lesP_refl_u _, ?_, trivial⟩⟩
    show lesP _ (u32s (spN p (c + 1))) _
    refine u32s_les ?_
    rw [spN, spS, if_pos c2]
    exact (congrArg (fun i => setN (u32s (spN p c)) i _) (by simp)).trans (u32s_set _ _ _)
   ·conv => whnf
    repeat ((first | (refine ifB_neg (decide_eq_false (by first | omega | rfl | (dsimp only; omega))) ?_) | (refine ifB_pos (decide_eq_true (by first | omega | rfl | (dsimp only; omega))) ?_)); conv => whnf)
    refine ⟨by kernel_rfl, ?_⟩
    conv => whnf
    repeat ((first | (refine fit_i64 ⟨by first | omega | rfl | (dsimp only; omega), by first | omega | rfl | (dsimp only; omega)⟩ ?_) | (refine And.intro (by first | omega | rfl | (dsimp only; omega)) ?_)); conv => whnf)
    refine ⟨_, u32s_get (i := c - 15) (by omega) (by simp; omega), ?_⟩
    conv => whnf
    repeat ((first | (refine fit_i64 ⟨by first | omega | rfl | (dsimp only; omega), by first | omega | rfl | (dsimp only; omega)⟩ ?_) | (refine And.intro (by first | omega | rfl | (dsimp only; omega)) ?_)); conv => whnf)
    refine ⟨_, u32s_get (i := c - 2) (by omega) (by simp; omega), ?_⟩
    conv => whnf
    repeat ((refine ⟨rfl, ?_⟩); conv => whnf)
    refine ⟨_, _, rot_ok _ _, by first | rfl | simp [noRoIf, noRoL, noRoV, noRoL_bys], ?_⟩
    conv => whnf
    repeat ((refine ⟨rfl, ?_⟩); conv => whnf)
    refine ⟨_, _, rot_ok _ _, by first | rfl | simp [noRoIf, noRoL, noRoV, noRoL_bys], ?_⟩
    conv => whnf
    repeat ((first | refine ⟨rfl, ?_⟩ | (refine And.intro (by first | omega | rfl | (dsimp only; omega)) ?_)); conv => whnf)
    refine ⟨_, _, rot_ok _ _, by first | rfl | simp [noRoIf, noRoL, noRoV, noRoL_bys], ?_⟩
    conv => whnf
    repeat ((refine ⟨rfl, ?_⟩); conv => whnf)
    refine ⟨_, _, rot_ok _ _, by first | rfl | simp [noRoIf, noRoL, noRoV, noRoL_bys], ?_⟩
    conv => whnf
    repeat ((refine And.intro (by first | omega | rfl | (dsimp only; omega)) ?_); conv => whnf)
    refine ⟨by kernel_rfl, ?_⟩
    conv => whnf
    repeat ((first | (refine fit_i64 ⟨by first | omega | rfl | (dsimp only; omega), by first | omega | rfl | (dsimp only; omega)⟩ ?_) | (refine And.intro (by first | omega | rfl | (dsimp only; omega)) ?_)); conv => whnf)
    refine ⟨?_, ?_⟩
    ·conv => whnf
     refine ⟨_, u32s_get (i := c - 16) (by omega) (by simp; omega), ?_⟩
     conv => whnf
     refine fit_wrap ?_
     conv => whnf
     refine ⟨_, u32s_get (i := c - 7) (by omega) (by simp; omega), ?_⟩
     conv => whnf
     refine fit_wrap ?_
     conv => whnf
     refine fit_wrap ?_
     conv => whnf
     repeat ((refine And.intro (by first | omega | rfl | (dsimp only; omega)) ?_); conv => whnf)
     refine ⟨⟨rfl, rfl, by rw [u32s_length, hL]; simp; omega⟩, ?_⟩
     conv => whnf
     repeat ((refine fit_i64 ⟨by first | omega | rfl | (dsimp only; omega), by first | omega | rfl | (dsimp only; omega)⟩ ?_); conv => whnf)
     refine ⟨c + 1, by omega, by omega, weaker_of [(0, 0), (1, 1)] rfl rfl ⟨⟨rfl, rfl, pureL_bys _⟩, ⟨rfl, rfl⟩, ⟨rfl, rfl⟩, ⟨rfl, rfl⟩, trivial⟩ ⟨lesP_refl_u _, ?_, trivial⟩⟩
     show lesP _ (u32s (spN p (c + 1))) _
     refine u32s_les ?_
     rw [spN, spS, if_neg c2]
     exact (congrArg (fun i => setN (u32s (spN p c)) i _) (by simp)).trans (u32s_set _ _ _)
    ·conv => whnf
     refine ⟨_, u32s_get (i := c - 7) (by omega) (by simp; omega), ?_⟩
     conv => whnf
     refine ⟨_, u32s_get (i := c - 16) (by omega) (by simp; omega), ?_⟩
     conv => whnf
     refine fit_wrap ?_
     conv => whnf
     refine fit_wrap ?_
     conv => whnf
     refine fit_wrap ?_
     conv => whnf
     repeat ((refine And.intro (by first | omega | rfl | (dsimp only; omega)) ?_); conv => whnf)
     refine ⟨⟨rfl, rfl, by rw [u32s_length, hL]; simp; omega⟩, ?_⟩
     conv => whnf
     repeat ((refine fit_i64 ⟨by first | omega | rfl | (dsimp only; omega), by first | omega | rfl | (dsimp only; omega)⟩ ?_); conv => whnf)
     refine ⟨c + 1, by omega, by omega, weaker_of [(0, 0), (1, 1)] rfl rfl ⟨⟨rfl, rfl, pureL_bys _⟩, ⟨rfl, rfl⟩, ⟨rfl, rfl⟩, ⟨rfl, rfl⟩, trivial⟩ ⟨lesP_refl_u _, ?_, trivial⟩⟩
     show lesP _ (u32s (spN p (c + 1))) _
     refine u32s_les ?_
     rw [spN, spS, if_neg c2]
     exact (congrArg (fun i => setN (u32s (spN p c)) i _) (by simp)).trans (u32s_set _ _ _)
  ·obtain rfl : c = 64 := by omega
   generalize spN p 64 = w at hL ⊢
   refine wpc_sound (M := MS) (PL := PLsp) (CU := noCut) TTok mixed _ _ _ ?_
   conv => whnf
   repeat ((refine ifB_f ?_); conv => whnf)
   refine ⟨_, takeN_all (cs := u32s w) (by rw [u32s_length, hL]), ?_⟩
   conv => whnf
   refine ⟨⟨u32s_ones w, (by show (u32s w).length = 64; rw [u32s_length, hL]), (by show 0 + 64 ≤ (u32s (List.replicate 64 0)).length; simp [u32s])⟩, ?_⟩
   conv => whnf
   refine ⟨u32s w, ?_, ?_⟩
   ·show takeN 64 (setN (u32s (List.replicate 64 0)) 0 (u32s w)) = some (u32s w)
    rw [setN_all (by rw [u32s_length, u32s_length, hL]; simp)]
    exact takeN_all (by rw [u32s_length, hL])
   conv => whnf
   exact demsP_u32s _ _ rfl
 ·exact weaker_of [(0, 0), (1, 1)] rfl rfl ⟨⟨rfl, rfl, pureL_bys _⟩, ⟨rfl, rfl⟩, ⟨rfl, rfl⟩, ⟨rfl, rfl⟩, trivial⟩ ⟨(show lesP _ (u32s (List.replicate 64 0)) (u32s (List.replicate 64 0)) from u32s_les rfl), (show lesP _ (u32s (List.replicate 64 0)) (u32s (List.replicate 64 0)) from u32s_les rfl), trivial⟩
end
section
--KR
attribute [local irreducible] ifB fitP Does Weaker
def hF : List Int := [1779033703, 3144134277, 1013904242, 2773480762, 1359893119, 2600822924, 528734635, 1541459225]
def kR : List Int := [1116352408, 1899447441, 3049323471, 3921009573, 961987163, 1508970993, 2453635748, 2870763221, 3624381080, 310598401, 607225278, 1426881987, 1925078388, 2162078206, 2614888103, 3248222580, 3835390401, 4022224774, 264347078, 604807628, 770255983, 1249150122, 1555081692, 1996064986, 2554220882, 2821834349, 2952996808, 3210313671, 3336571891, 3584528711, 113926993, 338241895, 666307205, 773529912, 1294757372, 1396182291, 1695183700, 1986661051, 2177026350, 2456956037, 2730485921, 2820302411, 3259730800, 3345764771, 3516065817, 3600352804, 4094571909, 275423344, 430227734, 506948616, 659060556, 883997877, 958139571, 1322822218, 1537002063, 1747873779, 1955562222, 2024104815, 2227730452, 2361852424, 2428436474, 2756734187, 3204031479, 3329325298]
def c8 (l : List Int) : List AV := [.int .u32 (l.getD 0 0), .int .u32 (l.getD 1 0), .int .u32 (l.getD 2 0), .int .u32 (l.getD 3 0), .int .u32 (l.getD 4 0), .int .u32 (l.getD 5 0), .int .u32 (l.getD 6 0), .int .u32 (l.getD 7 0)]
theorem c8_eq {l : List Int} (h : l.length = 8) : u32s l = c8 l := by
 match l, h with
 | [a, b, c, d, e, f, g, i], _ => rfl
theorem first_ok : ACall Tryz.prog 110 [] (.agg (u32s hF)) [] := by
 refine ACall.of_does TTok Tryz.func110 rfl Tryz.call110 rfl (wpc_sound (M := MS) (PL := PL0) (CU := noCut) TTok mixed _ _ _ ?_)
 conv => whnf
 repeat ((first | refine ⟨(⟨by kernel_rfl, by kernel_rfl, Nat.le_of_ble_eq_true (by kernel_rfl)⟩ : AV.ones _ = true ∧ _ ∧ _), ?_⟩ | refine ⟨rfl, ?_⟩ | refine ⟨_, rfl, ?_⟩ | refine ⟨⟨rfl, rfl⟩, ?_⟩); conv => whnf)
 rfl
theorem rounds_ok : ACall Tryz.prog 128 [] (.own 64 1 (u32s kR)) [] := by
 refine ACall.of_does TTok Tryz.func128 rfl Tryz.call128 rfl (wpc_sound (M := MS) (PL := PL0) (CU := noCut) TTok mixed _ _ _ ?_)
 conv => whnf
 exact ⟨⟨rfl, rfl, rfl, rfl, u32s_pure _⟩, rfl⟩
theorem c8_les {o : Nat → Option Nat} (l : List Int) : lesP o (c8 l) (c8 l) := ⟨⟨rfl, rfl⟩, ⟨rfl, rfl⟩, ⟨rfl, rfl⟩, ⟨rfl, rfl⟩, ⟨rfl, rfl⟩, ⟨rfl, rfl⟩, ⟨rfl, rfl⟩, ⟨rfl, rfl⟩, trivial⟩
def z8 : List Int := List.replicate 8 0
theorem matL_u32s : ∀ (l : List Int) (s : Heap × Nat), matL (u32s l) s = (u32s l, s)
 | [], s => rfl
 | x :: l, s => by
  have h := matL_u32s l s
  simp only [u32s, List.map_cons] at h ⊢
  simp only [matL, matV, h]
def nt (x : Int) : Int := bits .xor .u32 4294967295 x
def rOne (v : List Int) (k w : Int) : Int := IntKind.u32.wrap (IntKind.u32.wrap (IntKind.u32.wrap (IntKind.u32.wrap (v.getD 7 0 + bits .xor .u32 (bits .xor .u32 (rotE (v.getD 4 0) (-6)) (rotE (v.getD 4 0) (-11))) (rotE (v.getD 4 0) (-25))) + bits .xor .u32 (bits .and .u32 (v.getD 4 0) (v.getD 5 0)) (bits .and .u32 (nt (v.getD 4 0)) (v.getD 6 0))) + k) + w)
def rTwo (v : List Int) : Int := IntKind.u32.wrap (bits .xor .u32 (bits .xor .u32 (rotE (v.getD 0 0) (-2)) (rotE (v.getD 0 0) (-13))) (rotE (v.getD 0 0) (-22)) + bits .xor .u32 (bits .xor .u32 (bits .and .u32 (v.getD 0 0) (v.getD 1 0)) (bits .and .u32 (v.getD 0 0) (v.getD 2 0))) (bits .and .u32 (v.getD 1 0) (v.getD 2 0)))
def rNd (v : List Int) (k w : Int) : List Int := [IntKind.u32.wrap (rOne v k w + rTwo v), v.getD 0 0, v.getD 1 0, v.getD 2 0, IntKind.u32.wrap (v.getD 3 0 + rOne v k w), v.getD 4 0, v.getD 5 0, v.getD 6 0]
def rN (h w : List Int) : Nat → List Int
 | 0 => h
 | i + 1 => rNd (rN h w i) (kR.getD i 0) (w.getD i 0)
theorem rN_len {h w : List Int} (hh : h.length = 8) : ∀ i, (rN h w i).length = 8
 | 0 => hh
 | i + 1 => rfl
def aN (h v : List Int) : Nat → List Int
 | 0 => h
 | i + 1 => (aN h v i).set i (IntKind.u32.wrap ((aN h v i).getD i 0 + v.getD i 0))
theorem aN_len {h v : List Int} (hh : h.length = 8) : ∀ i, (aN h v i).length = 8
 | 0 => hh
 | i + 1 => by rw [aN, List.length_set, aN_len hh i]
def takeW (h p : List Int) : List Int := aN h (rN h (spN p 64) 64) 8
theorem takeW_len {h p : List Int} (hh : h.length = 8) : (takeW h p).length = 8 := aN_len hh 8
def PLta : Nat → Bool × Plan := plans [(1, (false, (.all [(0, (.all [(1, (.all [(2, (.all [(3, (takes [4]))]))])), (2, (.all [(1, (.all [(3, (takes [4]))]))]))])), (1, (.all [(0, (.all [(2, (.all [(3, (takes [4]))]))])), (2, (.all [(0, (.all [(3, (takes [4]))]))]))])), (2, (.all [(0, (.all [(1, (.all [(3, (takes [4]))]))])), (1, (.all [(0, (.all [(3, (takes [4]))]))]))]))]))), (5, (true, takes [0, 1, 2, 3, 4, 5])), (7, (true, takes [0, 1, 2, 3, 4, 5, 6, 7, 8, 9, 10, 11, 12, 13, 14, 15, 16, 17, 18, 19, 20, 21, 22])), (15, (false, (takesTo [0, 1, 3, 4] (.all [(2, (.all [(5, (takesTo [6, 7] (.all [(8, .done)])))])), (5, (.all [(2, (takesTo [6, 7] (.all [(8, .done)])))]))]))))]
set_option maxRecDepth 20000 in
set_option maxHeartbeats 2000000 in
theorem stake_ok (h p : List Int) (hh : h.length = 8) (hb : Byt p) (hl : p.length = 64) : ACall Tryz.prog 112 [.agg (c8 h), .ro 64 (bys p)] (.agg (c8 (takeW h p))) [] := by
 have hs := spread_ok p hb hl
 have hw := spN_len p 64
 unfold takeW
 generalize spN p 64 = w at hs hw ⊢
 refine ACall.of_does TTok Tryz.func112 rfl Tryz.call112 rfl (wpc_sound (M := MS) (PL := PLta) (CU := cutAt [200001]) TTok mixed _ _ _ ?_)
 conv => whnf
 repeat ((refine ⟨rfl, ?_⟩); conv => whnf)
 refine Does.seqCut (fun _ : Unit => mkSt [(1, .ro 64 (bys p)), (2, .ptr 0 0), (4, .ptr 1 0), (5, .ptr 2 0), (6, .sl 3 0 64 1 false)] [(0, c8 h), (1, c8 z8), (2, c8 h), (3, u32s kR)] 4 115) (fun _ => True) ?_ ?_
 ·refine wpc_sound (M := MS) (PL := PLta) (CU := noCut) TTok mixed _ _ _ ?_
  conv => whnf
  refine ⟨by kernel_rfl, ?_⟩
  conv => whnf
  conv => whnf
  repeat' (first | (refine ⟨(⟨by kernel_rfl, by kernel_rfl, Nat.le_of_ble_eq_true (by kernel_rfl)⟩ : AV.ones _ = true ∧ _ ∧ _), ?_⟩; (conv => whnf)) | (refine ⟨rfl, ?_⟩; (conv => whnf)) | (refine ⟨_, _, rounds_ok, rfl, ?_⟩; conv => whnf) | (refine ⟨_, rfl, ?_⟩; conv => whnf) | (refine And.intro ?_ ?_ <;> conv => whnf))
  all_goals
   first
    | exact ⟨(), trivial, weaker_of [(0, 0), (1, 1), (2, 2), (3, 3)] rfl rfl ⟨⟨rfl, rfl, pureL_bys _⟩, ⟨rfl, rfl⟩, ⟨rfl, rfl⟩, ⟨rfl, rfl⟩, ⟨rfl, rfl, rfl, rfl, fun h => h⟩, trivial⟩ ⟨c8_les _, (show lesP _ (c8 z8) (c8 z8) from c8_les _), c8_les _, u32s_les rfl, trivial⟩⟩
    | exact ⟨(), trivial, weaker_of [(0, 0), (1, 1), (2, 3), (3, 2)] rfl rfl ⟨⟨rfl, rfl, pureL_bys _⟩, ⟨rfl, rfl⟩, ⟨rfl, rfl⟩, ⟨rfl, rfl⟩, ⟨rfl, rfl, rfl, rfl, fun h => h⟩, trivial⟩ ⟨c8_les _, (show lesP _ (c8 z8) (c8 z8) from c8_les _), c8_les _, u32s_les rfl, trivial⟩⟩
 intro _ _
 refine wpc_sound (M := MS) (PL := PLta) (CU := noCut) TTok mixed _ _ _ ?_
 conv => whnf
 repeat ((first | refine ⟨pureL_bys _, ?_⟩ | refine ⟨rfl, ?_⟩); conv => whnf)
 refine ⟨_, _, hs, by first | rfl | simp [noRoIf, noRoL, noRoV, noRoL_bys], ?_⟩
 conv => whnf
 rw [matL_u32s]
 refine Does.loop (fun c : Nat => mkSt [(2, .ptr 0 0), (4, .ptr 1 0), (5, .ptr 2 0), (6, .sl 3 0 64 1 false), (19, .agg (u32s w)), (20, .int .i64 c)] [(0, c8 h), (1, c8 z8), (2, c8 (rN h w c)), (3, u32s kR)] 4 115) (fun c => c ≤ 64) (fun c => 64 - c) ?_ 0 (Nat.zero_le _) ?_
 ·intro c hc
  rcases Nat.lt_or_ge c 64 with c1 | c1
  ·have hn : rN h w (c + 1) = rNd (rN h w c) (kR.getD c 0) (w.getD c 0) := rfl
   generalize rN h w c = v at hn ⊢
   refine wpc_sound (M := MS) (PL := PLta) (CU := noCut) TTok mixed _ _ _ ?_
   conv => whnf
   repeat ((first | (refine ifB_pos (decide_eq_true (by first | omega | rfl | (dsimp only; omega))) ?_) | (refine And.intro (by first | omega | rfl | (dsimp only; omega)) ?_)); conv => whnf)
   refine ⟨_, u32s_get (i := c) (by omega) (by simp), ?_⟩
   conv => whnf
   refine ⟨by kernel_rfl, ?_⟩
   conv => whnf
   repeat ((first | refine ⟨rfl, ?_⟩ | refine ⟨_, rfl, ?_⟩ | (refine And.intro (by first | omega | rfl | (dsimp only; omega)) ?_)); conv => whnf)
   refine ⟨_, _, rot_ok _ _, by first | rfl | simp [noRoIf, noRoL, noRoV, noRoL_bys], ?_⟩
   conv => whnf
   repeat ((refine ⟨rfl, ?_⟩); conv => whnf)
   refine ⟨_, _, rot_ok _ _, by first | rfl | simp [noRoIf, noRoL, noRoV, noRoL_bys], ?_⟩
   conv => whnf
   repeat ((refine ⟨rfl, ?_⟩); conv => whnf)
   refine ⟨_, _, rot_ok _ _, by first | rfl | simp [noRoIf, noRoL, noRoV, noRoL_bys], ?_⟩
   conv => whnf
   refine ⟨by kernel_rfl, ?_⟩
   conv => whnf
   repeat ((first | refine ⟨_, rfl, ?_⟩ | (refine And.intro (by first | omega | rfl | (dsimp only; omega)) ?_)); conv => whnf)
   refine fit_wrap ?_
   conv => whnf
   repeat ((first | refine ⟨_, rfl, ?_⟩ | (refine And.intro (by first | omega | rfl | (dsimp only; omega)) ?_)); conv => whnf)
   refine fit_wrap ?_
   conv => whnf
   repeat ((refine And.intro (by first | omega | rfl | (dsimp only; omega)) ?_); conv => whnf)
   refine ⟨_, u32s_get (l := kR) (i := c) c1 (by simp), ?_⟩
   conv => whnf
   refine fit_wrap ?_
   conv => whnf
   refine fit_wrap ?_
   conv => whnf
   repeat ((refine ⟨rfl, ?_⟩); conv => whnf)
   refine ⟨_, _, rot_ok _ _, by first | rfl | simp [noRoIf, noRoL, noRoV, noRoL_bys], ?_⟩
   conv => whnf
   repeat ((refine ⟨rfl, ?_⟩); conv => whnf)
   refine ⟨_, _, rot_ok _ _, by first | rfl | simp [noRoIf, noRoL, noRoV, noRoL_bys], ?_⟩
   conv => whnf
   repeat ((refine ⟨rfl, ?_⟩); conv => whnf)
   refine ⟨_, _, rot_ok _ _, by first | rfl | simp [noRoIf, noRoL, noRoV, noRoL_bys], ?_⟩
   conv => whnf
   repeat ((first | refine ⟨_, rfl, ?_⟩ | (refine And.intro (by first | omega | rfl | (dsimp only; omega)) ?_)); conv => whnf)
   refine fit_wrap ?_
   conv => whnf
   refine fit_wrap ?_
   conv => whnf
   repeat ((first | refine ⟨_, rfl, ?_⟩ | (refine And.intro (by first | omega | rfl | (dsimp only; omega)) ?_)); conv => whnf)
   refine fit_wrap ?_
   conv => whnf
   repeat ((first | (refine fit_i64 ⟨by first | omega | rfl | (dsimp only; omega), by first | omega | rfl | (dsimp only; omega)⟩ ?_) | refine ⟨(⟨by kernel_rfl, by kernel_rfl, Nat.le_of_ble_eq_true (by kernel_rfl)⟩ : AV.ones _ = true ∧ _ ∧ _), ?_⟩ | refine ⟨_, rfl, ?_⟩ | (refine And.intro (by first | omega | rfl | (dsimp only; omega)) ?_)); conv => whnf)
   refine ⟨c + 1, by omega, by omega, weaker_of [(0, 0), (1, 1), (2, 2), (3, 3)] rfl rfl ⟨⟨rfl, rfl⟩, ⟨rfl, rfl⟩, ⟨rfl, rfl⟩, ⟨rfl, rfl, rfl, rfl, fun h => h⟩, u32s_les rfl, ⟨rfl, rfl⟩, trivial⟩ ⟨(show lesP _ (c8 h) (c8 h) from c8_les _), (show lesP _ (c8 z8) (c8 z8) from c8_les _), ?_, u32s_les rfl, trivial⟩⟩
   show lesP _ (c8 (rN h w (c + 1))) _
   rw [hn]
   exact c8_les _
  ·obtain rfl : c = 64 := by omega
   have hv := rN_len (h := h) (w := w) hh 64
   generalize rN h w 64 = v at hv ⊢
   rw [← c8_eq (aN_len hh 8)]
   refine wpc_sound (M := MS) (PL := PLta) (CU := noCut) TTok mixed _ _ _ ?_
   conv => whnf
   repeat ((refine ifB_f ?_); conv => whnf)
   refine Does.loop (fun d : Nat => mkSt [(2, .ptr 0 0), (4, .ptr 1 0), (5, .ptr 2 0), (102, .int .i64 d)] [(0, u32s (aN h v d)), (1, c8 z8), (2, u32s v), (3, u32s kR)] 4 115) (fun d => d ≤ 8) (fun d => 8 - d) ?_ 0 (Nat.zero_le _) ?_
   ·intro d hd
    rcases Nat.lt_or_ge d 8 with d1 | d1
    ·refine wpc_sound (M := MS) (PL := PLta) (CU := noCut) TTok mixed _ _ _ ?_
     conv => whnf
     repeat ((refine ifB_pos (decide_eq_true (by first | omega | rfl | (dsimp only; omega))) ?_); conv => whnf)
     refine ⟨by kernel_rfl, ?_⟩
     conv => whnf
     repeat ((refine And.intro (by first | omega | rfl | (dsimp only; omega)) ?_); conv => whnf)
     refine ⟨?_, ?_⟩
     ·conv => whnf
      refine ⟨_, u32s_get (l := aN h v d) (i := d) (by rw [aN_len hh]; omega) (by simp), ?_⟩
      conv => whnf
      refine ⟨_, u32s_get (l := v) (i := d) (by rw [hv]; omega) (by simp), ?_⟩
      conv => whnf
      refine fit_wrap ?_
      conv => whnf
      refine ⟨⟨by omega, by omega⟩, ?_⟩
      conv => whnf
      refine ⟨⟨rfl, rfl, by rw [u32s_length, aN_len hh]; simp; omega⟩, ?_⟩
      conv => whnf
      conv => whnf
      repeat ((refine fit_i64 ⟨by first | omega | rfl | (dsimp only; omega), by first | omega | rfl | (dsimp only; omega)⟩ ?_); conv => whnf)
      refine ⟨d + 1, by omega, by omega, weaker_of [(0, 0), (1, 1), (2, 2), (3, 3)] rfl rfl ⟨⟨rfl, rfl⟩, ⟨rfl, rfl⟩, ⟨rfl, rfl⟩, ⟨rfl, rfl⟩, trivial⟩ ⟨?_, (show lesP _ (c8 z8) (c8 z8) from c8_les _), u32s_les rfl, u32s_les rfl, trivial⟩⟩
      show lesP _ (u32s (aN h v (d + 1))) _
      refine u32s_les ?_
      rw [aN]
      exact (congrArg (fun i => setN (u32s (aN h v d)) i _) (by simp)).trans (u32s_set _ _ _)
     ·conv => whnf
      refine ⟨_, u32s_get (l := v) (i := d) (by rw [hv]; omega) (by simp), ?_⟩
      conv => whnf
      refine ⟨_, u32s_get (l := aN h v d) (i := d) (by rw [aN_len hh]; omega) (by simp), ?_⟩
      conv => whnf
      refine fit_wrap ?_
      conv => whnf
      refine ⟨⟨by omega, by omega⟩, ?_⟩
      conv => whnf
      refine ⟨⟨rfl, rfl, by rw [u32s_length, aN_len hh]; simp; omega⟩, ?_⟩
      conv => whnf
      conv => whnf
      repeat ((refine fit_i64 ⟨by first | omega | rfl | (dsimp only; omega), by first | omega | rfl | (dsimp only; omega)⟩ ?_); conv => whnf)
      refine ⟨d + 1, by omega, by omega, weaker_of [(0, 0), (1, 1), (2, 2), (3, 3)] rfl rfl ⟨⟨rfl, rfl⟩, ⟨rfl, rfl⟩, ⟨rfl, rfl⟩, ⟨rfl, rfl⟩, trivial⟩ ⟨?_, (show lesP _ (c8 z8) (c8 z8) from c8_les _), u32s_les rfl, u32s_les rfl, trivial⟩⟩
      show lesP _ (u32s (aN h v (d + 1))) _
      refine u32s_les ?_
      rw [aN]
      exact (congrArg (fun i => setN (u32s (aN h v d)) i _) (by simp)).trans (u32s_set _ _ _)
    ·obtain rfl : d = 8 := by omega
     have ha := aN_len (h := h) (v := v) hh 8
     generalize aN h v 8 = x at ha ⊢
     refine wpc_sound (M := MS) (PL := PLta) (CU := noCut) TTok mixed _ _ _ ?_
     conv => whnf
     refine ifB_f ?_
     conv => whnf
     refine ⟨_, takeN_all (cs := u32s x) (by rw [u32s_length, ha]), ?_⟩
     conv => whnf
     refine ⟨⟨u32s_ones x, (by show (u32s x).length = 8; rw [u32s_length, ha]), (by show 0 + 8 ≤ (c8 z8).length; decide)⟩, ?_⟩
     conv => whnf
     refine ⟨u32s x, ?_, ?_⟩
     ·show takeN 8 (setN (c8 z8) 0 (u32s x)) = some (u32s x)
      rw [setN_all (by rw [u32s_length, ha]; rfl)]
      exact takeN_all (by rw [u32s_length, ha])
     conv => whnf
     exact demsP_u32s _ _ rfl
   ·exact weaker_of [(0, 0), (1, 1), (2, 2), (3, 3)] rfl rfl ⟨⟨rfl, rfl⟩, ⟨rfl, rfl⟩, ⟨rfl, rfl⟩, ⟨rfl, rfl⟩, trivial⟩ ⟨u32s_les (c8_eq hh).symm, (show lesP _ (c8 z8) (c8 z8) from c8_les _), u32s_les (c8_eq hv).symm, u32s_les rfl, trivial⟩
 ·exact weaker_of [(0, 0), (1, 1), (2, 2), (3, 3)] rfl rfl ⟨⟨rfl, rfl⟩, ⟨rfl, rfl⟩, ⟨rfl, rfl⟩, ⟨rfl, rfl, rfl, rfl, fun h => h⟩, u32s_les rfl, ⟨rfl, rfl⟩, trivial⟩ ⟨(show lesP _ (c8 h) (c8 h) from c8_les _), (show lesP _ (c8 z8) (c8 z8) from c8_les _), (show lesP _ (c8 h) (c8 h) from c8_les _), u32s_les rfl, trivial⟩
end
section

attribute [local irreducible] ifB fitP Does Weaker
set_option maxHeartbeats 1000000 in
theorem bgrow_ok (n : Nat) (hn : n ≤ 1000000) : ACall Tryz.prog 127 [.nil, .int .i64 n] (.own 0 1 []) [] := by
 refine ACall.of_does TTok Tryz.func127 rfl Tryz.call127 rfl (wpc_sound (M := MS) (PL := PL0) (CU := cutAt [100006]) TTok mixed _ _ _ ?_)
 rcases Nat.eq_zero_or_pos n with h0 | h0
 ·subst h0
  conv => whnf
  repeat ((first | refine ifB_f ?_ | (refine fit_i64 ⟨by first | omega | rfl | (dsimp only; omega), by first | omega | rfl | (dsimp only; omega)⟩ ?_)); conv => whnf)
  refine wpc_sound (M := MS) (PL := PL0) (CU := noCut) TTok mixed _ _ _ ?_
  conv => whnf
  repeat ((refine ⟨⟨rfl, rfl⟩, ?_⟩); conv => whnf)
  rfl
 ·conv => whnf
  repeat ((first | refine ifB_f ?_ | (refine ifB_pos (decide_eq_true (by first | omega | rfl | (dsimp only; omega))) ?_) | (refine fit_i64 ⟨by first | omega | rfl | (dsimp only; omega), by first | omega | rfl | (dsimp only; omega)⟩ ?_)); conv => whnf)
  refine ⟨by simp [okB], ?_⟩
  conv => whnf
  repeat ((first | (refine ⟨⟨rfl, ?_⟩, ?_⟩; (focus (first | (simp only [okB]; omega) | (simp [okB]; omega)))) | (refine And.intro ?_ ?_; (focus (first | (simp [limB, lenB, offB]; done) | (simp [limB, lenB, offB]; omega))))); conv => whnf)
  refine Does.weaker (Weaker.trunc (id := 0) 0 rfl) (Does.tidy [(0, .sl 0 0 0 1 false)] [(0, [])] 1 27 rfl rfl rfl (by kernel_rfl) (by kernel_rfl) ?_)
  refine wpc_sound (M := MS) (PL := PL0) (CU := noCut) TTok mixed _ _ _ ?_
  conv => whnf
  repeat ((refine And.intro ?_ ?_; (focus (simp [pureL, pureV, pureL_bys, pureL_toks, pureL_app]; done))); conv => whnf)
  rfl
def cat2 (a b : List Int) : List AV := [.ro a.length (bys a), .ro b.length (bys b)]
theorem cat2_pure (a b : List Int) : pureL (cat2 a b) = true := by simp [cat2, pureL, pureV, pureL_bys]
def catL (a b : List Int) (c : Nat) : List Int := match c with
 | 0 => []
 | 1 => a
 | _ => a ++ b
set_option maxHeartbeats 1000000 in
theorem bconcat_ok (a b : List Int) (ha : a.length ≤ 500000) (hb : b.length ≤ 500000) : ACall Tryz.prog 111 [.ro 2 (cat2 a b)] (.own (a ++ b).length 1 (bys (a ++ b))) [] := by
 have hg := bgrow_ok (a ++ b).length (by rw [List.length_append]; omega)
 refine ACall.of_does TTok Tryz.func111 rfl Tryz.call111 rfl (wpc_sound (M := MS) (PL := PL0) (CU := noCut) TTok mixed _ _ _ ?_)
 conv => whnf
 refine Does.loop (fun c : Nat => mkSt [(0, .ro 2 (cat2 a b)), (3, .int .i64 (catL a b c).length), (9, .ro 2 (cat2 a b)), (10, .int .i64 2), (11, .int .i64 c)] [] 0 36) (fun c => c ≤ 2) (fun c => 2 - c) ?_ 0 (by omega) ?_
 ·intro c hc
  have hcs : c = 0 ∨ c = 1 ∨ c = 2 := by omega
  refine wpc_sound (M := MS) (PL := PL0) (CU := noCut) TTok mixed _ _ _ ?_
  rcases hcs with rfl | rfl | rfl
  ·conv => whnf
   repeat ((refine ifB_t ?_); conv => whnf)
   refine ⟨⟨by omega, by omega, by simp [cat2]⟩, ?_⟩
   conv => whnf
   repeat ((refine ⟨_, rfl, ?_⟩); conv => whnf)
   refine fit_i64 ⟨by simp [catL] <;> omega, by simp [catL] <;> omega⟩ ?_
   conv => whnf
   repeat ((first | refine ifB_f ?_ | (refine fit_i64 ⟨by first | omega | rfl | (dsimp only; omega), by first | omega | rfl | (dsimp only; omega)⟩ ?_)); conv => whnf)
   exact ⟨1, by omega, by omega, weaker_of [] rfl rfl ⟨⟨rfl, rfl, cat2_pure a b⟩, ⟨rfl, by simp [catL]⟩, ⟨rfl, rfl, cat2_pure a b⟩, ⟨rfl, rfl⟩, ⟨rfl, rfl⟩, trivial⟩ trivial⟩
  ·conv => whnf
   repeat ((refine ifB_t ?_); conv => whnf)
   refine ⟨⟨by omega, by omega, by simp [cat2]⟩, ?_⟩
   conv => whnf
   repeat ((refine ⟨_, rfl, ?_⟩); conv => whnf)
   refine fit_i64 ⟨by simp [catL] <;> omega, by simp [catL] <;> omega⟩ ?_
   conv => whnf
   repeat ((first | refine ifB_f ?_ | (refine fit_i64 ⟨by first | omega | rfl | (dsimp only; omega), by first | omega | rfl | (dsimp only; omega)⟩ ?_)); conv => whnf)
   exact ⟨2, by omega, by omega, weaker_of [] rfl rfl ⟨⟨rfl, rfl, cat2_pure a b⟩, ⟨rfl, by simp [catL]⟩, ⟨rfl, rfl, cat2_pure a b⟩, ⟨rfl, rfl⟩, ⟨rfl, rfl⟩, trivial⟩ trivial⟩
  ·conv => whnf
   repeat ((first | refine ifB_f ?_ | refine ⟨rfl, ?_⟩); conv => whnf)
   refine ⟨_, _, hg, by first | rfl | simp [noRoIf, noRoL, noRoV, noRoL_bys], ?_⟩
   conv => whnf
   refine Does.loop (fun c : Nat => mkSt [(6, .sl 0 0 (catL a b c).length 1 false), (25, .ro 2 (cat2 a b)), (26, .int .i64 2), (27, .int .i64 c)] [(0, bys (catL a b c))] 1 36) (fun c => c ≤ 2) (fun c => 2 - c) ?_ 0 (by omega) ?_
   ·intro c hc
    have hcs : c = 0 ∨ c = 1 ∨ c = 2 := by omega
    refine wpc_sound (M := MS) (PL := PL0) (CU := noCut) TTok mixed _ _ _ ?_
    rcases hcs with rfl | rfl | rfl
    ·conv => whnf
     repeat ((refine ifB_t ?_); conv => whnf)
     refine ⟨⟨by omega, by omega, by simp [cat2]⟩, ?_⟩
     conv => whnf
     repeat ((first | refine ⟨ones_bys _, ?_⟩ | refine ⟨_, rfl, ?_⟩ | (refine And.intro ?_ ?_; (focus (first | (simp [limB, lenB, offB]; done) | (simp [limB, lenB, offB]; omega))))); conv => whnf)
     refine ⟨⟨rfl, rfl, by simp, by simp [catL, limB]; omega⟩, ?_⟩
     conv => whnf
     repeat ((refine fit_i64 ⟨by first | omega | rfl | (dsimp only; omega), by first | omega | rfl | (dsimp only; omega)⟩ ?_); conv => whnf)
     refine ⟨1, by omega, by omega, weaker_of [(0, 1)] rfl rfl ⟨⟨rfl, rfl, by simp [catL], rfl, fun h => h⟩, ⟨rfl, rfl, cat2_pure a b⟩, ⟨rfl, rfl⟩, ⟨rfl, rfl⟩, trivial⟩ ⟨?_, trivial⟩⟩
     exact lesP_bys (by simp [catL, bys])
    ·conv => whnf
     repeat ((refine ifB_t ?_); conv => whnf)
     refine ⟨⟨by omega, by omega, by simp [cat2]⟩, ?_⟩
     conv => whnf
     repeat ((first | refine ⟨ones_bys _, ?_⟩ | refine ⟨_, rfl, ?_⟩ | (refine And.intro ?_ ?_; (focus (first | (simp [limB, lenB, offB]; done) | (simp [limB, lenB, offB]; omega))))); conv => whnf)
     refine ⟨⟨rfl, rfl, by simp, by simp [catL, limB]; omega⟩, ?_⟩
     conv => whnf
     repeat ((refine fit_i64 ⟨by first | omega | rfl | (dsimp only; omega), by first | omega | rfl | (dsimp only; omega)⟩ ?_); conv => whnf)
     refine ⟨2, by omega, by omega, weaker_of [(0, 1)] rfl rfl ⟨⟨rfl, rfl, by simp [catL], rfl, fun h => h⟩, ⟨rfl, rfl, cat2_pure a b⟩, ⟨rfl, rfl⟩, ⟨rfl, rfl⟩, trivial⟩ ⟨?_, trivial⟩⟩
     exact lesP_bys (by simp [catL, bys])
    ·conv => whnf
     repeat ((first | refine ifB_f ?_ | (refine ⟨⟨rfl, rfl, rfl, ?_, pureL_bys _⟩, ?_⟩; (focus (simp; done)))); conv => whnf)
     rfl
   ·exact weaker_of [(0, 0)] rfl rfl ⟨⟨rfl, rfl, rfl, rfl, fun h => h⟩, ⟨rfl, rfl, cat2_pure a b⟩, ⟨rfl, rfl⟩, ⟨rfl, rfl⟩, trivial⟩ ⟨lesP_bys rfl, trivial⟩
 ·exact weaker_of [] rfl rfl ⟨⟨rfl, rfl, cat2_pure a b⟩, ⟨rfl, rfl⟩, ⟨rfl, rfl, cat2_pure a b⟩, ⟨rfl, rfl⟩, ⟨rfl, rfl⟩, trivial⟩ trivial
theorem new_ok : ACall Tryz.prog 83 [] (.ref (c8 hF ++ [.nil, .int .i64 0])) [] := by
 have h := first_ok
 refine ACall.of_does TTok Tryz.func83 rfl Tryz.call83 rfl (wpc_sound (M := MS) (PL := PL0) (CU := noCut) TTok mixed _ _ _ ?_)
 conv => whnf
 repeat ((refine ⟨rfl, ?_⟩); conv => whnf)
 refine ⟨_, _, h, by first | rfl | simp [noRoIf, noRoL, noRoV, noRoL_bys], ?_⟩
 conv => whnf
 repeat ((first | refine ⟨rfl, ?_⟩ | refine ⟨⟨rfl, rfl⟩, ?_⟩); conv => whnf)
 rfl
def shC (h rest : List Int) (n : Int) : List AV := c8 h ++ [.ro rest.length (bys rest), .int .i64 n]
def wN (h b : List Int) : Nat → List Int
 | 0 => h
 | i + 1 => takeW (wN h b i) ((b.drop (64 * i)).take 64)
theorem wN_len {h : List Int} (hh : h.length = 8) (b : List Int) : ∀ i, (wN h b i).length = 8
 | 0 => hh
 | i + 1 => takeW_len (wN_len hh b i)
def shM : Mode := .rf [.rd, .rd, .rd, .rd, .rd, .rd, .rd, .rd, .rd, .rd]
def MS2 : FuncId → List Mode := orElse [(84, [shM, .rd]), (85, [shM]), (113, [.rd])] MS
def PLwr : Nat → Bool × Plan := plans [(3, (false, (takesTo [0, 1, 2, 3, 5, 6, 8, 9] (.all [(4, (.all [(7, (takesTo [10, 11] (.all [(12, (takes [13]))])))]))]))))]
theorem ACall.argB {P : Program} {f : FuncId} {x : AV} {n n' : Nat} {c c' : List AV} {r : AV} {outs : List AV} (h : ACall P f [x, .ro n c] r outs) (e1 : n' = n) (e2 : c' = c) : ACall P f [x, .ro n' c'] r outs := by
 subst e1; subst e2; exact h
theorem cut_to64 (x : List Int) : cutB (bys x) none (some 64) 1 = bys (x.take 64) := by simp [cutB, offB, lenB, endB, bys_take]
theorem cut_from64 (x : List Int) (n : Nat) (h : n = x.length) : cutB (bys x) (some 64) none 1 = bys (x.drop 64) := by
 simp only [cutB, offB, endB, Nat.mul_one]
 rw [bys_drop]
 first | rfl | (exact List.take_of_length_le (by simp))
set_option maxRecDepth 20000 in
set_option maxHeartbeats 2000000 in
theorem swrite_ok (b : List Int) (hb : Byt b) (hl : b.length ≤ 400000) : ACall Tryz.prog 84 [.ref (shC hF [] 0), .ro b.length (bys b)] (.tuple []) [.ref (shC (wN hF b (b.length / 64)) (b.drop (64 * (b.length / 64))) b.length)] := by
 have hc := bconcat_ok [] b (by simp) (by omega)
 have hcl := (clone_ok (b.drop (64 * (b.length / 64))) (by simp; omega)).roRes
 rw [List.nil_append] at hc
 refine ACall.of_does TTok Tryz.func84 rfl Tryz.call84 rfl (wpc_sound (M := MS2) (PL := PLwr) (CU := noCut) TTok mixed _ _ _ ?_)
 conv => whnf
 repeat ((first | (refine fit_i64 ⟨by first | omega | rfl | (dsimp only; omega), by first | omega | rfl | (dsimp only; omega)⟩ ?_) | (refine Or.inl ⟨⟨rfl, ?_⟩, ?_⟩; (focus (first | rfl | (simp; done) | (rw [toksC_length]; omega)))) | refine ⟨rfl, ?_⟩ | refine ⟨_, rfl, ?_⟩ | (refine ⟨⟨rfl, rfl, ?_⟩, ?_⟩; (focus (first | exact Nat.le_of_ble_eq_true rfl | (simp; done)))) | (refine And.intro ?_ ?_; (focus (first | (simp only [pureL, pureV, pureL_bys, Bool.and_true, Bool.and_self]; done) | (simp only [pureL, pureV, pureL_bys, pureL_toks, Bool.and_true, Bool.and_self]; done))))); conv => whnf)
 refine ⟨_, _, hc, by first | rfl | simp [noRoIf, noRoL, noRoV, noRoL_bys], ?_⟩
 conv => whnf
 refine Does.freeze 2 rfl (Does.weakerTo' (env := [(0, .ptr 0 0), (4, .ro b.length (bys b))]) (heap := [(0, shC hF [] b.length)]) (nx := 3) (n := 41) [(0, 0)] rfl rfl ⟨⟨rfl, rfl⟩, ⟨rfl, whole_bys _, pureL_bys _⟩, trivial⟩ ⟨⟨⟨rfl, rfl⟩, ⟨rfl, rfl⟩, ⟨rfl, rfl⟩, ⟨rfl, rfl⟩, ⟨rfl, rfl⟩, ⟨rfl, rfl⟩, ⟨rfl, rfl⟩, ⟨rfl, rfl⟩, ⟨rfl, rfl, rfl⟩, ⟨rfl, by simp⟩, trivial⟩, trivial⟩ ?_)
 clear hc
 refine Does.loop (fun c : Nat => mkSt [(0, .ptr 0 0), (4, .ro (b.drop (64 * c)).length (bys (b.drop (64 * c))))] [(0, shC (wN hF b c) [] b.length)] 1 41) (fun c => 64 * c ≤ b.length) (fun c => b.length - 64 * c) ?_ 0 (by omega) ?_
 ·intro c hc
  have hv := wN_len (h := hF) rfl b c
  have hd : (b.drop (64 * c)).length = b.length - 64 * c := by simp
  have hn : wN hF b (c + 1) = takeW (wN hF b c) ((b.drop (64 * c)).take 64) := rfl
  by_cases c1 : 64 ≤ b.length - 64 * c
  ·have ht := stake_ok (wN hF b c) ((b.drop (64 * c)).take 64) hv (fun x hx => hb x (List.mem_of_mem_drop (List.mem_of_mem_take hx))) (by simp; omega)
   have e2 : b.drop (64 * (c + 1)) = (b.drop (64 * c)).drop 64 := by rw [List.drop_drop]; congr 1
   rw [← hn] at ht
   generalize hv' : wN hF b (c + 1) = v' at ht
   generalize wN hF b c = v at ht hv
   clear hn
   generalize b.drop (64 * c) = x at ht hd e2 ⊢
   refine wpc_sound (M := MS2) (PL := PLwr) (CU := noCut) TTok mixed _ _ _ ?_
   conv => whnf
   repeat ((refine ifB_pos (decide_eq_true (by first | omega | rfl | (dsimp only; omega))) ?_); conv => whnf)
   refine ⟨by kernel_rfl, ?_⟩
   conv => whnf
   repeat ((first | refine ⟨pureL_cutB _ _ _ _, ?_⟩ | refine ⟨rfl, ?_⟩ | refine ⟨_, rfl, ?_⟩ | (refine ⟨⟨?_, ?_⟩, ?_⟩; (focus (simp; done)); (focus (first | (simp only [okB]; omega) | (simp [okB]; omega))))); conv => whnf)
   refine ⟨_, _, ht.argB (by simp [lenB, endB, offB]) (cut_to64 x), by first | rfl | simp [noRoIf, noRoL, noRoV, noRoL_bys], ?_⟩
   conv => whnf
   repeat ((refine ⟨⟨rfl, rfl, ?_⟩, ?_⟩; (focus (first | exact Nat.le_of_ble_eq_true rfl | (simp; done)))); conv => whnf)
   refine ⟨c + 1, by omega, by omega, weaker_of [(0, 0)] rfl rfl ⟨⟨rfl, rfl⟩, ⟨?_, ?_, pureL_bys _⟩, trivial⟩ ⟨⟨⟨rfl, by rw [hv']⟩, ⟨rfl, by rw [hv']⟩, ⟨rfl, by rw [hv']⟩, ⟨rfl, by rw [hv']⟩, ⟨rfl, by rw [hv']⟩, ⟨rfl, by rw [hv']⟩, ⟨rfl, by rw [hv']⟩, ⟨rfl, by rw [hv']⟩, ⟨rfl, rfl, rfl⟩, ⟨rfl, rfl⟩, trivial⟩, trivial⟩⟩
   ·rw [e2]; simp [lenB, endB, offB]
   ·rw [e2]; exact cut_from64 x _ rfl
  ·obtain rfl : c = b.length / 64 := by omega
   generalize wN hF b (b.length / 64) = v
   refine wpc_sound (M := MS2) (PL := PLwr) (CU := noCut) TTok mixed _ _ _ ?_
   conv => whnf
   repeat ((first | (refine ifB_neg (decide_eq_false (by first | omega | rfl | (dsimp only; omega))) ?_) | refine ⟨pureL_bys _, ?_⟩ | refine ⟨rfl, ?_⟩); conv => whnf)
   refine ⟨_, _, hcl, by first | rfl | simp [noRoIf, noRoL, noRoV, noRoL_bys], ?_⟩
   conv => whnf
   repeat ((first | refine ⟨⟨rfl, rfl⟩, ?_⟩ | (refine ⟨⟨rfl, rfl, ?_⟩, ?_⟩; (focus (first | assumption | exact pureL_bys _ | exact pureL_toks _))) | (refine ⟨⟨rfl, rfl, ?_⟩, ?_⟩; (focus (first | exact Nat.le_of_ble_eq_true rfl | (simp; done))))); conv => whnf)
   rfl
 ·exact weaker_of [(0, 0)] rfl rfl ⟨⟨rfl, rfl⟩, ⟨rfl, rfl, pureL_bys _⟩, trivial⟩ ⟨⟨⟨rfl, rfl⟩, ⟨rfl, rfl⟩, ⟨rfl, rfl⟩, ⟨rfl, rfl⟩, ⟨rfl, rfl⟩, ⟨rfl, rfl⟩, ⟨rfl, rfl⟩, ⟨rfl, rfl⟩, ⟨rfl, rfl, rfl⟩, ⟨rfl, rfl⟩, trivial⟩, trivial⟩
end
end Go.Proofs.YtbkclacjamlebaaGreatDoor.Abs
