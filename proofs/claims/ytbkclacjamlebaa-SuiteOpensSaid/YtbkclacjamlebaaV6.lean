/- Texts DC to GK, merged. -/
import Derived.Test.YtbkclacjamlebaaV5
set_option linter.unusedVariables false
set_option linter.unusedSimpArgs false
namespace Go.Proofs.Ytbkclacjamlebaa.Abs
open Go
section

attribute [local irreducible] ifB fitP Does Weaker
end
section

attribute [local irreducible] ifB fitP Does Weaker
theorem Does.weakerTo' {P : Program} {k : Nat} {c : Code} {Q : AX → St → Prop} {st : St} {env : List (Nat × AV)} {heap : List (Nat × List AV)} {nx n : Nat} (g : List (Nat × Nat)) (hn : st.n = n) (hg : renOk k g heap nx = true)
  (he : envLe (oldOf k g) st.env env) (hh : heapLe (oldOf k g) st.heap heap) (h : Does P k c Q (mkSt env heap nx n)) : Does P k c Q st := Does.weaker (weaker_of g hn hg he hh) h
theorem whole_bys (l : List Int) : (List.drop 0 (bys l)).take (l.length * 1) = bys l := by rw [List.drop_zero, Nat.mul_one]; exact List.take_of_length_le (by simp)
end
section

attribute [local irreducible] ifB fitP Does Weaker
end
section

def tBad (b : List Int) (at' : Nat) (l : List Tok) : Prop := (getR b at').2.2.2 ≠ 0 ∨ 600 ≤ l.length
instance (b : List Int) (at' : Nat) (l : List Tok) : Decidable (tBad b at' l) := by unfold tBad; infer_instance
end
section

attribute [local irreducible] ifB fitP Does Weaker
end
section

attribute [local irreducible] ifB fitP Does Weaker
end
section

attribute [local irreducible] ifB fitP Does Weaker
def orElse : List (Nat × List Mode) → (FuncId → List Mode) → FuncId → List Mode
 | [], o, g => o g
 | (f, m) :: r, o, g => cond (Nat.beq g f) m (orElse r o g)
def rowM : Mode := .rf [.rd, .rd]
def MR : FuncId → List Mode := orElse [(999999, [rowM, .rd]), (999999, [rowM]), (999999, [rowM]), (999999, [rowM]), (999999, [rowM]), (999999, [rowM]),
 (999999, [rowM]), (999999, [rowM]), (999999, [rowM, .rd, .rd]), (999999, [.rd]), (999999, [.rd]), (999999, [.rd]), (999999, [.rd]), (999999, [.rd])] MC
structure Rw where
 l : List Tok
 bad : Bool
theorem demsP_bys {H : Heap} : ∀ (l : List Int) (K : List Nat → Prop), K [] → demsP H (bys l) (bys l) K
 | [], K, h => by simpa [demsP, bys] using h
 | x :: l, K, h => by
  simp only [bys, List.map_cons, demsP, demP]
  exact ⟨⟨trivial, trivial⟩, demsP_bys l _ h⟩
theorem takeN_all : ∀ {m : Nat} {cs : List AV}, cs.length = m → takeN m cs = some cs
 | 0, [], _ => rfl
 | m + 1, c :: cs, h => by
  have ih := takeN_all (m := m) (cs := cs) (by simpa using h)
  simp [takeN, ih]
end
section

structure Ent where
 au : List Int
 seq : Int
 prev : List Int
 stamp : Int
 kind : Int
 key : List Int
 val : List Int
 sig : List Int
 deriving DecidableEq
def c32 (l : List Int) (r : List AV) : List AV := .int .u8 (l.getD 0 0) :: .int .u8 (l.getD 1 0) :: .int .u8 (l.getD 2 0) :: .int .u8 (l.getD 3 0) :: .int .u8 (l.getD 4 0) :: .int .u8 (l.getD 5 0) :: .int .u8 (l.getD 6 0) :: .int .u8 (l.getD 7 0) :: .int .u8 (l.getD 8 0) :: .int .u8 (l.getD 9 0) :: .int .u8 (l.getD 10 0) :: .int .u8 (l.getD 11 0) :: .int .u8 (l.getD 12 0) :: .int .u8 (l.getD 13 0) :: .int .u8 (l.getD 14 0) :: .int .u8 (l.getD 15 0) :: .int .u8 (l.getD 16 0) :: .int .u8 (l.getD 17 0) :: .int .u8 (l.getD 18 0) :: .int .u8 (l.getD 19 0) :: .int .u8 (l.getD 20 0) :: .int .u8 (l.getD 21 0) :: .int .u8 (l.getD 22 0) :: .int .u8 (l.getD 23 0) :: .int .u8 (l.getD 24 0) :: .int .u8 (l.getD 25 0) :: .int .u8 (l.getD 26 0) :: .int .u8 (l.getD 27 0) :: .int .u8 (l.getD 28 0) :: .int .u8 (l.getD 29 0) :: .int .u8 (l.getD 30 0) :: .int .u8 (l.getD 31 0) :: r
def c64 (l : List Int) (r : List AV) : List AV := .int .u8 (l.getD 0 0) :: .int .u8 (l.getD 1 0) :: .int .u8 (l.getD 2 0) :: .int .u8 (l.getD 3 0) :: .int .u8 (l.getD 4 0) :: .int .u8 (l.getD 5 0) :: .int .u8 (l.getD 6 0) :: .int .u8 (l.getD 7 0) :: .int .u8 (l.getD 8 0) :: .int .u8 (l.getD 9 0) :: .int .u8 (l.getD 10 0) :: .int .u8 (l.getD 11 0) :: .int .u8 (l.getD 12 0) :: .int .u8 (l.getD 13 0) :: .int .u8 (l.getD 14 0) :: .int .u8 (l.getD 15 0) :: .int .u8 (l.getD 16 0) :: .int .u8 (l.getD 17 0) :: .int .u8 (l.getD 18 0) :: .int .u8 (l.getD 19 0) :: .int .u8 (l.getD 20 0) :: .int .u8 (l.getD 21 0) :: .int .u8 (l.getD 22 0) :: .int .u8 (l.getD 23 0) :: .int .u8 (l.getD 24 0) :: .int .u8 (l.getD 25 0) :: .int .u8 (l.getD 26 0) :: .int .u8 (l.getD 27 0) :: .int .u8 (l.getD 28 0) :: .int .u8 (l.getD 29 0) :: .int .u8 (l.getD 30 0) :: .int .u8 (l.getD 31 0) :: .int .u8 (l.getD 32 0) :: .int .u8 (l.getD 33 0) :: .int .u8 (l.getD 34 0) :: .int .u8 (l.getD 35 0) :: .int .u8 (l.getD 36 0) :: .int .u8 (l.getD 37 0) :: .int .u8 (l.getD 38 0) :: .int .u8 (l.getD 39 0) :: .int .u8 (l.getD 40 0) :: .int .u8 (l.getD 41 0) :: .int .u8 (l.getD 42 0) :: .int .u8 (l.getD 43 0) :: .int .u8 (l.getD 44 0) :: .int .u8 (l.getD 45 0) :: .int .u8 (l.getD 46 0) :: .int .u8 (l.getD 47 0) :: .int .u8 (l.getD 48 0) :: .int .u8 (l.getD 49 0) :: .int .u8 (l.getD 50 0) :: .int .u8 (l.getD 51 0) :: .int .u8 (l.getD 52 0) :: .int .u8 (l.getD 53 0) :: .int .u8 (l.getD 54 0) :: .int .u8 (l.getD 55 0) :: .int .u8 (l.getD 56 0) :: .int .u8 (l.getD 57 0) :: .int .u8 (l.getD 58 0) :: .int .u8 (l.getD 59 0) :: .int .u8 (l.getD 60 0) :: .int .u8 (l.getD 61 0) :: .int .u8 (l.getD 62 0) :: .int .u8 (l.getD 63 0) :: r
def exN : Nat → Nat → List Int → List AV → List AV
 | 0, _, _, r => r
 | n + 1, i, l, r => .int .u8 (l.getD i 0) :: exN n (i + 1) l r
theorem exN_eq : ∀ (n i : Nat) (l : List Int) (r : List AV), i + n = l.length → exN n i l r = bys (l.drop i) ++ r
 | 0, i, l, r, h => by rw [exN, List.drop_eq_nil_of_le (by omega)]; rfl
 | n + 1, i, l, r, h => by
  have hi : i < l.length := by omega
  rw [exN, exN_eq n (i + 1) l r (by omega), List.drop_eq_getElem_cons hi, List.getD_eq_getElem?_getD, List.getElem?_eq_getElem hi]
  rfl
theorem c32_eq {l : List Int} (h : l.length = 32) (r : List AV) : c32 l r = bys l ++ r := (show c32 l r = exN 32 0 l r from rfl).trans (exN_eq 32 0 l r (by omega))
set_option maxRecDepth 4000 in
theorem c64_eq {l : List Int} (h : l.length = 64) (r : List AV) : c64 l r = bys l ++ r := (show c64 l r = exN 64 0 l r from rfl).trans (exN_eq 64 0 l r (by omega))
theorem c32_map {l : List Int} (h : l.length = 32) : c32 l [] = l.map (AV.int .u8) := by rw [c32_eq h, List.append_nil]; rfl
theorem c64_map {l : List Int} (h : l.length = 64) : c64 l [] = l.map (AV.int .u8) := by rw [c64_eq h, List.append_nil]; rfl
theorem okB_none (n : Nat) : okB none none n := by simp [okB]
theorem cut32 {l : List Int} (h : l.length = 32) (r : List AV) : cutB ((c32 l r).take (32 * 1)) none none 1 = bys l := by
 rw [c32_eq h, List.take_append_of_le_length (by simp [h]), List.take_of_length_le (by simp [h])]
 simp [cutB, offB, lenB, endB, h]
theorem c32_pure (l : List Int) (r : List AV) : pureL (c32 l r) = pureL r := by simp [c32, pureL, pureV]
theorem c64_pure (l : List Int) (r : List AV) : pureL (c64 l r) = pureL r := by simp [c64, pureL, pureV]
theorem c64_frz (i : Nat) (zs : List AV) (l : List Int) (r : List AV) : frzL i zs (c64 l r) = c64 l (frzL i zs r) := by simp [c64, frzL, frzV]
theorem c32_les {o : Nat → Option Nat} {l : List Int} {r q : List AV} (h : lesP o r q) : lesP o (c32 l r) (c32 l q) := by
 simp only [c32, lesP, leP, and_self, true_and]; exact h
theorem c32_len (l : List Int) (r : List AV) : (c32 l r).length = 32 + r.length := by simp [c32]; omega
theorem c64_len (l : List Int) (r : List AV) : (c64 l r).length = 64 + r.length := by simp [c64]; omega
def entC (e : Ent) : List AV := c32 e.au (.int .i64 e.seq :: c32 e.prev (.int .i64 e.stamp :: .int .i64 e.kind :: .str e.key :: .ro e.val.length (bys e.val) :: c64 e.sig []))
structure EntOk (e : Ent) : Prop where
 au : Byt e.au ∧ e.au.length = 32
 seq : -9223372036854775808 ≤ e.seq ∧ e.seq < 9223372036854775808
 prev : Byt e.prev ∧ e.prev.length = 32
 stamp : -9223372036854775808 ≤ e.stamp ∧ e.stamp < 9223372036854775808
 kind : -9223372036854775808 ≤ e.kind ∧ e.kind < 9223372036854775808
 key : Byt e.key ∧ e.key.length ≤ 9223372036854775807
 val : Byt e.val ∧ e.val.length ≤ 9223372036854775807
 sig : Byt e.sig ∧ e.sig.length = 64
def z32 : List Int := List.replicate 32 0
def z64 : List Int := List.replicate 64 0
theorem entC_length (e : Ent) : (entC e).length = 133 := by simp [entC, c32_len, c64_len]
theorem entC_pure (e : Ent) : pureL (entC e) = true := by simp [entC, c32_pure, c64_pure, pureL, pureV, pureL_bys]
theorem c32_dems {H : Heap} {l : List Int} {r q : List AV} {K : List Nat → Prop} (h : demsP H r q K) : demsP H (c32 l r) (c32 l q) K := by
 simp only [c32, demsP, demP, and_self, true_and, List.nil_append]; exact h
set_option maxRecDepth 4000 in
theorem c64_dems {H : Heap} {l : List Int} {r q : List AV} {K : List Nat → Prop} (h : demsP H r q K) : demsP H (c64 l r) (c64 l q) K := by
 simp only [c64, demsP, demP, and_self, true_and, List.nil_append]; exact h
end
section
--KR
attribute [local irreducible] ifB fitP Does Weaker
def ME : FuncId → List Mode := orElse [(999999, [.rd]), (999999, [.rd]), (999999, [.rd, .rd]), (999999, [.rd, .rd]), (999999, [.rd]), (999999, [.rd]), (999999, [.rd]), (999999, [.rd]), (999999, [.rd]),
 (999999, [.rd, .rd]), (999999, [.rd, .rd]), (999999, [.rd]), (999999, [.rd]), (999999, [.rd]), (999999, [.rd])] MR
theorem dt {p : Prop} [Decidable p] (h : p) : decide p = true := decide_eq_true h
theorem df {p : Prop} [Decidable p] (h : ¬ p) : decide p = false := decide_eq_false h
structure EntS (e : Ent) : Prop extends EntOk e where
 key' : e.key.length ≤ 1000000000
 val' : e.val.length ≤ 1000000000
end
section
--KR
attribute [local irreducible] ifB fitP Does Weaker
end
section
--KR
attribute [local irreducible] ifB fitP Does Weaker
end
section

theorem envL_tidy {f : Nat → AV} : ∀ (env : List (Nat × AV)), env.map (fun p => f p.1) = env.map (fun p => p.2) → ∀ t, envL env t = f t ∨ envL env t = .top
 | [], _, t => .inr rfl
 | (d, x) :: r, h, t => by
  simp only [List.map_cons, List.cons.injEq] at h
  unfold envL
  cases hb : Nat.beq t d with
  | true =>
   obtain rfl : t = d := Nat.eq_of_beq_eq_true hb
   exact .inl h.1.symm
  | false => exact envL_tidy r h.2 t
theorem heapL_none {m : Nat} : ∀ (heap : List (Nat × List AV)), heap.all (fun p => Nat.blt p.1 m) = true → ∀ i, m ≤ i → heapL heap i = none
 | [], _, _, _ => rfl
 | (d, x) :: r, h, i, hi => by
  simp only [List.all_cons, Bool.and_eq_true] at h
  unfold heapL
  cases hb : Nat.beq i d with
  | true =>
   obtain rfl : i = d := Nat.eq_of_beq_eq_true hb
   have := h.1
   rw [Nat.blt_eq] at this
   omega
  | false => exact heapL_none r h.2 i hi
theorem Weaker.tidy {k : Nat} {st : St} (env : List (Nat × AV)) (heap : List (Nat × List AV)) (nx n : Nat) (hn : st.n = n) (hx : st.nx = nx) (hb : heap.all (fun p => Nat.blt p.1 nx) = true)
  (he : env.map (fun p => st.env p.1) = env.map (fun p => p.2)) (hh : (List.range nx).map st.heap = (List.range nx).map (heapL heap)) : Weaker k st (mkSt env heap nx n) := by
 intro Z E a S
 have hH : heapL heap = st.heap := by
  funext i
  rcases Nat.lt_or_ge i nx with hi | hi
  ·have h1 : ((List.range nx).map st.heap)[i]? = some (st.heap i) := by simp [hi]
   have h2 : ((List.range nx).map (heapL heap))[i]? = some (heapL heap i) := by simp [hi]
   rw [hh, h2] at h1
   exact Option.some.inj h1
  ·rw [heapL_none heap hb i hi, (S.heap.fresh i (by omega)).2]
 refine ⟨E, ⟨?_, ?_, S.dfr, ?_⟩, rfl, ?_⟩
 ·intro t
  change RepV E (envL env t) _
  rcases envL_tidy env he t with h | h
  ·rw [h]; exact S.env t
  ·rw [h]; simp [RepV]
 ·exact S.sz.trans hn
 ·change HeapRep Z E (heapL heap) nx
  rw [hH, ← hx]
  exact S.heap
 ·change Flow k E st.heap E (heapL heap)
  rw [hH]
  exact Flow.refl _ _
theorem Does.tidy {P : Program} {k : Nat} {c : Code} {Q : AX → St → Prop} {st : St} (env : List (Nat × AV)) (heap : List (Nat × List AV)) (nx n : Nat) (hn : st.n = n) (hx : st.nx = nx) (hb : heap.all (fun p => Nat.blt p.1 nx) = true)
  (he : env.map (fun p => st.env p.1) = env.map (fun p => p.2)) (hh : (List.range nx).map st.heap = (List.range nx).map (heapL heap)) (h : Does P k c Q (mkSt env heap nx n)) : Does P k c Q st :=
 Does.weaker (Weaker.tidy env heap nx n hn hx hb he hh) h
theorem ACall.args {P : Program} {f : FuncId} {xs ys : List AV} {r : AV} {outs : List AV} (h : ACall P f ys r outs) (e : xs = ys) : ACall P f xs r outs := by
 subst e; exact h
end
section
--KR
attribute [local irreducible] ifB fitP Does Weaker demsP
end
section
--KR
attribute [local irreducible] ifB fitP Does Weaker
structure Prf where
 a : Ent
 b : Ent
 deriving DecidableEq
def prfC (p : Prf) : List AV := entC p.a ++ entC p.b
structure PrfS (p : Prf) : Prop where
 a : EntS p.a
 b : EntS p.b
end
section
--KR
attribute [local irreducible] ifB fitP Does Weaker demsP
end
section
--KR
section rows
variable {α : Type}
def rowsC (f : α → List AV) : List α → List AV
 | [] => []
 | x :: r => f x ++ rowsC f r
theorem rowsC_length {f : α → List AV} {n : Nat} (hf : ∀ x, (f x).length = n) : ∀ l : List α, (rowsC f l).length = n * l.length
 | [] => rfl
 | e :: r => by simp only [rowsC, List.length_append, hf, rowsC_length hf r, List.length_cons, Nat.mul_add]; omega
theorem rowsC_pure {f : α → List AV} (hf : ∀ x, pureL (f x) = true) : ∀ l : List α, pureL (rowsC f l) = true
 | [] => rfl
 | e :: r => by simp only [rowsC, pureL_app, hf, rowsC_pure hf r, Bool.and_self]
end rows
theorem prfC_length (p : Prf) : (prfC p).length = 266 := by simp [prfC, entC_length]
theorem prfC_pure (p : Prf) : pureL (prfC p) = true := by simp [prfC, pureL_app, entC_pure]
structure Hd where
 au : List Int
 len : Int
 id : List Int
 shut : Bool
 deriving DecidableEq
def hdC (h : Hd) : List AV := c32 h.au (.int .i64 h.len :: c32 h.id [.bool h.shut])
structure HdS (h : Hd) : Prop where
 au : Byt h.au ∧ h.au.length = 32
 len : -9223372036854775808 ≤ h.len ∧ h.len < 9223372036854775808
 id : Byt h.id ∧ h.id.length = 32
theorem hdC_length (h : Hd) : (hdC h).length = 66 := by simp [hdC, c32_len]
theorem hdC_pure (h : Hd) : pureL (hdC h) = true := by simp [hdC, c32_pure, pureL, pureV]
structure Msg where
 kind : Int
 frm : Int
 to : Int
 hs : List Hd
 ps : List Prf
 es : List Ent
 deriving DecidableEq
def msgC (m : Msg) : List AV := [.int .i64 m.kind, .int .i64 m.frm, .int .i64 m.to, .ro m.hs.length (rowsC hdC m.hs), .ro m.ps.length (rowsC prfC m.ps), .ro m.es.length (rowsC entC m.es)]
structure MsgS (m : Msg) : Prop where
 kind : -9223372036854775808 ≤ m.kind ∧ m.kind < 9223372036854775808
 frm : -9223372036854775808 ≤ m.frm ∧ m.frm < 9223372036854775808
 to : -9223372036854775808 ≤ m.to ∧ m.to < 9223372036854775808
 hs : ∀ h ∈ m.hs, HdS h
 ps : ∀ p ∈ m.ps, PrfS p
 es : ∀ e ∈ m.es, EntS e
 hl : m.hs.length ≤ 1000000000
 pl : m.ps.length ≤ 1000000000
 el : m.es.length ≤ 1000000000
theorem hds_len (l : List Hd) : (rowsC hdC l).length = 66 * l.length := rowsC_length hdC_length l
theorem prfs_len (l : List Prf) : (rowsC prfC l).length = 266 * l.length := rowsC_length prfC_length l
theorem ents_len (l : List Ent) : (rowsC entC l).length = 133 * l.length := rowsC_length entC_length l
theorem hds_pure (l : List Hd) : pureL (rowsC hdC l) = true := rowsC_pure hdC_pure l
theorem prfs_pure (l : List Prf) : pureL (rowsC prfC l) = true := rowsC_pure prfC_pure l
theorem ents_pure (l : List Ent) : pureL (rowsC entC l) = true := rowsC_pure entC_pure l
theorem msgC_pure (m : Msg) : pureL (msgC m) = true := by simp [msgC, pureL, pureV, hds_pure, prfs_pure, ents_pure]
end
section
--KR
attribute [local irreducible] ifB fitP Does Weaker
end
section
--KR
attribute [local irreducible] ifB fitP Does Weaker
end
section
--KR
attribute [local irreducible] ifB fitP Does Weaker
end
section
--KR
attribute [local irreducible] ifB fitP Does Weaker
end
section
--KR
attribute [local irreducible] ifB fitP Does Weaker
end
section
--KR
attribute [local irreducible] ifB fitP Does Weaker
end
section

theorem roOf_own {E' : Env} {Z : Nat → Prop} {len esz : Nat} {cs : List AV} {u : Value} {Y : List Nat} (hV : ∀ b, Z b → E'.V b) (hZ : ∀ b ∈ Y, ¬ Z b) (h : RepB E' (.own len esz cs) u Y) :
  RepB ⟨E'.η, E'.ρ, Z, E'.w⟩ (.ro len cs) u [] := by
 simp only [RepB] at h ⊢
 obtain ⟨hp, a, cap, rfl, hl, hc⟩ := h
 refine ⟨by simpa [pureV] using hp, ?_, trivial⟩
 simp only [RepV]
 refine ⟨a, cap, rfl, hl, ?_⟩
 rcases hc with ⟨_, hcs, _⟩ | ⟨n, c, e, fr, rfl, rfl, hh, _, _, hcl, hr⟩
 ·exact .inl hcs
 ·refine .inr ⟨n, 0, rfl, hZ n (by simp), ?_⟩
  refine repM_of_get _ _ _ fun j x hx => ?_
  have hr' := pureL_rep (E := E') (E' := ⟨E'.η, E'.ρ, Z, E'.w⟩) ⟨rfl, rfl⟩ hV cs _ hp hr
  obtain ⟨u, hu, hru⟩ := repL_get _ _ hr' j x hx
  have hj : j < cs.length := by
   rcases Nat.lt_or_ge j cs.length with h' | h'
   ·exact h'
   ·rw [List.getElem?_eq_none h'] at hx; cases hx
  rw [List.getElem?_take_of_lt hj, Array.getElem?_toList] at hu
  exact ⟨u, by simp [World.cell?, hh, hu], hru⟩
theorem ACall.roRes {P : Program} {f : FuncId} {args : List AV} {len esz : Nat} {cs : List AV} (h : ACall P f args (.own len esz cs) []) : ACall P f args (.ro len cs) [] := by
 refine ⟨h.1, fun Z E vals X hh hr hn hz => ?_⟩
 refine (h.2 Z E vals X hh hr hn hz).mono ?_
 rintro e w' ⟨v, E', Xr, he, hw, hη, hev, hV, hB, hnd, hX⟩
 refine ⟨v, ⟨E'.η, E'.ρ, Z, E'.w⟩, [], he, hw, hη, hev, fun b => by simp, ?_, List.nodup_nil, fun b hb => absurd hb (List.not_mem_nil)⟩
 simp only [List.nil_append, RepBL] at hB ⊢
 obtain ⟨u, us, Y, Y', e1, e2, h1, h2, h3⟩ := hB
 refine ⟨u, us, [], [], e1, rfl, ?_, h2, rfl⟩
 exact roOf_own (fun b hb => (hV b).2 (.inl hb)) (fun b hb => (hX b (by rw [e2]; exact List.mem_append_left _ hb)).1) h1
end
section
--KR
attribute [local irreducible] ifB fitP Does Weaker
end
section
--KR
attribute [local irreducible] ifB fitP Does Weaker
end
section
--KR
attribute [local irreducible] ifB fitP Does Weaker
end
section
--KR
attribute [local irreducible] ifB fitP Does Weaker
end
section
--KR
attribute [local irreducible] ifB fitP Does Weaker demsP
end
section
--KR
attribute [local irreducible] ifB fitP Does Weaker demsP
end
section

theorem Weaker.trunc {k : Nat} {st : St} {id : Nat} {cs : List AV} (m : Nat) (h : st.heap id = some cs) : Weaker k st { st with heap := setH st.heap id (some (cs.take m)) } := by
 intro Z E a S
 have hs : (setH st.heap id (some (cs.take m))) id = some (cs.take m) := by simp [setH]
 have hn : ∀ i, i ≠ id → (setH st.heap id (some (cs.take m))) i = st.heap i := fun i hi => by
  have : Nat.beq i id = false := by
   cases hb : Nat.beq i id
   ·rfl
   ·exact (hi (Nat.eq_of_beq_eq_true hb)).elim
  simp [setH, this]
 have hk : ∀ i, (setH st.heap id (some (cs.take m))) i ≠ none → st.heap i ≠ none := fun i hi => by
  by_cases e : i = id
  ·subst e; rw [h]; simp
  ·rwa [hn i e] at hi
 have hw : ∀ b, Wr E.ρ (setH st.heap id (some (cs.take m))) b ↔ Wr E.ρ st.heap b := fun b => by
  constructor
  ·rintro ⟨i, ys, h1, h2⟩
   cases hq : st.heap i with
   | none => exact (hk i (by rw [h1]; simp) hq).elim
   | some zs => exact ⟨i, zs, hq, h2⟩
  ·rintro ⟨i, ys, h1, h2⟩
   by_cases e : i = id
   ·subst e; exact ⟨i, _, hs, h2⟩
   ·exact ⟨i, ys, by rw [hn i e]; exact h1, h2⟩
 refine ⟨E, ⟨S.env, S.sz, S.dfr, ?_⟩, rfl, ⟨rfl, Evo.refl _ _, fun b _ hb => (hw b).1 hb, fun _ _ _ h => h⟩⟩
 exact {
  blk := fun i ys hi => by
   dsimp only at hi
   by_cases e : i = id
   ·subst e
    rw [hs] at hi
    cases hi
    rcases S.heap.blk i cs h with ⟨b1, rfl⟩ | ⟨n, b1, c, e, fr, b2, b3, b4, b5⟩
    ·exact .inl ⟨b1, by simp⟩
    ·refine .inr ⟨n, b1, c, e, fr, b2, b3, by simp only [List.length_take]; omega, fun j x hx => ?_⟩
     refine b5 j x ?_
     rw [List.getElem?_take] at hx
     split at hx
     ·exact hx
     ·cases hx
   ·rw [hn i e] at hi
    exact S.heap.blk i ys hi
  inj := fun i i' n h1 h2 h3 h4 => S.heap.inj i i' n (hk i h1) (hk i' h2) h3 h4
  V := fun b => (S.heap.V b).trans (or_congr Iff.rfl (hw b).symm)
  apart := fun i n h1 h2 => S.heap.apart i n (hk i h1) h2
  fresh := fun i hi => by
   have f := S.heap.fresh i hi
   refine ⟨f.1, ?_⟩
   have e : i ≠ id := fun e => by subst e; rw [h] at f; cases f.2
   show (setH st.heap id (some (cs.take m))) i = none
   rw [hn i e]; exact f.2
  one := S.heap.one
  old := S.heap.old
  zold := S.heap.zold
  tab := S.heap.tab }
end
end Go.Proofs.Ytbkclacjamlebaa.Abs
