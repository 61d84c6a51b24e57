/- Texts EV to UT, merged. -/
import Derived.Test.YtgcmddhdnfmdnaaGreatDoorRows
import Derived.Test.YtgcmddhdnfmdnaaGreatDoorProg
import Derived.Lib.LaidU8T
import Derived.PinnedBridge
import Derived.Test.YtgcmddhdnfmdnaaGreatDoorU12
set_option linter.unusedVariables false
set_option linter.unusedSimpArgs false
namespace Go.Proofs.YtgcmddhdnfmdnaaGreatDoor.Abs
open Go
section

theorem rOpen_enc {l : List Tok} {a : List Int} (hl : ToksOk l) (h : encR validR l = (a, 0)) : rOpen a = ⟨l, false⟩ := by
 unfold rOpen
 rw [decR_enc hl h]
 rfl
theorem rNext_cons {k : Int} {t : Tok} {q : List Tok} (h : t.k = k) : rNext k ⟨t :: q, false⟩ = (t, ⟨q, false⟩) := by
 unfold rNext; simp [h]
theorem rArr_cons {m : Nat} {t : Tok} {q : List Tok} (h : t.k = 3) (hm : t.b.length = m) : rArr m ⟨t :: q, false⟩ = (t.b, ⟨q, false⟩) := by
 unfold rArr; rw [rNext_cons h]; simp [hm]
theorem rWant_cons {m f : Int} {t s : Tok} {q : List Tok} (h1 : t.k = 5) (h2 : t.n = m) (h3 : s.k = 1) (h4 : s.n = f) : rWant m f ⟨t :: s :: q, false⟩ = ⟨q, false⟩ := by
 unfold rWant
 rw [rNext_cons h1]
 dsimp only
 rw [if_neg (by omega), rNext_cons h3]
 dsimp only
 rw [if_neg (by omega)]
theorem rdE_cons {t2 t3 t4 t5 t6 t7 t8 t9 t10 : Tok} (h2 : t2.k = 3) (m2 : t2.b.length = 32) (h3 : t3.k = 1) (h4 : t4.k = 3) (m4 : t4.b.length = 32) (h5 : t5.k = 1) (h6 : t6.k = 5) (h7 : t7.k = 1) (h8 : t8.k = 4) (h9 : t9.k = 3) (h10 : t10.k = 3) (m10 : t10.b.length = 64) :
  rdE ⟨[t2, t3, t4, t5, t6, t7, t8, t9, t10], false⟩ = if t6.n ≠ 3 then (ent0, 3) else if entR ⟨t2.b, t3.n, t4.b, t5.n, t7.n, t8.b, t9.b, t10.b⟩ = true then (⟨t2.b, t3.n, t4.b, t5.n, t7.n, t8.b, t9.b, t10.b⟩, 0) else (ent0, 3) := by
 unfold rdE
 rw [rArr_cons h2 m2]; dsimp only
 rw [rNext_cons h3]; dsimp only
 rw [rArr_cons h4 m4]; dsimp only
 rw [rNext_cons h5]; dsimp only
 rw [rNext_cons h6]; dsimp only
 rw [rNext_cons h7]; dsimp only
 rw [rNext_cons h8]; dsimp only
 rw [rNext_cons h9]; dsimp only
 rw [rArr_cons h10 m10]; dsimp only
 rfl
theorem rdEnt_enc {e : Ent} (he : EntS e) (hr : entR e = true) {a : List Int} (h : encR validR (entTs e) = (a, 0)) : rdEnt a = (e, 0) := by
 unfold rdEnt
 rw [rOpen_enc (entTs_ok e he).1 h]
 rw [show entTs e = ⟨5, 7, []⟩ :: ⟨1, 1, []⟩ :: [⟨3, 0, e.au⟩, ⟨1, e.seq, []⟩, ⟨3, 0, e.prev⟩, ⟨1, e.stamp, []⟩, ⟨5, 3, []⟩, ⟨1, e.kind, []⟩, ⟨4, 0, e.key⟩, ⟨3, 0, e.val⟩, ⟨3, 0, e.sig⟩] from rfl]
 rw [rWant_cons (m := 7) (f := 1) (t := ⟨5, 7, []⟩) (s := ⟨1, 1, []⟩) rfl rfl rfl rfl, rdE_cons rfl he.au.2 rfl rfl he.prev.2 rfl rfl rfl rfl rfl rfl he.sig.2]
 rw [if_neg (by simp), if_pos hr]
theorem entB_right {e : Ent} (h : (entB e).2 = 0) : entR e = true ∧ encR validR (entTs e) = ((entB e).1, 0) := by
 unfold entB at h ⊢
 split at h
 ·rename_i c
  rw [if_pos c]
  exact ⟨c, Prod.ext rfl h⟩
 ·cases h
theorem rdEnt_bytes {e : Ent} (he : EntS e) (h : (entB e).2 = 0) : rdEnt (entB e).1 = (e, 0) := rdEnt_enc he (entB_right h).1 (entB_right h).2
end
section

def Items (g : Nat → Option (Nat × List Int)) : Nat → List (List Int) → Nat → Prop
 | a, [], b => a = b
 | a, x :: xs, b => ∃ c, g a = some (c, x) ∧ Items g c xs b
theorem rLoop_items {g : Nat → Option (Nat × List Int)} : ∀ (xs : List (List Int)) (i a b : Nat) (acc last : List Int), Items g a xs b → acc.length + xs.flatten.length ≤ 32768 → rLoop g false xs.length i a acc last = some (b, acc ++ xs.flatten)
 | [], i, a, b, acc, last, h, _ => by
  obtain rfl : a = b := h
  simp [rLoop]
 | x :: xs, i, a, b, acc, last, h, hl => by
  obtain ⟨c, hc, h⟩ := h
  simp only [List.flatten_cons, List.length_append] at hl
  rw [List.length_cons, rLoop, hc]
  dsimp only
  rw [if_neg (by omega), if_neg (by simp), rLoop_items xs (i + 1) c b (acc ++ x) last h (by simp only [List.length_append]; omega)]
  simp
def IsItem (u : List Int → Bool) (f : Nat) (ts : List Tok) (x : List Int) : Prop := ∀ pre post : List Tok, rItem u (pre ++ (ts ++ post)) f pre.length = some (pre.length + ts.length, x)
def AreItems (u : List Int → Bool) (f : Nat) (ts : List Tok) (xs : List (List Int)) : Prop := ∀ pre post : List Tok, Items (rItem u (pre ++ (ts ++ post)) f) pre.length xs (pre.length + ts.length)
theorem are_nil (u : List Int → Bool) (f : Nat) : AreItems u f [] [] := fun pre post => by simp [Items]
theorem are_cons {u : List Int → Bool} {f : Nat} {ts us : List Tok} {x : List Int} {xs : List (List Int)} (h : IsItem u f ts x) (k : AreItems u f us xs) : AreItems u f (ts ++ us) (x :: xs) := by
 intro pre post
 refine ⟨pre.length + ts.length, ?_, ?_⟩
 ·rw [List.append_assoc]; exact h pre (us ++ post)
 ·have := k (pre ++ ts) post
  simpa [List.append_assoc, Nat.add_assoc] using this
theorem are_one {u : List Int → Bool} {f : Nat} {ts : List Tok} {x : List Int} (h : IsItem u f ts x) : AreItems u f ts [x] := by
 have := are_cons h (are_nil u f)
 rwa [List.append_nil] at this
theorem are_app {u : List Int → Bool} {f : Nat} : ∀ {xs ys : List (List Int)} {ts us : List Tok}, AreItems u f ts xs → AreItems u f us ys → AreItems u f (ts ++ us) (xs ++ ys) := by
 intro xs ys ts us h k pre post
 have h1 := h pre (us ++ post)
 have h2 := k (pre ++ ts) post
 rw [List.append_assoc]
 have e : pre ++ ts ++ (us ++ post) = pre ++ (ts ++ (us ++ post)) := by simp
 rw [e] at h2
 have e2 : (pre ++ ts).length = pre.length + ts.length := by simp
 rw [e2] at h2
 rw [List.length_append, ← Nat.add_assoc]
 generalize rItem u (pre ++ (ts ++ (us ++ post))) f = g at h1 h2
 clear h k e e2
 generalize pre.length + ts.length = m at h1 h2
 generalize pre.length = n at h1
 induction xs generalizing n with
 | nil => obtain rfl : n = m := h1; exact h2
 | cons x xs ih =>
  obtain ⟨c, hc, h1⟩ := h1
  exact ⟨c, hc, ih c h1⟩
def tB (t : Tok) : List Int := if t.k = 1 then putL 0 t.n else if t.k = 3 then putL 2 t.b.length ++ t.b else putL 3 t.b.length ++ t.b
def FlatOk (u : List Int → Bool) (t : Tok) : Prop := (t.k = 1 ∧ 0 ≤ t.n ∧ t.b = []) ∨ (t.k = 3 ∧ t.n = 0) ∨ (t.k = 4 ∧ t.n = 0 ∧ u t.b = true)
theorem is_flat {u : List Int → Bool} {f : Nat} {t : Tok} (h : FlatOk u t) : IsItem u f [t] (tB t) := by
 intro pre post
 have hk : pre.length < (pre ++ ([t] ++ post)).length := by simp
 rw [rItem_tok u _ f pre.length hk]
 have e : (pre ++ ([t] ++ post))[pre.length] = t := by simp
 rw [e]
 unfold rTok tB
 have hb : ¬ rBad t := by
  unfold rBad
  rcases h with h | h | h
  ·rw [h.2.2]; simp; omega
  ·rw [h.1, h.2]; simp
  ·rw [h.1, h.2.1]; simp
 rw [if_neg hb]
 rcases h with h | h | h
 ·simp [h.1]
 ·simp [h.1]
 ·simp [h.1, h.2.2]
theorem is_arr {u : List Int → Bool} {f : Nat} {ts : List Tok} {xs : List (List Int)} (h : AreItems u f ts xs) (hx : xs.length ≤ 64) (hl : (putL 4 xs.length).length + xs.flatten.length ≤ 32768) : IsItem u (f + 1) (⟨5, xs.length, []⟩ :: ts) (putL 4 xs.length ++ xs.flatten) := by
 intro pre post
 have hk : pre.length < (pre ++ (⟨5, (xs.length : Int), []⟩ :: ts ++ post)).length := by simp
 rw [rItem_tok u _ (f + 1) pre.length hk]
 have e : (pre ++ (⟨5, (xs.length : Int), []⟩ :: ts ++ post))[pre.length] = ⟨5, (xs.length : Int), []⟩ := by simp
 rw [e]
 unfold rTok
 rw [if_neg (by unfold rBad; simp <;> omega)]
 dsimp only
 rw [if_neg (by omega), if_neg (by omega), if_neg (by omega), if_neg (by omega), if_pos (by omega), if_neg (by simp), if_neg (by omega), if_neg (by omega)]
 have := h (pre ++ [⟨5, (xs.length : Int), []⟩]) post
 have e2 : pre ++ [(⟨5, (xs.length : Int), []⟩ : Tok)] ++ (ts ++ post) = pre ++ (⟨5, (xs.length : Int), []⟩ :: ts ++ post) := by simp
 rw [e2, List.length_append, List.length_singleton] at this
 simp only [rSub, Int.toNat_natCast]
 rw [rLoop_items xs 0 _ _ _ _ this hl]
 simp
 omega
theorem enc_item {u : List Int → Bool} {ts : List Tok} {x : List Int} (h : IsItem u 6 ts x) (ht : ts.length ≤ 600) (hx : x.length ≤ 32768) : encR u ts = (x, 0) := by
 rw [encR_iff]
 have := h [] []
 simp at this
 exact ⟨ht, this, hx⟩
theorem flat_num {u : List Int → Bool} {n : Int} (h : 0 ≤ n) (f : Nat) : IsItem u f [⟨1, n, []⟩] (putL 0 n) := is_flat (.inl ⟨rfl, h, rfl⟩)
theorem flat_str {u : List Int → Bool} (b : List Int) (f : Nat) : IsItem u f [⟨3, 0, b⟩] (putL 2 b.length ++ b) := is_flat (.inr (.inl ⟨rfl, rfl⟩))
theorem flat_text {u : List Int → Bool} {b : List Int} (h : u b = true) (f : Nat) : IsItem u f [⟨4, 0, b⟩] (putL 3 b.length ++ b) := is_flat (.inr (.inr ⟨rfl, rfl, h⟩))
theorem putL_le (M : Int) {n : Int} (h : 0 ≤ n) : (putL M n).length ≤ 9 := by
 rw [putL_length]; have := (sizeR_le n h).1; omega
def entX (e : Ent) : List (List Int) := [putL 0 1, putL 2 e.au.length ++ e.au, putL 0 e.seq, putL 2 e.prev.length ++ e.prev, putL 0 e.stamp, putL 4 3 ++ [putL 0 e.kind, putL 3 e.key.length ++ e.key, putL 2 e.val.length ++ e.val].flatten]
theorem entR_facts {e : Ent} (hr : entR e = true) : (1 ≤ e.seq ∧ e.seq ≤ 200) ∧ 0 ≤ e.stamp ∧ (1 ≤ e.key.length ∧ e.key.length ≤ 16) ∧ validR e.key = true ∧ (e.kind = 1 ∨ e.kind = 2) ∧ e.val.length ≤ 40 := by
 unfold entR opR at hr
 simp only [Bool.and_eq_true, Bool.or_eq_true, decide_eq_true_eq] at hr
 obtain ⟨⟨⟨⟨h1, h2⟩, h3⟩, h4⟩, ⟨⟨h5, h6⟩, h7⟩, h8⟩ := hr
 refine ⟨⟨h1, h2⟩, h4, ⟨h5, h6⟩, h7, ?_, ?_⟩
 ·rcases h8 with h | h
  ·exact .inl h.1
  ·exact .inr h.1
 ·rcases h8 with h | h
  ·exact h.2
  ·omega
theorem entX_are {e : Ent} (hr : entR e = true) (h1 : e.au.length = 32) (h2 : e.prev.length = 32) (f : Nat) : AreItems validR (f + 1) [⟨1, 1, []⟩, ⟨3, 0, e.au⟩, ⟨1, e.seq, []⟩, ⟨3, 0, e.prev⟩, ⟨1, e.stamp, []⟩, ⟨5, 3, []⟩, ⟨1, e.kind, []⟩, ⟨4, 0, e.key⟩, ⟨3, 0, e.val⟩] (entX e) := by
 have F := entR_facts hr
 have op : IsItem validR (f + 1) [⟨5, 3, []⟩, ⟨1, e.kind, []⟩, ⟨4, 0, e.key⟩, ⟨3, 0, e.val⟩] (putL 4 3 ++ [putL 0 e.kind, putL 3 e.key.length ++ e.key, putL 2 e.val.length ++ e.val].flatten) := by
  have := is_arr (u := validR) (f := f) (are_cons (flat_num (n := e.kind) (by omega) f) (are_cons (flat_text F.2.2.2.1 f) (are_one (flat_str e.val f)))) (by simp) (by
   have a1 := putL_le 4 (n := 3) (by omega)
   have a2 := putL_le 0 (n := e.kind) (by omega)
   have a3 := putL_le 3 (n := e.key.length) (by omega)
   have a4 := putL_le 2 (n := e.val.length) (by omega)
   simp only [List.length_cons, List.length_nil, List.flatten_cons, List.flatten_nil, List.length_append]
   have : ((0 + 1 + 1 + 1 : Nat) : Int) = 3 := rfl
   rw [this]
   omega)
  exact this
 exact are_cons (flat_num (by omega) _) (are_cons (flat_str e.au _) (are_cons (flat_num (by omega) _) (are_cons (flat_str e.prev _) (are_cons (flat_num F.2.1 _) (are_one op)))))
theorem entX_len {e : Ent} (hr : entR e = true) (h1 : e.au.length = 32) (h2 : e.prev.length = 32) : (entX e).flatten.length ≤ 300 := by
 have F := entR_facts hr
 have a0 := putL_le 0 (n := 1) (by omega)
 have a1 := putL_le 4 (n := 3) (by omega)
 have a2 := putL_le 0 (n := e.kind) (by omega)
 have a3 := putL_le 3 (n := e.key.length) (by omega)
 have a4 := putL_le 2 (n := e.val.length) (by omega)
 have a5 := putL_le 2 (n := e.au.length) (by omega)
 have a6 := putL_le 0 (n := e.seq) (by omega)
 have a7 := putL_le 2 (n := e.prev.length) (by omega)
 have a8 := putL_le 0 (n := e.stamp) (by omega)
 simp only [entX, List.flatten_cons, List.flatten_nil, List.length_append, List.length_nil]
 omega
theorem entTs_bytes {e : Ent} (hr : entR e = true) (h1 : e.au.length = 32) (h2 : e.prev.length = 32) (h3 : e.sig.length = 64) : encR validR (entTs e) = (putL 4 7 ++ (entX e ++ [putL 2 e.sig.length ++ e.sig]).flatten, 0) := by
 have A := are_app (entX_are hr h1 h2 4) (are_one (flat_str e.sig 5))
 have L := entX_len hr h1 h2
 have a1 := putL_le 4 (n := 7) (by omega)
 have a2 := putL_le 2 (n := e.sig.length) (by omega)
 have := is_arr A (by simp [entX]) (by
  have : (((entX e ++ [putL 2 e.sig.length ++ e.sig]).length : Nat) : Int) = 7 := by simp [entX]
  rw [this]
  simp only [List.flatten_append, List.length_append, List.flatten_cons, List.flatten_nil, List.length_nil]
  omega)
 have e7 : (((entX e ++ [putL 2 e.sig.length ++ e.sig]).length : Nat) : Int) = 7 := by simp [entX]
 rw [e7] at this
 exact enc_item (ts := entTs e) this (by show 11 ≤ 600; decide) (by
  simp only [List.flatten_append, List.length_append, List.flatten_cons, List.flatten_nil, List.length_nil]
  omega)
theorem entBody_bytes {e : Ent} (hr : entR e = true) (h1 : e.au.length = 32) (h2 : e.prev.length = 32) : encR validR (entT 6 e) = (putL 4 6 ++ (entX e).flatten, 0) := by
 have A := entX_are hr h1 h2 4
 have L := entX_len hr h1 h2
 have a1 := putL_le 4 (n := 6) (by omega)
 have e6 : (((entX e).length : Nat) : Int) = 6 := by simp [entX]
 have := is_arr A (by simp [entX]) (by rw [e6]; omega)
 rw [e6] at this
 exact enc_item (ts := entT 6 e) this (by show 10 ≤ 600; decide) (by simp only [List.length_append]; omega)
theorem entB_yes {e : Ent} (he : EntS e) (hr : entR e = true) : entB e = (putL 4 7 ++ (entX e ++ [putL 2 e.sig.length ++ e.sig]).flatten, 0) := by
 unfold entB
 rw [if_pos hr, entTs_bytes hr he.au.2 he.prev.2 he.sig.2]
theorem entB_err {e : Ent} (he : EntS e) : decide ((entB e).2 = 0) = entR e := by
 cases h : entR e
 ·unfold entB; rw [h]; rfl
 ·rw [entB_yes he h]; rfl
end
section

theorem openL_len (p t : List Int) : (openL p t).length = 64 := by unfold openL; rw [List.length_append, shaL_len, shaL_len]
theorem openL_byt (p t : List Int) : Byt (openL p t) := fun x hx => by
 rcases List.mem_append.1 hx with h | h
 ·exact shaL_byt _ x h
 ·exact shaL_byt _ x h
def auE (a : List Int) (e : Ent) : Ent := ⟨a, e.seq, e.prev, e.stamp, e.kind, e.key, e.val, e.sig⟩
def sigE (s : List Int) (e : Ent) : Ent := ⟨e.au, e.seq, e.prev, e.stamp, e.kind, e.key, e.val, s⟩
def signE (s : List Int) (e : Ent) : Ent := sigE (openL (shaL (1 :: s)) (entBody (auE (shaL (1 :: s)) e)).1) (auE (shaL (1 :: s)) e)
def verE (e : Ent) : Bool := entR e && decide (e.sig = openL e.au (entBody e).1)
theorem auE_S {a : List Int} {e : Ent} (he : EntS e) (ha : Byt a ∧ a.length = 32) : EntS (auE a e) where
 au := ha
 seq := he.seq
 prev := he.prev
 stamp := he.stamp
 kind := he.kind
 key := he.key
 val := he.val
 sig := he.sig
 key' := he.key'
 val' := he.val'
theorem sigE_S {s : List Int} {e : Ent} (he : EntS e) (hs : Byt s ∧ s.length = 64) : EntS (sigE s e) where
 au := he.au
 seq := he.seq
 prev := he.prev
 stamp := he.stamp
 kind := he.kind
 key := he.key
 val := he.val
 sig := hs
 key' := he.key'
 val' := he.val'
theorem sigE_body (s : List Int) (e : Ent) : entBody (sigE s e) = entBody e := rfl
theorem sigE_R (s : List Int) (e : Ent) : entR (sigE s e) = entR e := rfl
theorem auE_R (s : List Int) (e : Ent) : entR (auE s e) = entR e := rfl
theorem signE_R (s : List Int) (e : Ent) : entR (signE s e) = entR e := by unfold signE; rw [sigE_R, auE_R]
theorem signE_S (s : List Int) {e : Ent} (he : EntS e) : EntS (signE s e) := sigE_S (auE_S he ⟨shaL_byt _, shaL_len _⟩) ⟨openL_byt _ _, openL_len _ _⟩
theorem sigE_sig (s : List Int) (e : Ent) : (sigE s e).sig = s := rfl
theorem sigE_au (s : List Int) (e : Ent) : (sigE s e).au = e.au := rfl
theorem auE_au (s : List Int) (e : Ent) : (auE s e).au = s := rfl
theorem signE_ver (s : List Int) (e : Ent) : verE (signE s e) = entR e := by
 unfold verE signE
 rw [sigE_R, auE_R, sigE_body, sigE_sig, sigE_au, auE_au]
 simp only [eq_self, decide_true, Bool.and_true]
theorem entBody_byt {e : Ent} (he : EntS e) : Byt (entBody e).1 ∧ (entBody e).1.length ≤ 32768 := by
 unfold entBody
 split
 ·have ht := entT_ok 6 (by omega) e he
  refine ⟨encR_byt _ ht.1, ?_⟩
  rcases encR_or validR (entT 6 e) with h | ⟨a, h⟩
  ·rw [h]; simp
  ·have := encR_len h
   rw [h]; exact this
 ·exact ⟨fun x hx => absurd hx (List.not_mem_nil), by simp⟩
theorem entBody_yes {e : Ent} (he : EntS e) (hr : entR e = true) : entBody e = (134 :: (entX e).flatten, 0) := by
 unfold entBody
 rw [if_pos hr, entBody_bytes hr he.au.2 he.prev.2]
 rfl
theorem entB_yes' {e : Ent} (he : EntS e) (hr : entR e = true) : entB e = (135 :: ((entX e).flatten ++ 88 :: 64 :: e.sig), 0) := by
 rw [entB_yes he hr, List.flatten_append, he.sig.2]
 show ([135] ++ ((entX e).flatten ++ (([88, 64] ++ e.sig) ++ [])), (0 : Int)) = _
 rw [List.append_nil]
 rfl
def wkE : Ent := ⟨z32, 1, z32, 0, 2, [107], [], z64⟩
def wkS : List Int := 1 :: List.replicate 31 0
theorem wkS_byt : Byt wkS := fun x hx => by
 unfold wkS at hx
 rcases List.mem_cons.1 hx with h | h
 ·omega
 ·rw [List.mem_replicate] at h; omega
theorem entB_ok0' {e : Ent} (he : EntS e) (hr : entR e = true) : (entB e).2 = 0 := by rw [entB_yes' he hr]
theorem wkE_S : EntS wkE where
 au := ⟨fun x hx => by rw [show wkE.au = List.replicate 32 0 from rfl, List.mem_replicate] at hx; omega, rfl⟩
 seq := by simp [wkE]
 prev := ⟨fun x hx => by rw [show wkE.prev = List.replicate 32 0 from rfl, List.mem_replicate] at hx; omega, rfl⟩
 stamp := by simp [wkE]
 kind := by simp [wkE]
 key := by simp [wkE, Byt]
 val := by simp [wkE, Byt]
 sig := ⟨fun x hx => by rw [show wkE.sig = List.replicate 64 0 from rfl, List.mem_replicate] at hx; omega, rfl⟩
 key' := by simp [wkE]
 val' := by simp [wkE]
theorem wkE_R : entR wkE = true := by decide
theorem wk_X (a s : List Int) : entX (sigE s (auE a wkE)) = [[1], putL 2 a.length ++ a, [1], [88, 32] ++ z32, [0], [131, 2, 97, 107, 64]] := by
 show [putL 0 1, putL 2 a.length ++ a, putL 0 1, putL 2 z32.length ++ z32, putL 0 0, putL 4 3 ++ [putL 0 2, putL 3 ([107] : List Int).length ++ [107], putL 2 ([] : List Int).length ++ []].flatten] = _
 rw [show putL 0 1 = [1] by decide, show putL 2 (z32.length : Int) = [88, 32] by decide, show putL 0 0 = [0] by decide, show putL 4 3 ++ [putL 0 2, putL 3 ([107] : List Int).length ++ [107], putL 2 ([] : List Int).length ++ []].flatten = [131, 2, 97, 107, 64] by decide]
theorem wkE_len : (entB (signE wkS wkE)).1.length = 143 ∧ (entB (signE wkS wkE)).2 = 0 := by
 have hS := signE_S wkS wkE_S
 rw [entB_yes' hS (by rw [signE_R]; exact wkE_R)]
 refine ⟨?_, rfl⟩
 have hs := hS.sig.2
 have hx : (entX (signE wkS wkE)).flatten.length = 76 := by
  unfold signE
  rw [wk_X, shaL_len]
  generalize hq : shaL (1 :: wkS) = q
  have hq' : q.length = 32 := by rw [← hq]; exact shaL_len _
  simp only [List.flatten_cons, List.flatten_nil, List.length_append, List.length_cons, List.length_nil, hq', show putL 2 ((32 : Nat) : Int) = [88, 32] by decide, show z32.length = 32 from rfl]
 show (135 :: ((entX (signE wkS wkE)).flatten ++ 88 :: 64 :: (signE wkS wkE).sig)).length = 143
 rw [List.length_cons, List.length_append, List.length_cons, List.length_cons, hs, hx]
end
section
--KR
attribute [local irreducible] ifB fitP Does Weaker
def MV : FuncId → List Mode := orElse [(58, [.rd])] MU
set_option maxRecDepth 20000 in
set_option maxHeartbeats 4000000 in
theorem everify_ok (e : Ent) (he : EntS e) : ACall Tryz.prog 61 [.int .i64 2, .agg (entC e)] (.bool (verE e)) [] := by
 have hb := (ebody_ok e he).roRes2 (.inl ⟨_, _, rfl⟩)
 have hB := entBody_byt he
 have hv := sverify_ok e.au (entBody e).1 e.sig he.au.1 he.au.2 hB.1 (by omega) he.sig.2
 unfold verE
 refine ACall.of_does TTok Tryz.func61 rfl Tryz.call61 rfl (wpc_sound (M := MV) (PL := PL0) (CU := noCut) TTok mixed _ _ _ ?_)
 cases hr : entR e
 ·rw [show entBody e = ([], 1) by unfold entBody; rw [hr]; rfl] at hb
  conv => whnf
  repeat ((first | refine ⟨entC_pure _, ?_⟩ | refine ⟨rfl, ?_⟩ | refine ⟨_, rfl, ?_⟩); conv => whnf)
  refine ⟨_, _, hb, by first | rfl | simp [noRoIf, noRoL, noRoV, noRoL_bys], ?_⟩
  conv => whnf
  repeat ((first | refine ifB_f ?_ | refine ⟨rfl, ?_⟩); conv => whnf)
  rfl
 ·rw [show entBody e = ((entBody e).1, 0) by rw [entBody_yes he hr]] at hb
  generalize (entBody e).1 = t at hb hv
  conv => whnf
  repeat ((first | refine ⟨entC_pure _, ?_⟩ | refine ⟨rfl, ?_⟩ | refine ⟨_, rfl, ?_⟩); conv => whnf)
  refine ⟨_, _, hb, by first | rfl | simp [noRoIf, noRoL, noRoV, noRoL_bys], ?_⟩
  conv => whnf
  repeat ((first | refine ifB_t ?_ | refine ⟨pureL_bys _, ?_⟩ | refine ⟨rfl, ?_⟩ | refine ⟨_, rfl, ?_⟩); conv => whnf)
  refine ⟨_, _, hv, by first | rfl | simp [noRoIf, noRoL, noRoV, noRoL_bys], ?_⟩
  conv => whnf
  repeat ((first | refine ifB_t ?_ | refine ⟨rfl, ?_⟩); conv => whnf)
  rfl
section
attribute [local irreducible] demsP
set_option maxRecDepth 20000 in
set_option maxHeartbeats 4000000 in
theorem esign_ok (s : List Int) (e : Ent) (hs : Byt s) (ls : s.length = 32) (he : EntS e) (hr : entR e = true) : ACall Tryz.prog 51 [.int .i64 2, .agg (c32 s []), .agg (entC e)] (.tuple [.agg (entC (signE s e)), .int .i64 0]) [] := by
 have h1 := spublic_ok s hs ls
 have h2 := etwin_ok e he
 have hA := auE_S he ⟨shaL_byt (1 :: s), shaL_len _⟩
 have h3 := (ebody_ok _ hA).roRes2 (.inl ⟨_, _, rfl⟩)
 have hB := entBody_byt hA
 have h4 := ssign_ok s (entBody (auE (shaL (1 :: s)) e)).1 hs ls hB.1 (by omega)
 rw [show entBody (auE (shaL (1 :: s)) e) = ((entBody (auE (shaL (1 :: s)) e)).1, 0) by rw [entBody_yes hA (by rw [auE_R]; exact hr)]] at h3
 unfold signE
 generalize openL (shaL (1 :: s)) (entBody (auE (shaL (1 :: s)) e)).1 = z at h4 ⊢
 generalize (entBody (auE (shaL (1 :: s)) e)).1 = t at h3 h4
 clear hA hB
 generalize shaL (1 :: s) = x at h1 h3 h4 ⊢
 refine ACall.of_does TTok Tryz.func51 rfl Tryz.call51 rfl (wpc_sound (M := MV) (PL := PL0) (CU := cutAt [100004, 100005, 100006, 100009, 100010, 99999]) TTok mixed _ _ _ ?_)
 conv => whnf
 repeat ((first | refine ⟨rfl, ?_⟩ | refine ⟨_, rfl, ?_⟩); conv => whnf)
 refine ⟨_, _, h1, by first | rfl | simp [noRoIf, noRoL, noRoV, noRoL_bys], ?_⟩
 conv => whnf
 repeat ((first | refine ifB_f ?_ | refine ⟨(⟨by kernel_rfl, by kernel_rfl, Nat.le_of_ble_eq_true (by kernel_rfl)⟩ : AV.ones _ = true ∧ _ ∧ _), ?_⟩ | refine ⟨rfl, ?_⟩); conv => whnf)
 refine Does.tidy [(0, .int .i64 2), (4, .ptr 0 0), (5, .ptr 1 0), (6, .ptr 2 0), (8, .ptr 3 0)] [(0, c32 s []), (1, entC e), (2, zeroE), (3, c32 x [])] 4 44 rfl rfl rfl (by kernel_rfl) (by kernel_rfl) ?_
 refine wpc_sound (M := MV) (PL := PL0) (CU := cutAt [100005, 100006, 100009, 100010, 99999]) TTok mixed _ _ _ ?_
 conv => whnf
 repeat ((first | refine ⟨entC_pure _, ?_⟩ | refine ⟨rfl, ?_⟩ | refine ⟨_, rfl, ?_⟩); conv => whnf)
 refine ⟨_, _, h2, by first | rfl | simp [noRoIf, noRoL, noRoV, noRoL_bys], ?_⟩
 conv => whnf
 repeat ((first | refine ⟨(⟨by kernel_rfl, by kernel_rfl, Nat.le_of_ble_eq_true (by kernel_rfl)⟩ : AV.ones _ = true ∧ _ ∧ _), ?_⟩ | refine ⟨rfl, ?_⟩); conv => whnf)
 refine Does.tidy [(0, .int .i64 2), (4, .ptr 0 0), (6, .ptr 2 0), (8, .ptr 3 0), (10, .ptr 4 0)] [(0, c32 s []), (1, entC e), (2, zeroE), (3, c32 x []), (4, entC e)] 5 44 rfl rfl rfl (by kernel_rfl) (by kernel_rfl) ?_
 refine wpc_sound (M := MV) (PL := PL0) (CU := cutAt [100006, 100009, 100010, 99999]) TTok mixed _ _ _ ?_
 conv => whnf
 repeat ((first | refine ⟨(⟨by kernel_rfl, by kernel_rfl, Nat.le_of_ble_eq_true (by kernel_rfl)⟩ : AV.ones _ = true ∧ _ ∧ _), ?_⟩ | refine ⟨_, rfl, ?_⟩); conv => whnf)
 refine Does.tidy [(0, .int .i64 2), (4, .ptr 0 0), (6, .ptr 2 0), (10, .ptr 4 0)] [(0, c32 s []), (1, entC e), (2, zeroE), (3, c32 x []), (4, entC (auE x e))] 5 44 rfl rfl rfl (by kernel_rfl) (by kernel_rfl) ?_
 refine wpc_sound (M := MV) (PL := PL0) (CU := cutAt [100009, 100010, 99999]) TTok mixed _ _ _ ?_
 conv => whnf
 repeat ((first | refine ⟨entC_pure _, ?_⟩ | refine ⟨rfl, ?_⟩ | refine ⟨_, rfl, ?_⟩); conv => whnf)
 refine ⟨_, _, h3, by first | rfl | simp [noRoIf, noRoL, noRoV, noRoL_bys], ?_⟩
 conv => whnf
 repeat ((refine ifB_f ?_); conv => whnf)
 refine Does.tidy [(0, .int .i64 2), (4, .ptr 0 0), (6, .ptr 2 0), (10, .ptr 4 0), (11, .ro t.length (bys t))] [(0, c32 s []), (1, entC e), (2, zeroE), (3, c32 x []), (4, entC (auE x e))] 5 44 rfl rfl rfl (by kernel_rfl) (by kernel_rfl) ?_
 refine wpc_sound (M := MV) (PL := PL0) (CU := cutAt [100010, 99999]) TTok mixed _ _ _ ?_
 conv => whnf
 repeat ((first | refine ⟨pureL_bys _, ?_⟩ | refine ⟨rfl, ?_⟩ | refine ⟨_, rfl, ?_⟩); conv => whnf)
 refine ⟨_, _, h4, by first | rfl | simp [noRoIf, noRoL, noRoV, noRoL_bys], ?_⟩
 conv => whnf
 repeat ((refine ⟨(⟨by kernel_rfl, by kernel_rfl, Nat.le_of_ble_eq_true (by kernel_rfl)⟩ : AV.ones _ = true ∧ _ ∧ _), ?_⟩); conv => whnf)
 refine Does.tidy [(6, .ptr 2 0), (10, .ptr 4 0)] [(0, c32 s []), (1, entC e), (2, zeroE), (3, c32 x []), (4, entC (sigE z (auE x e)))] 5 44 rfl rfl rfl (by kernel_rfl) (by kernel_rfl) ?_
 refine wpc_sound (M := MV) (PL := PL0) (CU := cutAt [99999]) TTok mixed _ _ _ ?_
 conv => whnf
 repeat ((first | refine ⟨(⟨by kernel_rfl, by kernel_rfl, Nat.le_of_ble_eq_true (by kernel_rfl)⟩ : AV.ones _ = true ∧ _ ∧ _), ?_⟩ | refine ⟨_, rfl, ?_⟩); conv => whnf)
 refine Does.tidy [(6, .ptr 2 0), (7, .int .i64 0)] [(0, c32 s []), (1, entC e), (2, entC (sigE z (auE x e))), (3, c32 x []), (4, entC (sigE z (auE x e)))] 5 44 rfl rfl rfl (by kernel_rfl) (by kernel_rfl) ?_
 refine wpc_sound (M := MV) (PL := PL0) (CU := noCut) TTok mixed _ _ _ ?_
 conv => whnf
 refine ⟨entC (sigE z (auE x e)), by kernel_rfl, ?_⟩
 conv => whnf
 refine ent_int_dems (by kernel_rfl) ?_
 rfl
end
def idE (e : Ent) : List Int × Int := if entR e then (shaL (entB e).1, 0) else (z32, 1)
section
attribute [local irreducible] demsP
set_option maxRecDepth 20000 in
set_option maxHeartbeats 4000000 in
theorem eid_ok (e : Ent) (he : EntS e) : ACall Tryz.prog 35 [.agg (entC e)] (.tuple [.agg (c32 (idE e).1 []), .int .i64 (idE e).2]) [] := by
 have h1 := (ebytes_ok e he).roRes2 (.inl ⟨_, _, rfl⟩)
 have hB := entB_byt he
 have h2 := sha_ok (entB e).1 hB.1 (by omega)
 unfold idE
 refine ACall.of_does TTok Tryz.func35 rfl Tryz.call35 rfl (wpc_sound (M := MV) (PL := PL0) (CU := cutAt [99999]) TTok mixed _ _ _ ?_)
 cases hr : entR e
 ·rw [show entB e = ([], 1) by unfold entB; rw [hr]; rfl] at h1
  conv => whnf
  repeat ((first | refine ⟨entC_pure _, ?_⟩ | refine ⟨rfl, ?_⟩ | refine ⟨_, rfl, ?_⟩); conv => whnf)
  refine ⟨_, _, h1, by first | rfl | simp [noRoIf, noRoL, noRoV, noRoL_bys], ?_⟩
  conv => whnf
  repeat ((first | refine ifB_t ?_ | refine ⟨(⟨by kernel_rfl, by kernel_rfl, Nat.le_of_ble_eq_true (by kernel_rfl)⟩ : AV.ones _ = true ∧ _ ∧ _), ?_⟩); conv => whnf)
  refine Does.tidy [(2, .ptr 1 0), (3, .int .i64 1)] [(0, entC e), (1, c32 z32 [])] 2 17 rfl rfl rfl (by kernel_rfl) (by kernel_rfl) ?_
  refine wpc_sound (M := MV) (PL := PL0) (CU := noCut) TTok mixed _ _ _ ?_
  conv => whnf
  refine ⟨c32 z32 [], by kernel_rfl, ?_⟩
  conv => whnf
  refine c32_int_dems (by kernel_rfl) ?_
  rfl
 ·rw [show entB e = ((entB e).1, 0) by rw [entB_yes' he hr]] at h1
  generalize (entB e).1 = t at h1 h2 ⊢
  generalize shaL t = x at h2 ⊢
  conv => whnf
  repeat ((first | refine ⟨entC_pure _, ?_⟩ | refine ⟨rfl, ?_⟩ | refine ⟨_, rfl, ?_⟩); conv => whnf)
  refine ⟨_, _, h1, by first | rfl | simp [noRoIf, noRoL, noRoV, noRoL_bys], ?_⟩
  conv => whnf
  repeat ((first | refine ifB_f ?_ | refine ⟨pureL_bys _, ?_⟩ | refine ⟨rfl, ?_⟩); conv => whnf)
  refine ⟨_, _, h2, by first | rfl | simp [noRoIf, noRoL, noRoV, noRoL_bys], ?_⟩
  conv => whnf
  repeat ((refine ⟨(⟨by kernel_rfl, by kernel_rfl, Nat.le_of_ble_eq_true (by kernel_rfl)⟩ : AV.ones _ = true ∧ _ ∧ _), ?_⟩); conv => whnf)
  refine Does.tidy [(2, .ptr 1 0), (3, .int .i64 0)] [(0, entC e), (1, c32 x [])] 2 17 rfl rfl rfl (by kernel_rfl) (by kernel_rfl) ?_
  refine wpc_sound (M := MV) (PL := PL0) (CU := noCut) TTok mixed _ _ _ ?_
  conv => whnf
  refine ⟨c32 x [], by kernel_rfl, ?_⟩
  conv => whnf
  refine c32_int_dems (by kernel_rfl) ?_
  rfl
end
end
section
--KR
attribute [local irreducible] ifB fitP Does Weaker
def MF : FuncId → List Mode := orElse [(94, [.rd]), (75, [.rd]), (72, [.rd]), (50, [.rd]), (15, [.rd]), (73, [.rd]), (42, [.rd]), (43, [.rd]),
 (999999, [.rd, .rd, .rd]), (999999, [.rd]), (27, [.rd]), (17, [.rd, .rd]), (999999, [.rd]), (999999, [.rd]), (999999, [.rd]), (999999, [.rd]),
 (999999, [.rd]), (999999, [.rd])] MW
theorem refnum_ok (n : Int) : ACall Tryz.prog 94 [.int .i64 n] (.agg (tokC ⟨1, n, []⟩)) [] := by
 refine ACall.of_does TTok Tryz.func94 rfl Tryz.call94 rfl (wpc_sound (M := MF) (PL := PL0) (CU := noCut) TTok mixed _ _ _ ?_)
 conv => whnf
 repeat ((first | refine ⟨(⟨by kernel_rfl, by kernel_rfl, Nat.le_of_ble_eq_true (by kernel_rfl)⟩ : AV.ones _ = true ∧ _ ∧ _), ?_⟩ | refine ⟨rfl, ?_⟩ | refine ⟨_, rfl, ?_⟩ | refine ⟨⟨rfl, rfl⟩, ?_⟩); conv => whnf)
 rfl
theorem refarray_ok (n : Int) : ACall Tryz.prog 72 [.int .i64 n] (.agg (tokC ⟨5, n, []⟩)) [] := by
 refine ACall.of_does TTok Tryz.func72 rfl Tryz.call72 rfl (wpc_sound (M := MF) (PL := PL0) (CU := noCut) TTok mixed _ _ _ ?_)
 conv => whnf
 repeat ((first | refine ⟨(⟨by kernel_rfl, by kernel_rfl, Nat.le_of_ble_eq_true (by kernel_rfl)⟩ : AV.ones _ = true ∧ _ ∧ _), ?_⟩ | refine ⟨rfl, ?_⟩ | refine ⟨_, rfl, ?_⟩ | refine ⟨⟨rfl, rfl⟩, ?_⟩); conv => whnf)
 rfl
theorem refbytes_ok (b : List Int) : ACall Tryz.prog 75 [.ro b.length (bys b)] (.agg (tokC ⟨3, 0, b⟩)) [] := by
 refine ACall.of_does TTok Tryz.func75 rfl Tryz.call75 rfl (wpc_sound (M := MF) (PL := PL0) (CU := noCut) TTok mixed _ _ _ ?_)
 conv => whnf
 repeat ((first | refine ⟨(⟨by kernel_rfl, by kernel_rfl, Nat.le_of_ble_eq_true (by kernel_rfl)⟩ : AV.ones _ = true ∧ _ ∧ _), ?_⟩ | refine ⟨rfl, ?_⟩ | refine ⟨_, rfl, ?_⟩ | refine ⟨⟨rfl, rfl⟩, ?_⟩ | (refine ⟨⟨rfl, rfl, ?_⟩, ?_⟩; (focus (first | assumption | exact pureL_bys _ | exact pureL_toks _)))); conv => whnf)
 rfl
theorem refop_ok (e : Ent) (he : EntS e) : ACall Tryz.prog 50 [.agg (opC e)] (.bool (opR e)) [] := by
 have hk := he.key'
 have hv := he.val'
 have hu := refUtf8_ok e.key he.key.1 (by omega)
 have hi := in_ok (e.key.length : Int) 1 16
 unfold opR
 refine ACall.of_does TTok Tryz.func50 rfl Tryz.call50 rfl (wpc_sound (M := MF) (PL := PL0) (CU := noCut) TTok mixed _ _ _ ?_)
 by_cases c1 : 1 ≤ e.key.length
 ·rw [dt c1]
  by_cases c2 : e.key.length ≤ 16
  ·rw [dt c2]
   rw [dt (show (1 : Int) ≤ e.key.length ∧ (e.key.length : Int) ≤ 16 by omega)] at hi
   cases c3 : validR e.key <;> rw [c3] at hu
   ·conv => whnf
    repeat ((first | refine ⟨rfl, ?_⟩ | refine ⟨_, rfl, ?_⟩); conv => whnf)
    refine ⟨_, _, hi, by first | rfl | simp [noRoIf, noRoL, noRoV, noRoL_bys], ?_⟩
    conv => whnf
    repeat ((first | refine ifB_t ?_ | refine ⟨pureL_bys _, ?_⟩ | (refine Or.inl ⟨⟨rfl, ?_⟩, ?_⟩; (focus (first | rfl | (simp; done) | (rw [toksC_length]; omega)))) | refine ⟨rfl, ?_⟩ | refine ⟨_, rfl, ?_⟩); conv => whnf)
    refine ⟨_, _, hu, by first | rfl | simp [noRoIf, noRoL, noRoV, noRoL_bys], ?_⟩
    conv => whnf
    repeat ((first | refine ifB_t ?_ | refine ifB_f ?_ | refine ⟨rfl, ?_⟩); conv => whnf)
    rfl
   ·by_cases c4 : e.kind = 1
    ·rw [dt c4, df (show ¬ e.kind = 2 by omega)]
     by_cases c5 : e.val.length ≤ 40
     ·rw [dt c5]
      conv => whnf
      repeat ((first | refine ⟨rfl, ?_⟩ | refine ⟨_, rfl, ?_⟩); conv => whnf)
      refine ⟨_, _, hi, by first | rfl | simp [noRoIf, noRoL, noRoV, noRoL_bys], ?_⟩
      conv => whnf
      repeat ((first | refine ifB_t ?_ | refine ⟨pureL_bys _, ?_⟩ | (refine Or.inl ⟨⟨rfl, ?_⟩, ?_⟩; (focus (first | rfl | (simp; done) | (rw [toksC_length]; omega)))) | refine ⟨rfl, ?_⟩ | refine ⟨_, rfl, ?_⟩); conv => whnf)
      refine ⟨_, _, hu, by first | rfl | simp [noRoIf, noRoL, noRoV, noRoL_bys], ?_⟩
      conv => whnf
      repeat ((first | refine ifB_t ?_ | (refine ifB_pos (decide_eq_true (by first | omega | rfl | (dsimp only; omega))) ?_) | refine ⟨rfl, ?_⟩ | refine ⟨_, rfl, ?_⟩); conv => whnf)
      rfl
     ·rw [df c5]
      conv => whnf
      repeat ((first | refine ⟨rfl, ?_⟩ | refine ⟨_, rfl, ?_⟩); conv => whnf)
      refine ⟨_, _, hi, by first | rfl | simp [noRoIf, noRoL, noRoV, noRoL_bys], ?_⟩
      conv => whnf
      repeat ((first | refine ifB_t ?_ | refine ⟨pureL_bys _, ?_⟩ | (refine Or.inl ⟨⟨rfl, ?_⟩, ?_⟩; (focus (first | rfl | (simp; done) | (rw [toksC_length]; omega)))) | refine ⟨rfl, ?_⟩ | refine ⟨_, rfl, ?_⟩); conv => whnf)
      refine ⟨_, _, hu, by first | rfl | simp [noRoIf, noRoL, noRoV, noRoL_bys], ?_⟩
      conv => whnf
      repeat ((first | refine ifB_t ?_ | refine ifB_f ?_ | (refine ifB_neg (decide_eq_false (by first | omega | rfl | (dsimp only; omega))) ?_) | (refine ifB_pos (decide_eq_true (by first | omega | rfl | (dsimp only; omega))) ?_) | refine ⟨rfl, ?_⟩ | refine ⟨_, rfl, ?_⟩); conv => whnf)
      rfl
    ·rw [df c4]
     by_cases c6 : e.kind = 2
     ·rw [dt c6]
      by_cases c7 : e.val.length = 0
      ·rw [dt c7]
       conv => whnf
       repeat ((first | refine ⟨rfl, ?_⟩ | refine ⟨_, rfl, ?_⟩); conv => whnf)
       refine ⟨_, _, hi, by first | rfl | simp [noRoIf, noRoL, noRoV, noRoL_bys], ?_⟩
       conv => whnf
       repeat ((first | refine ifB_t ?_ | refine ⟨pureL_bys _, ?_⟩ | (refine Or.inl ⟨⟨rfl, ?_⟩, ?_⟩; (focus (first | rfl | (simp; done) | (rw [toksC_length]; omega)))) | refine ⟨rfl, ?_⟩ | refine ⟨_, rfl, ?_⟩); conv => whnf)
       refine ⟨_, _, hu, by first | rfl | simp [noRoIf, noRoL, noRoV, noRoL_bys], ?_⟩
       conv => whnf
       repeat ((first | refine ifB_t ?_ | refine ifB_f ?_ | (refine ifB_neg (decide_eq_false (by first | omega | rfl | (dsimp only; omega))) ?_) | (refine ifB_pos (decide_eq_true (by first | omega | rfl | (dsimp only; omega))) ?_) | refine ⟨_, rfl, ?_⟩); conv => whnf)
       exact ⟨dt (by omega), rfl⟩
      ·rw [df c7]
       conv => whnf
       repeat ((first | refine ⟨rfl, ?_⟩ | refine ⟨_, rfl, ?_⟩); conv => whnf)
       refine ⟨_, _, hi, by first | rfl | simp [noRoIf, noRoL, noRoV, noRoL_bys], ?_⟩
       conv => whnf
       repeat ((first | refine ifB_t ?_ | refine ⟨pureL_bys _, ?_⟩ | (refine Or.inl ⟨⟨rfl, ?_⟩, ?_⟩; (focus (first | rfl | (simp; done) | (rw [toksC_length]; omega)))) | refine ⟨rfl, ?_⟩ | refine ⟨_, rfl, ?_⟩); conv => whnf)
       refine ⟨_, _, hu, by first | rfl | simp [noRoIf, noRoL, noRoV, noRoL_bys], ?_⟩
       conv => whnf
       repeat ((first | refine ifB_t ?_ | refine ifB_f ?_ | (refine ifB_neg (decide_eq_false (by first | omega | rfl | (dsimp only; omega))) ?_) | (refine ifB_pos (decide_eq_true (by first | omega | rfl | (dsimp only; omega))) ?_) | refine ⟨_, rfl, ?_⟩); conv => whnf)
       exact ⟨df (by omega), rfl⟩
     ·rw [df c6]
      conv => whnf
      repeat ((first | refine ⟨rfl, ?_⟩ | refine ⟨_, rfl, ?_⟩); conv => whnf)
      refine ⟨_, _, hi, by first | rfl | simp [noRoIf, noRoL, noRoV, noRoL_bys], ?_⟩
      conv => whnf
      repeat ((first | refine ifB_t ?_ | refine ⟨pureL_bys _, ?_⟩ | (refine Or.inl ⟨⟨rfl, ?_⟩, ?_⟩; (focus (first | rfl | (simp; done) | (rw [toksC_length]; omega)))) | refine ⟨rfl, ?_⟩ | refine ⟨_, rfl, ?_⟩); conv => whnf)
      refine ⟨_, _, hu, by first | rfl | simp [noRoIf, noRoL, noRoV, noRoL_bys], ?_⟩
      conv => whnf
      repeat ((first | refine ifB_t ?_ | refine ifB_f ?_ | (refine ifB_neg (decide_eq_false (by first | omega | rfl | (dsimp only; omega))) ?_) | refine ⟨rfl, ?_⟩ | refine ⟨_, rfl, ?_⟩); conv => whnf)
      rfl
  ·rw [df c2]
   rw [df (show ¬ ((1 : Int) ≤ e.key.length ∧ (e.key.length : Int) ≤ 16) by omega)] at hi
   conv => whnf
   repeat ((first | refine ⟨rfl, ?_⟩ | refine ⟨_, rfl, ?_⟩); conv => whnf)
   refine ⟨_, _, hi, by first | rfl | simp [noRoIf, noRoL, noRoV, noRoL_bys], ?_⟩
   conv => whnf
   repeat ((first | refine ifB_f ?_ | refine ⟨rfl, ?_⟩); conv => whnf)
   rfl
 ·rw [df c1]
  rw [df (show ¬ ((1 : Int) ≤ e.key.length ∧ (e.key.length : Int) ≤ 16) by omega)] at hi
  conv => whnf
  repeat ((first | refine ⟨rfl, ?_⟩ | refine ⟨_, rfl, ?_⟩); conv => whnf)
  refine ⟨_, _, hi, by first | rfl | simp [noRoIf, noRoL, noRoV, noRoL_bys], ?_⟩
  conv => whnf
  repeat ((first | refine ifB_f ?_ | refine ⟨rfl, ?_⟩); conv => whnf)
  rfl
theorem refentry_ok (e : Ent) (he : EntS e) : ACall Tryz.prog 15 [.agg (entC e)] (.bool (entR e)) [] := by
 have ho := refop_ok e he
 have hi := in_ok e.seq 1 200
 unfold entR
 refine ACall.of_does TTok Tryz.func15 rfl Tryz.call15 rfl (wpc_sound (M := MF) (PL := PL0) (CU := noCut) TTok mixed _ _ _ ?_)
 by_cases c1 : 1 ≤ e.seq ∧ e.seq ≤ 200
 ·rw [dt c1.1, dt c1.2]
  rw [dt c1] at hi
  by_cases c3 : e.seq = 1
  ·rw [df (show ¬ e.seq ≠ 1 by omega)]
   by_cases c4 : e.prev = z32
   ·rw [dt c4]
    by_cases c5 : 0 ≤ e.stamp
    ·rw [dt c5]
     conv => whnf
     repeat ((first | refine ⟨rfl, ?_⟩ | refine ⟨_, rfl, ?_⟩); conv => whnf)
     refine ⟨_, _, hi, by first | rfl | simp [noRoIf, noRoL, noRoV, noRoL_bys], ?_⟩
     conv => whnf
     repeat ((first | refine ifB_t ?_ | refine ifB_f ?_ | (refine ifB_neg (decide_eq_false (by first | omega | rfl | (dsimp only; omega))) ?_) | refine ⟨_, rfl, ?_⟩); conv => whnf)
     refine ⟨e.prev, z32, ⟨rfl, c32_map he.prev.2, rfl, he.prev.2, rfl⟩, ?_⟩
     conv => whnf
     repeat ((first | refine ifB_t ?_ | refine ifB_f ?_ | (refine ifB_pos (decide_eq_true (by first | omega | rfl | (dsimp only; omega))) ?_) | refine ⟨entC_pure _, ?_⟩ | refine ⟨rfl, ?_⟩ | refine ⟨_, rfl, ?_⟩); conv => whnf)
     rw [dt c4]
     conv => whnf
     cases c6 : opR e <;> rw [c6] at ho
     ·refine ⟨_, _, ho, by first | rfl | simp [noRoIf, noRoL, noRoV, noRoL_bys], ?_⟩
      conv => whnf
      repeat ((first | refine ifB_t ?_ | refine ⟨rfl, ?_⟩); conv => whnf)
      rfl
     ·refine ⟨_, _, ho, by first | rfl | simp [noRoIf, noRoL, noRoV, noRoL_bys], ?_⟩
      conv => whnf
      repeat ((first | refine ifB_t ?_ | refine ⟨rfl, ?_⟩); conv => whnf)
      rfl
    ·rw [df c5]
     conv => whnf
     repeat ((first | refine ⟨rfl, ?_⟩ | refine ⟨_, rfl, ?_⟩); conv => whnf)
     refine ⟨_, _, hi, by first | rfl | simp [noRoIf, noRoL, noRoV, noRoL_bys], ?_⟩
     conv => whnf
     repeat ((first | refine ifB_t ?_ | refine ifB_f ?_ | (refine ifB_neg (decide_eq_false (by first | omega | rfl | (dsimp only; omega))) ?_) | refine ⟨_, rfl, ?_⟩); conv => whnf)
     refine ⟨e.prev, z32, ⟨rfl, c32_map he.prev.2, rfl, he.prev.2, rfl⟩, ?_⟩
     conv => whnf
     repeat ((first | refine ifB_t ?_ | refine ifB_f ?_ | (refine ifB_neg (decide_eq_false (by first | omega | rfl | (dsimp only; omega))) ?_) | (refine ifB_pos (decide_eq_true (by first | omega | rfl | (dsimp only; omega))) ?_) | refine ⟨rfl, ?_⟩ | refine ⟨_, rfl, ?_⟩); conv => whnf)
     rfl
   ·rw [df c4]
    conv => whnf
    repeat ((first | refine ⟨rfl, ?_⟩ | refine ⟨_, rfl, ?_⟩); conv => whnf)
    refine ⟨_, _, hi, by first | rfl | simp [noRoIf, noRoL, noRoV, noRoL_bys], ?_⟩
    conv => whnf
    repeat ((first | refine ifB_t ?_ | refine ifB_f ?_ | (refine ifB_neg (decide_eq_false (by first | omega | rfl | (dsimp only; omega))) ?_) | refine ⟨_, rfl, ?_⟩); conv => whnf)
    refine ⟨e.prev, z32, ⟨rfl, c32_map he.prev.2, rfl, he.prev.2, rfl⟩, ?_⟩
    conv => whnf
    repeat ((first | refine ifB_t ?_ | refine ifB_f ?_ | (refine ifB_neg (decide_eq_false (by first | omega | rfl | (dsimp only; omega))) ?_) | refine ⟨rfl, ?_⟩); conv => whnf)
    rfl
  ·rw [dt (show e.seq ≠ 1 from c3)]
   by_cases c5 : 0 ≤ e.stamp
   ·rw [dt c5]
    conv => whnf
    repeat ((first | refine ⟨rfl, ?_⟩ | refine ⟨_, rfl, ?_⟩); conv => whnf)
    refine ⟨_, _, hi, by first | rfl | simp [noRoIf, noRoL, noRoV, noRoL_bys], ?_⟩
    conv => whnf
    repeat ((first | refine ifB_t ?_ | (refine ifB_pos (decide_eq_true (by first | omega | rfl | (dsimp only; omega))) ?_) | refine ⟨entC_pure _, ?_⟩ | refine ⟨rfl, ?_⟩ | refine ⟨_, rfl, ?_⟩); conv => whnf)
    cases c6 : opR e <;> rw [c6] at ho
    ·refine ⟨_, _, ho, by first | rfl | simp [noRoIf, noRoL, noRoV, noRoL_bys], ?_⟩
     conv => whnf
     repeat ((first | refine ifB_t ?_ | refine ⟨rfl, ?_⟩); conv => whnf)
     rfl
    ·refine ⟨_, _, ho, by first | rfl | simp [noRoIf, noRoL, noRoV, noRoL_bys], ?_⟩
     conv => whnf
     repeat ((first | refine ifB_t ?_ | refine ⟨rfl, ?_⟩); conv => whnf)
     rfl
   ·rw [df c5]
    conv => whnf
    repeat ((first | refine ⟨rfl, ?_⟩ | refine ⟨_, rfl, ?_⟩); conv => whnf)
    refine ⟨_, _, hi, by first | rfl | simp [noRoIf, noRoL, noRoV, noRoL_bys], ?_⟩
    conv => whnf
    repeat ((first | refine ifB_t ?_ | refine ifB_f ?_ | (refine ifB_neg (decide_eq_false (by first | omega | rfl | (dsimp only; omega))) ?_) | (refine ifB_pos (decide_eq_true (by first | omega | rfl | (dsimp only; omega))) ?_) | refine ⟨rfl, ?_⟩ | refine ⟨_, rfl, ?_⟩); conv => whnf)
    rfl
 ·have : (decide (1 ≤ e.seq) && decide (e.seq ≤ 200)) = false := by
   rw [Bool.and_eq_false_iff]
   by_cases h : 1 ≤ e.seq
   ·exact .inr (df (fun k => c1 ⟨h, k⟩))
   ·exact .inl (df h)
  rw [this]
  rw [df c1] at hi
  conv => whnf
  repeat ((first | refine ⟨rfl, ?_⟩ | refine ⟨_, rfl, ?_⟩); conv => whnf)
  refine ⟨_, _, hi, by first | rfl | simp [noRoIf, noRoL, noRoV, noRoL_bys], ?_⟩
  conv => whnf
  repeat ((first | refine ifB_f ?_ | refine ⟨rfl, ?_⟩); conv => whnf)
  rfl
end
section
--KR
attribute [local irreducible] ifB fitP Does Weaker
def sixT (e : Ent) : List Tok := [⟨1, 1, []⟩, ⟨3, 0, e.au⟩, ⟨1, e.seq, []⟩, ⟨3, 0, e.prev⟩, ⟨1, e.stamp, []⟩, ⟨5, 3, []⟩, ⟨1, e.kind, []⟩, ⟨4, 0, e.key⟩, ⟨3, 0, e.val⟩]
def sixV (e : Ent) (v : AV) : List AV := toksC [⟨1, 1, []⟩, ⟨3, 0, e.au⟩, ⟨1, e.seq, []⟩, ⟨3, 0, e.prev⟩, ⟨1, e.stamp, []⟩, ⟨5, 3, []⟩, ⟨1, e.kind, []⟩] ++ ([.int .i64 4, .int .i64 0, v] ++ toksC [⟨3, 0, e.val⟩])
theorem sixV_eq (e : Ent) : sixV e (roW e.key) = toksC (sixT e) := by rw [roW_eq]; rfl
def PLsix : Nat → Bool × Plan := plans [(1, (false, (takesTo [1, 2, 4, 5, 7, 8, 10, 11, 14, 15, 16, 18, 19, 20, 23, 24, 25] (.all [(0, (.all [(3, (.all [(6, (.all [(9, (.all [(12, (.all [(13, (.all [(17, (.all [(21, (takesTo [22] (.all [(26, (.all [(27, (takes [28]))]))]))), (26, (.all [(21, (takesTo [22] (.all [(27, (takes [28]))])))]))])), (21, (takesTo [22] (.all [(17, (.all [(26, (.all [(27, (takes [28]))]))]))])))])), (21, (takesTo [22] (.all [(13, (.all [(17, (.all [(26, (.all [(27, (takes [28]))]))]))]))])))])), (21, (takesTo [22] (.all [(12, (.all [(13, (.all [(17, (.all [(26, (.all [(27, (takes [28]))]))]))]))]))])))])), (21, (takesTo [22] (.all [(9, (.all [(12, (.all [(13, (.all [(17, (.all [(26, (.all [(27, (takes [28]))]))]))]))]))]))])))])), (21, (takesTo [22] (.all [(6, (.all [(9, (.all [(12, (.all [(13, (.all [(17, (.all [(26, (.all [(27, (takes [28]))]))]))]))]))]))]))])))])), (21, (takesTo [22] (.all [(3, (.all [(6, (.all [(9, (.all [(12, (.all [(13, (.all [(17, (.all [(26, (.all [(27, (takes [28]))]))]))]))]))]))]))]))])))])), (21, (takesTo [22] (.all [(0, (.all [(3, (.all [(6, (.all [(9, (.all [(12, (.all [(13, (.all [(17, (.all [(26, (.all [(27, (takes [28]))]))]))]))]))]))]))]))]))])))]))))]
set_option maxRecDepth 20000 in
set_option maxHeartbeats 20000000 in
theorem six_ok (e : Ent) (he : EntS e) : ACall Tryz.prog 73 [.agg (entC e)] (.own 9 3 (toksC (sixT e))) [] := by
 have hk := he.key'
 refine ACall.of_does TTok Tryz.func73 rfl Tryz.call73 rfl (wpc_sound (M := MF) (PL := PLsix) (CU := cutAt [100001, 99999]) TTok mixed _ _ _ ?_)
 conv => whnf
 repeat ((refine ⟨rfl, ?_⟩); conv => whnf)
 refine Does.freeze 0 rfl (Does.tidy [(1, .rop (entC e))] [] 1 31 rfl rfl rfl (by kernel_rfl) (by kernel_rfl) ?_)
 refine wpc_sound (M := MF) (PL := PLsix) (CU := noCut) TTok mixed _ _ _ ?_
 conv => whnf
 refine ⟨by kernel_rfl, ?_⟩
 conv => whnf
 repeat ((first | (refine ⟨⟨by first | (simp only [List.drop_zero, List.length_drop, hds_len]; omega) | exact Nat.le_of_ble_eq_true (by kernel_rfl), okB_none _⟩, ?_⟩) | refine ⟨rfl, ?_⟩ | refine ⟨_, rfl, ?_⟩); conv => whnf)
 refine ⟨?_, ?_⟩
 ·conv => whnf
  repeat ((refine ⟨rfl, ?_⟩); conv => whnf)
  refine ⟨_, _, refnum_ok 1, by first | rfl | simp [noRoIf, noRoL, noRoV, noRoL_bys], ?_⟩
  conv => whnf
  refine ⟨?_, ?_⟩
  ·conv => whnf
   repeat ((refine ⟨rfl, ?_⟩); conv => whnf)
   refine ⟨_, _, (refbytes_ok e.au).arg1 he.au.2.symm (cut32 he.au.2 _), by first | rfl | simp [noRoIf, noRoL, noRoV, noRoL_bys], ?_⟩
   conv => whnf
   refine ⟨?_, ?_⟩
   ·conv => whnf
    repeat ((refine ⟨rfl, ?_⟩); conv => whnf)
    refine ⟨_, _, refnum_ok e.seq, by first | rfl | simp [noRoIf, noRoL, noRoV, noRoL_bys], ?_⟩
    conv => whnf
    refine ⟨?_, ?_⟩
    ·conv => whnf
     repeat ((refine ⟨rfl, ?_⟩); conv => whnf)
     refine ⟨_, _, (refbytes_ok e.prev).arg1 he.prev.2.symm (cut32 he.prev.2 _), by first | rfl | simp [noRoIf, noRoL, noRoV, noRoL_bys], ?_⟩
     conv => whnf
     refine ⟨?_, ?_⟩
     ·conv => whnf
      repeat ((refine ⟨rfl, ?_⟩); conv => whnf)
      refine ⟨_, _, refnum_ok e.stamp, by first | rfl | simp [noRoIf, noRoL, noRoV, noRoL_bys], ?_⟩
      conv => whnf
      refine ⟨?_, ?_⟩
      ·conv => whnf
       repeat ((refine ⟨rfl, ?_⟩); conv => whnf)
       refine ⟨_, _, refarray_ok 3, by first | rfl | simp [noRoIf, noRoL, noRoV, noRoL_bys], ?_⟩
       conv => whnf
       refine ⟨?_, ?_⟩
       ·conv => whnf
        repeat ((refine ⟨rfl, ?_⟩); conv => whnf)
        refine ⟨_, _, refnum_ok e.kind, by first | rfl | simp [noRoIf, noRoL, noRoV, noRoL_bys], ?_⟩
        conv => whnf
        refine ⟨?_, ?_⟩
        ·conv => whnf
         repeat ((first | refine ⟨pureL_bys _, ?_⟩ | refine ⟨rfl, ?_⟩); conv => whnf)
         conv => whnf
         refine ⟨_, _, refbytes_ok e.val, by first | rfl | simp [noRoIf, noRoL, noRoV, noRoL_bys], ?_⟩
         conv => whnf
         repeat ((refine ⟨⟨rfl, rfl⟩, ?_⟩); conv => whnf)
         conv => whnf
         refine Does.freeze 1 rfl (wpc_sound (M := MF) (PL := PL0) (CU := noCut) TTok mixed _ _ _ ?_)
         conv => whnf
         exact ⟨⟨rfl, rfl, Eq.trans (b := sixV e (roW e.key)) (by kernel_rfl) (sixV_eq e), rfl, pureL_toks (sixT e)⟩, rfl⟩
        ·conv => whnf
         repeat ((first | refine ⟨pureL_bys _, ?_⟩ | refine ⟨rfl, ?_⟩); conv => whnf)
         refine ⟨_, _, refbytes_ok e.val, by first | rfl | simp [noRoIf, noRoL, noRoV, noRoL_bys], ?_⟩
         conv => whnf
         repeat ((refine ⟨⟨rfl, rfl⟩, ?_⟩); conv => whnf)
         conv => whnf
         conv => whnf
         refine Does.freeze 1 rfl (wpc_sound (M := MF) (PL := PL0) (CU := noCut) TTok mixed _ _ _ ?_)
         conv => whnf
         exact ⟨⟨rfl, rfl, Eq.trans (b := sixV e (roW e.key)) (by kernel_rfl) (sixV_eq e), rfl, pureL_toks (sixT e)⟩, rfl⟩
       ·conv => whnf
        repeat ((refine ⟨rfl, ?_⟩); conv => whnf)
        conv => whnf
        refine ⟨_, _, refnum_ok e.kind, by first | rfl | simp [noRoIf, noRoL, noRoV, noRoL_bys], ?_⟩
        conv => whnf
        repeat ((first | refine ⟨pureL_bys _, ?_⟩ | refine ⟨rfl, ?_⟩); conv => whnf)
        refine ⟨_, _, refbytes_ok e.val, by first | rfl | simp [noRoIf, noRoL, noRoV, noRoL_bys], ?_⟩
        conv => whnf
        repeat ((refine ⟨⟨rfl, rfl⟩, ?_⟩); conv => whnf)
        conv => whnf
        refine Does.freeze 1 rfl (wpc_sound (M := MF) (PL := PL0) (CU := noCut) TTok mixed _ _ _ ?_)
        conv => whnf
        exact ⟨⟨rfl, rfl, Eq.trans (b := sixV e (roW e.key)) (by kernel_rfl) (sixV_eq e), rfl, pureL_toks (sixT e)⟩, rfl⟩
      ·conv => whnf
       repeat ((refine ⟨rfl, ?_⟩); conv => whnf)
       conv => whnf
       refine ⟨_, _, refarray_ok 3, by first | rfl | simp [noRoIf, noRoL, noRoV, noRoL_bys], ?_⟩
       conv => whnf
       repeat ((refine ⟨rfl, ?_⟩); conv => whnf)
       refine ⟨_, _, refnum_ok e.kind, by first | rfl | simp [noRoIf, noRoL, noRoV, noRoL_bys], ?_⟩
       conv => whnf
       repeat ((first | refine ⟨pureL_bys _, ?_⟩ | refine ⟨rfl, ?_⟩); conv => whnf)
       refine ⟨_, _, refbytes_ok e.val, by first | rfl | simp [noRoIf, noRoL, noRoV, noRoL_bys], ?_⟩
       conv => whnf
       repeat ((refine ⟨⟨rfl, rfl⟩, ?_⟩); conv => whnf)
       conv => whnf
       refine Does.freeze 1 rfl (wpc_sound (M := MF) (PL := PL0) (CU := noCut) TTok mixed _ _ _ ?_)
       conv => whnf
       exact ⟨⟨rfl, rfl, Eq.trans (b := sixV e (roW e.key)) (by kernel_rfl) (sixV_eq e), rfl, pureL_toks (sixT e)⟩, rfl⟩
     ·conv => whnf
      repeat ((refine ⟨rfl, ?_⟩); conv => whnf)
      conv => whnf
      refine ⟨_, _, refnum_ok e.stamp, by first | rfl | simp [noRoIf, noRoL, noRoV, noRoL_bys], ?_⟩
      conv => whnf
      repeat ((refine ⟨rfl, ?_⟩); conv => whnf)
      refine ⟨_, _, refarray_ok 3, by first | rfl | simp [noRoIf, noRoL, noRoV, noRoL_bys], ?_⟩
      conv => whnf
      repeat ((refine ⟨rfl, ?_⟩); conv => whnf)
      refine ⟨_, _, refnum_ok e.kind, by first | rfl | simp [noRoIf, noRoL, noRoV, noRoL_bys], ?_⟩
      conv => whnf
      repeat ((first | refine ⟨pureL_bys _, ?_⟩ | refine ⟨rfl, ?_⟩); conv => whnf)
      refine ⟨_, _, refbytes_ok e.val, by first | rfl | simp [noRoIf, noRoL, noRoV, noRoL_bys], ?_⟩
      conv => whnf
      repeat ((refine ⟨⟨rfl, rfl⟩, ?_⟩); conv => whnf)
      conv => whnf
      refine Does.freeze 1 rfl (wpc_sound (M := MF) (PL := PL0) (CU := noCut) TTok mixed _ _ _ ?_)
      conv => whnf
      exact ⟨⟨rfl, rfl, Eq.trans (b := sixV e (roW e.key)) (by kernel_rfl) (sixV_eq e), rfl, pureL_toks (sixT e)⟩, rfl⟩
    ·conv => whnf
     repeat ((refine ⟨rfl, ?_⟩); conv => whnf)
     conv => whnf
     refine ⟨_, _, (refbytes_ok e.prev).arg1 he.prev.2.symm (cut32 he.prev.2 _), by first | rfl | simp [noRoIf, noRoL, noRoV, noRoL_bys], ?_⟩
     conv => whnf
     repeat ((refine ⟨rfl, ?_⟩); conv => whnf)
     refine ⟨_, _, refnum_ok e.stamp, by first | rfl | simp [noRoIf, noRoL, noRoV, noRoL_bys], ?_⟩
     conv => whnf
     repeat ((refine ⟨rfl, ?_⟩); conv => whnf)
     refine ⟨_, _, refarray_ok 3, by first | rfl | simp [noRoIf, noRoL, noRoV, noRoL_bys], ?_⟩
     conv => whnf
     repeat ((refine ⟨rfl, ?_⟩); conv => whnf)
     refine ⟨_, _, refnum_ok e.kind, by first | rfl | simp [noRoIf, noRoL, noRoV, noRoL_bys], ?_⟩
     conv => whnf
     repeat ((first | refine ⟨pureL_bys _, ?_⟩ | refine ⟨rfl, ?_⟩); conv => whnf)
     refine ⟨_, _, refbytes_ok e.val, by first | rfl | simp [noRoIf, noRoL, noRoV, noRoL_bys], ?_⟩
     conv => whnf
     repeat ((refine ⟨⟨rfl, rfl⟩, ?_⟩); conv => whnf)
     conv => whnf
     refine Does.freeze 1 rfl (wpc_sound (M := MF) (PL := PL0) (CU := noCut) TTok mixed _ _ _ ?_)
     conv => whnf
     exact ⟨⟨rfl, rfl, Eq.trans (b := sixV e (roW e.key)) (by kernel_rfl) (sixV_eq e), rfl, pureL_toks (sixT e)⟩, rfl⟩
   ·conv => whnf
    repeat ((refine ⟨rfl, ?_⟩); conv => whnf)
    conv => whnf
    refine ⟨_, _, refnum_ok e.seq, by first | rfl | simp [noRoIf, noRoL, noRoV, noRoL_bys], ?_⟩
    conv => whnf
    repeat ((refine ⟨rfl, ?_⟩); conv => whnf)
    refine ⟨_, _, (refbytes_ok e.prev).arg1 he.prev.2.symm (cut32 he.prev.2 _), by first | rfl | simp [noRoIf, noRoL, noRoV, noRoL_bys], ?_⟩
    conv => whnf
    repeat ((refine ⟨rfl, ?_⟩); conv => whnf)
    refine ⟨_, _, refnum_ok e.stamp, by first | rfl | simp [noRoIf, noRoL, noRoV, noRoL_bys], ?_⟩
    conv => whnf
    repeat ((refine ⟨rfl, ?_⟩); conv => whnf)
    refine ⟨_, _, refarray_ok 3, by first | rfl | simp [noRoIf, noRoL, noRoV, noRoL_bys], ?_⟩
    conv => whnf
    repeat ((refine ⟨rfl, ?_⟩); conv => whnf)
    refine ⟨_, _, refnum_ok e.kind, by first | rfl | simp [noRoIf, noRoL, noRoV, noRoL_bys], ?_⟩
    conv => whnf
    repeat ((first | refine ⟨pureL_bys _, ?_⟩ | refine ⟨rfl, ?_⟩); conv => whnf)
    refine ⟨_, _, refbytes_ok e.val, by first | rfl | simp [noRoIf, noRoL, noRoV, noRoL_bys], ?_⟩
    conv => whnf
    repeat ((refine ⟨⟨rfl, rfl⟩, ?_⟩); conv => whnf)
    conv => whnf
    refine Does.freeze 1 rfl (wpc_sound (M := MF) (PL := PL0) (CU := noCut) TTok mixed _ _ _ ?_)
    conv => whnf
    exact ⟨⟨rfl, rfl, Eq.trans (b := sixV e (roW e.key)) (by kernel_rfl) (sixV_eq e), rfl, pureL_toks (sixT e)⟩, rfl⟩
  ·conv => whnf
   repeat ((refine ⟨rfl, ?_⟩); conv => whnf)
   conv => whnf
   refine ⟨_, _, (refbytes_ok e.au).arg1 he.au.2.symm (cut32 he.au.2 _), by first | rfl | simp [noRoIf, noRoL, noRoV, noRoL_bys], ?_⟩
   conv => whnf
   repeat ((refine ⟨rfl, ?_⟩); conv => whnf)
   refine ⟨_, _, refnum_ok e.seq, by first | rfl | simp [noRoIf, noRoL, noRoV, noRoL_bys], ?_⟩
   conv => whnf
   repeat ((refine ⟨rfl, ?_⟩); conv => whnf)
   refine ⟨_, _, (refbytes_ok e.prev).arg1 he.prev.2.symm (cut32 he.prev.2 _), by first | rfl | simp [noRoIf, noRoL, noRoV, noRoL_bys], ?_⟩
   conv => whnf
   repeat ((refine ⟨rfl, ?_⟩); conv => whnf)
   refine ⟨_, _, refnum_ok e.stamp, by first | rfl | simp [noRoIf, noRoL, noRoV, noRoL_bys], ?_⟩
   conv => whnf
   repeat ((refine ⟨rfl, ?_⟩); conv => whnf)
   refine ⟨_, _, refarray_ok 3, by first | rfl | simp [noRoIf, noRoL, noRoV, noRoL_bys], ?_⟩
   conv => whnf
   repeat ((refine ⟨rfl, ?_⟩); conv => whnf)
   refine ⟨_, _, refnum_ok e.kind, by first | rfl | simp [noRoIf, noRoL, noRoV, noRoL_bys], ?_⟩
   conv => whnf
   repeat ((first | refine ⟨pureL_bys _, ?_⟩ | refine ⟨rfl, ?_⟩); conv => whnf)
   refine ⟨_, _, refbytes_ok e.val, by first | rfl | simp [noRoIf, noRoL, noRoV, noRoL_bys], ?_⟩
   conv => whnf
   repeat ((refine ⟨⟨rfl, rfl⟩, ?_⟩); conv => whnf)
   conv => whnf
   refine Does.freeze 1 rfl (wpc_sound (M := MF) (PL := PL0) (CU := noCut) TTok mixed _ _ _ ?_)
   conv => whnf
   exact ⟨⟨rfl, rfl, Eq.trans (b := sixV e (roW e.key)) (by kernel_rfl) (sixV_eq e), rfl, pureL_toks (sixT e)⟩, rfl⟩
 ·conv => whnf
  repeat ((refine ⟨rfl, ?_⟩); conv => whnf)
  conv => whnf
  refine ⟨_, _, refnum_ok 1, by first | rfl | simp [noRoIf, noRoL, noRoV, noRoL_bys], ?_⟩
  conv => whnf
  repeat ((refine ⟨rfl, ?_⟩); conv => whnf)
  refine ⟨_, _, (refbytes_ok e.au).arg1 he.au.2.symm (cut32 he.au.2 _), by first | rfl | simp [noRoIf, noRoL, noRoV, noRoL_bys], ?_⟩
  conv => whnf
  repeat ((refine ⟨rfl, ?_⟩); conv => whnf)
  refine ⟨_, _, refnum_ok e.seq, by first | rfl | simp [noRoIf, noRoL, noRoV, noRoL_bys], ?_⟩
  conv => whnf
  repeat ((refine ⟨rfl, ?_⟩); conv => whnf)
  refine ⟨_, _, (refbytes_ok e.prev).arg1 he.prev.2.symm (cut32 he.prev.2 _), by first | rfl | simp [noRoIf, noRoL, noRoV, noRoL_bys], ?_⟩
  conv => whnf
  repeat ((refine ⟨rfl, ?_⟩); conv => whnf)
  refine ⟨_, _, refnum_ok e.stamp, by first | rfl | simp [noRoIf, noRoL, noRoV, noRoL_bys], ?_⟩
  conv => whnf
  repeat ((refine ⟨rfl, ?_⟩); conv => whnf)
  refine ⟨_, _, refarray_ok 3, by first | rfl | simp [noRoIf, noRoL, noRoV, noRoL_bys], ?_⟩
  conv => whnf
  repeat ((refine ⟨rfl, ?_⟩); conv => whnf)
  refine ⟨_, _, refnum_ok e.kind, by first | rfl | simp [noRoIf, noRoL, noRoV, noRoL_bys], ?_⟩
  conv => whnf
  repeat ((first | refine ⟨pureL_bys _, ?_⟩ | refine ⟨rfl, ?_⟩); conv => whnf)
  refine ⟨_, _, refbytes_ok e.val, by first | rfl | simp [noRoIf, noRoL, noRoV, noRoL_bys], ?_⟩
  conv => whnf
  repeat ((refine ⟨⟨rfl, rfl⟩, ?_⟩); conv => whnf)
  conv => whnf
  refine Does.freeze 1 rfl (wpc_sound (M := MF) (PL := PL0) (CU := noCut) TTok mixed _ _ _ ?_)
  conv => whnf
  exact ⟨⟨rfl, rfl, Eq.trans (b := sixV e (roW e.key)) (by kernel_rfl) (sixV_eq e), rfl, pureL_toks (sixT e)⟩, rfl⟩
end
section
--KR
attribute [local irreducible] ifB fitP Does Weaker
def PLeb : Nat → Bool × Plan := plans [(1, (false, (takesTo [2] (.all [(0, (.all [(1, (.all [(3, (.all [(4, (takes [5]))]))])), (3, (.all [(1, (.all [(4, (takes [5]))]))]))]))]))))]
set_option maxRecDepth 20000 in
set_option maxHeartbeats 4000000 in
theorem refebytes_ok (e : Ent) (he : EntS e) : ACall Tryz.prog 42 [.agg (entC e)] (.own (encR validR (entTs e)).1.length 1 (bys (encR validR (entTs e)).1)) [] := by
 have ht := entTs_ok e he
 have hb := refEncode_ok (entTs e) ht.1 (fun t h => by have := ht.2 t h; omega)
 generalize encR validR (entTs e) = o at hb ⊢
 obtain ⟨o, er⟩ := o
 dsimp only at hb ⊢
 refine ACall.of_does TTok Tryz.func42 rfl Tryz.call42 rfl (wpc_sound (M := MF) (PL := PLeb) (CU := cutAt [100001]) TTok mixed _ _ _ ?_)
 conv => whnf
 repeat ((refine ⟨rfl, ?_⟩); conv => whnf)
 refine Does.freeze 0 rfl (Does.tidy [(1, .rop (entC e))] [] 1 22 rfl rfl rfl (by kernel_rfl) (by kernel_rfl) ?_)
 refine wpc_sound (M := MF) (PL := PLeb) (CU := noCut) TTok mixed _ _ _ ?_
 conv => whnf
 refine ⟨by kernel_rfl, ?_⟩
 conv => whnf
 repeat ((first | refine ⟨rfl, ?_⟩ | refine ⟨_, rfl, ?_⟩); conv => whnf)
 refine ⟨_, _, refarray_ok 7, by first | rfl | simp [noRoIf, noRoL, noRoV, noRoL_bys], ?_⟩
 conv => whnf
 refine ⟨?_, ?_⟩
 ·conv => whnf
  repeat ((first | refine ⟨entC_pure _, ?_⟩ | refine ⟨rfl, ?_⟩ | refine ⟨⟨rfl, rfl⟩, ?_⟩); conv => whnf)
  conv => whnf
  refine ⟨_, _, six_ok e he, by first | rfl | simp [noRoIf, noRoL, noRoV, noRoL_bys], ?_⟩
  conv => whnf
  conv => whnf
  refine Or.inl ⟨⟨rfl, rfl, by rw [toksC_length]; rfl⟩, ?_⟩
  conv => whnf
  repeat ((first | (refine ⟨⟨by first | (simp only [List.drop_zero, List.length_drop, hds_len]; omega) | exact Nat.le_of_ble_eq_true (by kernel_rfl), okB_none _⟩, ?_⟩) | refine ⟨rfl, ?_⟩ | (refine ⟨⟨rfl, ?_, ?_, ?_⟩, ?_⟩; (focus (first | (simp; done) | (simp; omega))); (focus (first | exact Or.inl rfl | exact Or.inr (by omega))); (focus (first | (simp [limB, lenB, offB]; done) | (simp [limB, lenB, offB]; omega))))); conv => whnf)
  refine ⟨_, _, (refbytes_ok e.sig).arg1 he.sig.2.symm (cut64 he.sig.2 _), by first | rfl | simp [noRoIf, noRoL, noRoV, noRoL_bys], ?_⟩
  conv => whnf
  repeat ((first | (refine Or.inl ⟨⟨rfl, ?_⟩, ?_⟩; (focus (first | rfl | (simp; done) | (rw [toksC_length]; omega)))) | refine ⟨rfl, ?_⟩ | refine ⟨⟨rfl, rfl⟩, ?_⟩); conv => whnf)
  refine ⟨⟨rfl, rfl, by kernel_rfl, by simp [limB]⟩, ?_⟩
  conv => whnf
  repeat ((first | (refine Or.inl ⟨⟨rfl, ?_⟩, ?_⟩; (focus (first | rfl | (simp; done) | (rw [toksC_length]; omega)))) | refine ⟨rfl, ?_⟩ | (refine And.intro ?_ ?_; (focus (simp [pureL, pureV, pureL_bys, pureL_toks, pureL_app]; done)))); conv => whnf)
  refine ⟨_, _, hb.arg1 rfl (by kernel_rfl), by first | rfl | simp [noRoIf, noRoL, noRoV, noRoL_bys], ?_⟩
  conv => whnf
  repeat ((refine ⟨⟨rfl, rfl, rfl, ?_, pureL_bys _⟩, ?_⟩; (focus (simp; done))); conv => whnf)
  rfl
 ·conv => whnf
  repeat ((first | refine ⟨entC_pure _, ?_⟩ | refine ⟨rfl, ?_⟩); conv => whnf)
  refine ⟨_, _, six_ok e he, by first | rfl | simp [noRoIf, noRoL, noRoV, noRoL_bys], ?_⟩
  conv => whnf
  repeat ((refine ⟨⟨rfl, rfl⟩, ?_⟩); conv => whnf)
  conv => whnf
  conv => whnf
  refine Or.inl ⟨⟨rfl, rfl, by rw [toksC_length]; rfl⟩, ?_⟩
  conv => whnf
  repeat ((first | (refine ⟨⟨by first | (simp only [List.drop_zero, List.length_drop, hds_len]; omega) | exact Nat.le_of_ble_eq_true (by kernel_rfl), okB_none _⟩, ?_⟩) | refine ⟨rfl, ?_⟩ | (refine ⟨⟨rfl, ?_, ?_, ?_⟩, ?_⟩; (focus (first | (simp; done) | (simp; omega))); (focus (first | exact Or.inl rfl | exact Or.inr (by omega))); (focus (first | (simp [limB, lenB, offB]; done) | (simp [limB, lenB, offB]; omega))))); conv => whnf)
  refine ⟨_, _, (refbytes_ok e.sig).arg1 he.sig.2.symm (cut64 he.sig.2 _), by first | rfl | simp [noRoIf, noRoL, noRoV, noRoL_bys], ?_⟩
  conv => whnf
  repeat ((first | (refine Or.inl ⟨⟨rfl, ?_⟩, ?_⟩; (focus (first | rfl | (simp; done) | (rw [toksC_length]; omega)))) | refine ⟨rfl, ?_⟩ | refine ⟨⟨rfl, rfl⟩, ?_⟩); conv => whnf)
  refine ⟨⟨rfl, rfl, by kernel_rfl, by simp [limB]⟩, ?_⟩
  conv => whnf
  repeat ((first | (refine Or.inl ⟨⟨rfl, ?_⟩, ?_⟩; (focus (first | rfl | (simp; done) | (rw [toksC_length]; omega)))) | refine ⟨rfl, ?_⟩ | (refine And.intro ?_ ?_; (focus (simp [pureL, pureV, pureL_bys, pureL_toks, pureL_app]; done)))); conv => whnf)
  refine ⟨_, _, hb.arg1 rfl (by kernel_rfl), by first | rfl | simp [noRoIf, noRoL, noRoV, noRoL_bys], ?_⟩
  conv => whnf
  repeat ((refine ⟨⟨rfl, rfl, rfl, ?_, pureL_bys _⟩, ?_⟩; (focus (simp; done))); conv => whnf)
  rfl
end
section
--KR
attribute [local irreducible] ifB fitP Does Weaker
end
section
--KR
attribute [local irreducible] ifB fitP Does Weaker demsP
def MF2 : FuncId → List Mode := orElse [(999999, [.bw, .bw, .bw])] MF
end
section
--KR
attribute [local irreducible] ifB fitP Does Weaker
def heavyE (e : Ent) : Bool := decide (100 < e.key.length) || decide (300 < e.val.length)
def heavyEs (l : List Ent) : Bool := decide (300 < l.length) || l.any heavyE
theorem heavyEs_no {l : List Ent} (h : heavyEs l = false) : l.length ≤ 300 ∧ ∀ e ∈ l, e.key.length ≤ 100 ∧ e.val.length ≤ 300 := by
 unfold heavyEs at h
 simp only [Bool.or_eq_false_iff, decide_eq_false_iff_not, Nat.not_lt, List.any_eq_false, heavyE, Bool.or_eq_true, decide_eq_true_eq, not_or] at h
 exact ⟨h.1, fun e he => by have := h.2 e he; omega⟩
theorem ent_key {l : List Ent} {j m : Nat} (h : j < l.length) (hm : m = 133 * j) : (List.drop 1 (List.drop 66 (List.drop m (rowsC entC l))))[0]? = some (.str l[j].key) := by
 rw [rowsC_at entC_length h hm]; rfl
theorem ent_val {l : List Ent} {j m : Nat} (h : j < l.length) (hm : m = 133 * j) : (List.drop 2 (List.drop 66 (List.drop m (rowsC entC l))))[0]? = some (.ro l[j].val.length (bys l[j].val)) := by
 rw [rowsC_at entC_length h hm]; rfl
set_option maxHeartbeats 1000000 in
theorem heavy11_ok (l : List Ent) : ACall Tryz.prog 10 [.ro l.length (rowsC entC l)] (.bool (heavyEs l)) [] := by
 refine ACall.of_does TTok Tryz.func10 rfl Tryz.call10 rfl (wpc_sound (M := MK) (PL := PL0) (CU := noCut) TTok mixed _ _ _ ?_)
 conv => whnf
 refine ifB_dec (fun c0 => ?_) (fun c0 => ?_)
 ·have : heavyEs l = true := by unfold heavyEs; rw [dt (show 300 < l.length by omega)]; rfl
  rw [this]
  conv => whnf
  repeat ((refine ⟨rfl, ?_⟩); conv => whnf)
  rfl
 have e0 : heavyEs l = l.any heavyE := by unfold heavyEs; rw [df (show ¬ 300 < l.length by omega)]; rfl
 conv => whnf
 refine Does.loop (fun c : Nat => mkSt [(0, .ro l.length (rowsC entC l)), (3, .int .i64 c)] [] 0 31)
  (fun c => c ≤ l.length ∧ (l.drop c).any heavyE = l.any heavyE) (fun c => l.length - c) ?_ 0 ⟨Nat.zero_le _, by rw [List.drop_zero]⟩ ?_
 ·rintro c ⟨hc, hx⟩
  rcases Nat.lt_or_ge c l.length with c1 | c1
  ·have gk : ∀ m, m = 133 * c → (List.drop 1 (List.drop 66 (List.drop m (rowsC entC l))))[0]? = some (.str l[c].key) := fun m hm => ent_key c1 hm
   have gv : ∀ m, m = 133 * c → (List.drop 2 (List.drop 66 (List.drop m (rowsC entC l))))[0]? = some (.ro l[c].val.length (bys l[c].val)) := fun m hm => ent_val c1 hm
   rw [List.drop_eq_getElem_cons c1, List.any_cons] at hx
   generalize l[c] = q at gk gv hx
   refine wpc_sound (M := MK) (PL := PL0) (CU := noCut) TTok mixed _ _ _ ?_
   by_cases k1 : 100 < q.key.length
   ·rw [show heavyE q = true by unfold heavyE; rw [dt k1]; rfl, Bool.true_or] at hx
    rw [e0, ← hx]
    conv => whnf
    repeat ((first | (refine ifB_pos (decide_eq_true (by first | omega | rfl | (dsimp only; omega))) ?_) | (refine ⟨⟨?_, ?_, ?_⟩, ?_⟩; (focus omega); (focus (first | omega | (simp; done) | (simp; omega))); (focus (first | (rw [prfs_len]; simp; omega) | (rw [ents_len]; simp; omega) | (rw [hds_len]; simp; omega) | (rw [lets_len]; simp; omega))))); conv => whnf)
    conv => whnf
    repeat' (first | (refine ifB_t ?_; (conv => whnf)) | (refine ifB_pos (decide_eq_true (by first | omega | rfl | (dsimp only; omega))) ?_; (conv => whnf)) | (refine ⟨rfl, ?_⟩; (conv => whnf)) | (refine ⟨_, gk _ (by simp; omega), ?_⟩; conv => whnf) | (refine ⟨_, gv _ (by simp; omega), ?_⟩; conv => whnf) | (rfl) | (refine ⟨_, rfl, ?_⟩; conv => whnf) | (refine And.intro ?_ ?_ <;> conv => whnf))
   ·by_cases k2 : 300 < q.val.length
    ·rw [show heavyE q = true by unfold heavyE; rw [dt k2, Bool.or_true], Bool.true_or] at hx
     rw [e0, ← hx]
     conv => whnf
     repeat ((first | (refine ifB_pos (decide_eq_true (by first | omega | rfl | (dsimp only; omega))) ?_) | (refine ⟨⟨?_, ?_, ?_⟩, ?_⟩; (focus omega); (focus (first | omega | (simp; done) | (simp; omega))); (focus (first | (rw [prfs_len]; simp; omega) | (rw [ents_len]; simp; omega) | (rw [hds_len]; simp; omega) | (rw [lets_len]; simp; omega))))); conv => whnf)
     conv => whnf
     repeat' (first | (refine ifB_f ?_; (conv => whnf)) | (refine ifB_neg (decide_eq_false (by first | omega | rfl | (dsimp only; omega))) ?_; (conv => whnf)) | (refine ifB_pos (decide_eq_true (by first | omega | rfl | (dsimp only; omega))) ?_; (conv => whnf)) | (refine ⟨rfl, ?_⟩; (conv => whnf)) | (refine ⟨⟨?_, ?_, ?_⟩, ?_⟩; (focus omega); (focus (first | omega | (simp; done) | (simp; omega))); (focus (first | (rw [prfs_len]; simp; omega) | (rw [ents_len]; simp; omega) | (rw [hds_len]; simp; omega) | (rw [lets_len]; simp; omega))); (conv => whnf)) | (refine ⟨_, gk _ (by simp; omega), ?_⟩; conv => whnf) | (refine ⟨_, gv _ (by simp; omega), ?_⟩; conv => whnf) | (rfl) | (refine ⟨_, rfl, ?_⟩; conv => whnf) | (refine And.intro ?_ ?_ <;> conv => whnf))
    ·rw [show heavyE q = false by unfold heavyE; rw [df k1, df k2]; rfl, Bool.false_or] at hx
     conv => whnf
     repeat ((first | (refine ifB_pos (decide_eq_true (by first | omega | rfl | (dsimp only; omega))) ?_) | (refine ⟨⟨?_, ?_, ?_⟩, ?_⟩; (focus omega); (focus (first | omega | (simp; done) | (simp; omega))); (focus (first | (rw [prfs_len]; simp; omega) | (rw [ents_len]; simp; omega) | (rw [hds_len]; simp; omega) | (rw [lets_len]; simp; omega))))); conv => whnf)
     conv => whnf
     repeat' (first | (refine ifB_f ?_; (conv => whnf)) | (refine ifB_neg (decide_eq_false (by first | omega | rfl | (dsimp only; omega))) ?_; (conv => whnf)) | (refine fit_i64 ⟨by first | omega | rfl | (dsimp only; omega), by first | omega | rfl | (dsimp only; omega)⟩ ?_; (conv => whnf)) | (refine ⟨⟨?_, ?_, ?_⟩, ?_⟩; (focus omega); (focus (first | omega | (simp; done) | (simp; omega))); (focus (first | (rw [prfs_len]; simp; omega) | (rw [ents_len]; simp; omega) | (rw [hds_len]; simp; omega) | (rw [lets_len]; simp; omega))); (conv => whnf)) | (refine ⟨_, gk _ (by simp; omega), ?_⟩; conv => whnf) | (refine ⟨_, gv _ (by simp; omega), ?_⟩; conv => whnf) | (exact ⟨c + 1, ⟨by omega, hx⟩, by omega, weaker_of [] rfl rfl ⟨⟨rfl, rfl, ents_pure _⟩, ⟨rfl, rfl⟩, trivial⟩ trivial⟩) | (refine ⟨_, rfl, ?_⟩; conv => whnf) | (refine And.intro ?_ ?_ <;> conv => whnf))
  ·obtain rfl : c = l.length := by omega
   rw [List.drop_length] at hx
   rw [e0, ← hx]
   refine wpc_sound (M := MK) (PL := PL0) (CU := noCut) TTok mixed _ _ _ ?_
   conv => whnf
   repeat ((first | (refine ifB_neg (decide_eq_false (by first | omega | rfl | (dsimp only; omega))) ?_) | refine ⟨rfl, ?_⟩); conv => whnf)
   rfl
 ·exact weaker_of [] rfl rfl ⟨⟨rfl, rfl, ents_pure _⟩, ⟨rfl, rfl⟩, trivial⟩ trivial
end
section
--KR
attribute [local irreducible] ifB fitP Does Weaker
def MRow : FuncId → List Mode := orElse [(41, [.bw, .bw]), (10, [.bw]), (39, []), (16, []), (51, [.rd, .rd, .rd]), (61, [.rd, .rd]), (35, [.rd]), (58, [.rd]), (12, [.rd, .rd]), (52, [.rd, .rd]), (47, [.rd]), (999999, [.bw]), (13, [.rd, .rd]), (14, [.rd, .rd]), (11, [.rd]), (29, [.rd]), (17, [.rd, .rd])] MF2
theorem entV_les {o : Nat → Option Nat} {e : Ent} (h : e.val = []) : lesP o (entC e) (entV e .nil) := by
 unfold entC entV
 rw [h]
 exact c32_les ⟨⟨rfl, rfl⟩, c32_les ⟨⟨rfl, rfl⟩, ⟨rfl, rfl⟩, rfl, ⟨rfl, rfl⟩, c64_les trivial⟩⟩
set_option maxRecDepth 20000 in
set_option maxHeartbeats 2000000 in
theorem wakes11_of (w : Ent) (b : List Int) (hl : b.length = 143) (h1 : ACall Tryz.prog 51 [.int .i64 2, .agg (c32 wkS []), .agg (entV wkE .nil)] (.tuple [.agg (entC w), .int .i64 0]) [])
  (h2 : ACall Tryz.prog 36 [.agg (entC w)] (.tuple [.ro b.length (bys b), .int .i64 0]) []) (h3 : ACall Tryz.prog 40 [.ro b.length (bys b)] (.tuple [.agg (entC w), .int .i64 0]) [])
  (h4 : ACall Tryz.prog 13 [.agg (entC w), .agg (entC w)] (.bool true) []) (h5 : ACall Tryz.prog 61 [.int .i64 2, .agg (entC w)] (.bool true) []) : ACall Tryz.prog 39 [] (.bool true) [] := by
 refine ACall.of_does TTok Tryz.func39 rfl Tryz.call39 rfl (wpc_sound (M := MRow) (PL := PL0) (CU := cutAt [100002, 100004]) TTok mixed _ _ _ ?_)
 conv => whnf
 repeat ((first | refine ⟨rfl, ?_⟩ | refine ⟨⟨rfl, rfl⟩, ?_⟩); conv => whnf)
 refine ⟨_, _, h1, by first | rfl | simp [noRoIf, noRoL, noRoV, noRoL_bys], ?_⟩
 conv => whnf
 repeat ((first | refine ⟨(⟨by kernel_rfl, by kernel_rfl, Nat.le_of_ble_eq_true (by kernel_rfl)⟩ : AV.ones _ = true ∧ _ ∧ _), ?_⟩ | refine ⟨rfl, ?_⟩); conv => whnf)
 refine Does.freeze 0 rfl (Does.tidy [(1, .rop (entC w)), (2, .int .i64 0)] [] 1 48 rfl rfl rfl (by kernel_rfl) (by kernel_rfl) ?_)
 refine wpc_sound (M := MRow) (PL := PL0) (CU := cutAt [100004]) TTok mixed _ _ _ ?_
 conv => whnf
 repeat ((first | refine ⟨entC_pure _, ?_⟩ | refine ⟨rfl, ?_⟩ | refine ⟨_, rfl, ?_⟩); conv => whnf)
 refine ⟨_, _, h2, by first | rfl | simp [noRoIf, noRoL, noRoV, noRoL_bys], ?_⟩
 conv => whnf
 repeat ((first | refine ⟨pureL_bys _, ?_⟩ | refine ⟨rfl, ?_⟩); conv => whnf)
 refine ⟨_, _, h3, by first | rfl | simp [noRoIf, noRoL, noRoV, noRoL_bys], ?_⟩
 conv => whnf
 repeat ((first | refine ⟨(⟨by kernel_rfl, by kernel_rfl, Nat.le_of_ble_eq_true (by kernel_rfl)⟩ : AV.ones _ = true ∧ _ ∧ _), ?_⟩ | refine ⟨rfl, ?_⟩); conv => whnf)
 refine Does.freeze 1 rfl (Does.tidy [(1, .rop (entC w)), (2, .int .i64 0), (3, .ro b.length (bys b)), (4, .int .i64 0), (5, .rop (entC w)), (6, .int .i64 0)] [] 2 48 rfl rfl rfl (by kernel_rfl) (by kernel_rfl) ?_)
 refine wpc_sound (M := MRow) (PL := PL0) (CU := noCut) TTok mixed _ _ _ ?_
 conv => whnf
 repeat ((first | refine ifB_t ?_ | (refine ifB_pos (decide_eq_true (by first | omega | rfl | (dsimp only; omega))) ?_) | refine ⟨entC_pure _, ?_⟩ | refine ⟨rfl, ?_⟩ | refine ⟨_, rfl, ?_⟩); conv => whnf)
 rw [dt (show (b.length : Int) = 143 by omega)]
 conv => whnf
 refine ⟨_, _, h4, by first | rfl | simp [noRoIf, noRoL, noRoV, noRoL_bys], ?_⟩
 conv => whnf
 repeat ((first | refine ifB_t ?_ | refine ⟨entC_pure _, ?_⟩ | refine ⟨rfl, ?_⟩ | refine ⟨_, rfl, ?_⟩); conv => whnf)
 refine ⟨_, _, h5, by first | rfl | simp [noRoIf, noRoL, noRoV, noRoL_bys], ?_⟩
 conv => whnf
 repeat ((first | refine ifB_t ?_ | refine ⟨rfl, ?_⟩); conv => whnf)
 rfl
theorem wake_sign {s : List Int} {e : Ent} (hv : e.val = []) {r : AV} (h : ACall Tryz.prog 51 [.int .i64 2, .agg (c32 s []), .agg (entC e)] r []) : ACall Tryz.prog 51 [.int .i64 2, .agg (c32 s []), .agg (entV e .nil)] r [] :=
 h.les (by simp [pureL, pureV, c32_pure, entV, c64_pure]) (by simp [pureL, pureV, c32_pure, entC_pure]) ⟨⟨rfl, rfl⟩, c32_les trivial, entV_les hv, trivial⟩
theorem wakes11_ok : ACall Tryz.prog 39 [] (.bool true) [] := by
 have h1 := wake_sign rfl (esign_ok wkS wkE wkS_byt rfl wkE_S wkE_R)
 have hS := signE_S wkS wkE_S
 have hL := wkE_len
 have hv : verE (signE wkS wkE) = true := (signE_ver wkS wkE).trans wkE_R
 generalize signE wkS wkE = w at h1 hS hL hv
 have h2 := (ebytes_ok _ hS).roRes2 (.inl ⟨_, _, rfl⟩)
 have hb := entB_byt hS
 have h3 := eread_ok _ hb.1 (by omega)
 rw [rdEnt_bytes hS hL.2] at h3
 have h4 := kent_ok _ _ hS hS
 rw [dt rfl] at h4
 have h5 := everify_ok _ hS
 rw [hv] at h5
 rw [hL.2] at h2
 exact wakes11_of w _ hL.1 h1 h2 h3 h4 h5
end
section
--KR
attribute [local irreducible] ifB fitP Does Weaker
theorem cmp_neg (x y : List Int) : decide (cmpI x y < 0) = bytesLt x y := by
 unfold cmpI
 cases h : bytesLt x y
 ·simp; split <;> omega
 ·simp
theorem prfR_eq {p : Prf} (hp : PrfS p) : prfR p = (entR p.a && entR p.b && decide (p.a.au = p.b.au) && decide (p.a.seq = p.b.seq) && bytesLt (encR validR (entTs p.a)).1 (encR validR (entTs p.b)).1) := by
 unfold prfR ordR
 rw [← entB_err hp.a, ← entB_err hp.b]
 by_cases c1 : (entB p.a).2 = 0
 ·by_cases c2 : (entB p.b).2 = 0
  ·rw [if_neg (by omega), if_neg (by omega), dt c1, dt c2]
   have x1 : (encR validR (entTs p.a)).1 = (entB p.a).1 := by rw [(entB_right c1).2]
   have x2 : (encR validR (entTs p.b)).1 = (entB p.b).1 := by rw [(entB_right c2).2]
   rw [x1, x2]
   by_cases c3 : p.a.au = p.b.au
   ·by_cases c4 : p.a.seq = p.b.seq
    ·rw [if_neg (fun h => h c3), if_neg (fun h => h c4), dt c3, dt c4, cmp_neg]; rfl
    ·rw [if_neg (fun h => h c3), if_pos c4, dt c3, df c4]; rfl
   ·rw [if_pos c3, df c3]; rfl
  ·rw [if_neg (by omega), if_pos c2, dt c1, df c2]; rfl
 ·rw [if_pos c1, df c1]; rfl
theorem enc_byt {e : Ent} (he : EntS e) : Byt (encR validR (entTs e)).1 := encR_byt _ (entTs_ok e he).1
end
section
--KR
attribute [local irreducible] ifB fitP Does Weaker
end
section
--KR
attribute [local irreducible] ifB fitP Does Weaker demsP
end
section

theorem entB_inj {m k : Ent} (hm : EntS m) (hk : EntS k) (h1 : (entB m).2 = 0) (h2 : (entB k).2 = 0) : decide ((entB m).1 = (entB k).1) = decide (m = k) := by
 have a := rdEnt_bytes hm h1
 have b := rdEnt_bytes hk h2
 by_cases c : m = k
 ·rw [c]; simp
 ·rw [decide_eq_false c, decide_eq_false]
  intro e
  rw [e, b] at a
  exact c (by injection a with a _; exact a.symm)
end
section

theorem arr32_of_ty {n : Nat} {y : List AV} (h : TyL TT (n + 2) 22 y) : ∃ l : List Int, y = bys l ∧ Byt l ∧ l.length = 32 := by
 obtain ⟨es, rfl, hl, he⟩ := h
 obtain ⟨l, h1, h2, h3⟩ := bytes_of_ty ⟨_, show TT 5 = some _ from rfl, rfl⟩ es he
 exact ⟨l, h1, h3, by rw [h2, hl]⟩
theorem arr64_of_ty {n : Nat} {y : List AV} (h : TyL TT (n + 2) 26 y) : ∃ l : List Int, y = bys l ∧ Byt l ∧ l.length = 64 := by
 obtain ⟨es, rfl, hl, he⟩ := h
 obtain ⟨l, h1, h2, h3⟩ := bytes_of_ty ⟨_, show TT 5 = some _ from rfl, rfl⟩ es he
 exact ⟨l, h1, h3, by rw [h2, hl]⟩
theorem ent_of_ty {n : Nat} {y : List AV} (h : TyL TT (n + 4) 28 y) : ∃ e : Ent, y = entC e ∧ EntOk e := by
 obtain ⟨ys, rfl, a, r, rfl, ha, b, r', rfl, ⟨sq, rfl, s1, s2⟩, c, r2, rfl, hc, d, r3, rfl, ⟨st, rfl, t1, t2⟩, o, r4, rfl, ⟨os, rfl, o1, q1, rfl, ⟨kd, rfl, k1, k2⟩, o2, q2, rfl, ⟨ky, rfl, y1, y2⟩, o3, q3, rfl, hv, rfl⟩, g, r5, rfl, hg, rfl⟩ := h
 obtain ⟨au, rfl, u1, u2⟩ := arr32_of_ty ha
 obtain ⟨pv, rfl, v1, v2⟩ := arr32_of_ty hc
 obtain ⟨sg, rfl, g1, g2⟩ := arr64_of_ty hg
 obtain ⟨vl, rfl, w1, w2⟩ := bytes_of_slice hv
 simp only [IntKind.lo, IntKind.hi] at s1 s2 t1 t2 k1 k2
 refine ⟨⟨au, sq, pv, st, kd, ky, vl, sg⟩, ?_, { au := ⟨u1, u2⟩, seq := ⟨s1, by dsimp only; omega⟩, prev := ⟨v1, v2⟩, stamp := ⟨t1, by dsimp only; omega⟩, kind := ⟨k1, by dsimp only; omega⟩, key := ⟨y1, y2⟩, val := ⟨w1, w2⟩, sig := ⟨g1, g2⟩ }⟩
 unfold entC
 rw [c32_eq u2, c32_eq v2, c64_eq g2]
 simp
end
section

theorem entS_of1 {e : Ent} (h : EntOk e) (hv : heavyEs [e] = false) : EntS e := by
 have := (heavyEs_no hv).2 e (by simp)
 exact { h with key' := by omega, val' := by omega }
theorem entS_of2 {a b : Ent} (ha : EntOk a) (hb : EntOk b) (hv : heavyEs [a, b] = false) : EntS a ∧ EntS b := by
 have h1 := (heavyEs_no hv).2 a (by simp)
 have h2 := (heavyEs_no hv).2 b (by simp)
 exact ⟨{ ha with key' := by omega, val' := by omega }, { hb with key' := by omega, val' := by omega }⟩
theorem entB_no {e : Ent} (h : entR e = false) : entB e = ([], 1) := by unfold entB; rw [h]; rfl
theorem entBody_no {e : Ent} (h : entR e = false) : entBody e = ([], 1) := by unfold entBody; rw [h]; rfl
theorem entB_ok0 {e : Ent} (he : EntS e) (h : entR e = true) : (entB e).2 = 0 := by rw [entB_yes' he h]
end
section
--KR
attribute [local irreducible] ifB fitP Does Weaker
end
section
--KR
attribute [local irreducible] ifB fitP Does Weaker
theorem c32_one_dems {H : Heap} {x : List Int} {zs : List AV} {K : List Nat → Prop} (hz : zs = c32 x []) (h : K []) : demsP H [.agg (c32 x [])] [.agg zs] K := by
 subst hz
 simp only [demsP, demP]
 refine c32_dems ?_
 simpa only [demsP, and_self, true_and, List.nil_append] using h
def MRd : FuncId → List Mode := orElse [(44, [.rd]), (43, [.rd]), (76, [.rd]), (42, [.rd])] MRow
def PLrb : Nat → Bool × Plan := plans [(1, (false, (takesTo [2] (.all [(0, (.all [(1, (.all [(3, (.all [(4, (.all [(5, (takes [6, 7, 8, 9, 10]))]))]))])), (3, (.all [(1, (.all [(4, (.all [(5, (takes [6, 7, 8, 9, 10]))]))]))]))]))]))))]
def PLee : Nat → Bool × Plan := plans [(13, (false, (takesTo [0, 1, 2, 3, 4, 5, 6, 7, 8, 9, 10, 11, 12, 13, 14, 15, 16] (.all [(17, (.all [(18, (takesTo [19, 20, 21, 22] (.all [(23, (.all [(24, (takesTo [25, 26, 27, 28] (.all [(29, (takesTo [30, 31, 32, 33, 34] (.all [(35, (takesTo [36, 37] (.all [(38, (takes [39, 40]))])))])))])))]))])))]))]))))]
set_option maxRecDepth 20000 in
set_option maxHeartbeats 1000000 in
theorem refbody_ok (e : Ent) (he : EntS e) : ACall Tryz.prog 43 [.agg (entC e)] (.own (encR validR (entT 6 e)).1.length 1 (bys (encR validR (entT 6 e)).1)) [] := by
 have ht := entTs_ok e he
 have hk : ∀ t ∈ entT 6 e, TokOk t ∧ t.b.length ≤ 1000000000 := fun t h => by
  rcases List.mem_cons.1 h with rfl | h
  ·exact ⟨⟨by simp, by simp, fun x hx => absurd hx (List.not_mem_nil)⟩, by simp⟩
  ·have h' : t ∈ entTs e := List.mem_append_left _ (List.mem_cons_of_mem _ h)
   exact ⟨ht.1 t h', ht.2 t h'⟩
 have hb := refEncode_ok (entT 6 e) (fun t h => (hk t h).1) (fun t h => by have := (hk t h).2; omega)
 generalize encR validR (entT 6 e) = o at hb ⊢
 obtain ⟨o, er⟩ := o
 dsimp only at hb ⊢
 refine ACall.of_does TTok Tryz.func43 rfl Tryz.call43 rfl (wpc_sound (M := MF) (PL := PLrb) (CU := cutAt [100001]) TTok mixed _ _ _ ?_)
 conv => whnf
 repeat ((refine ⟨rfl, ?_⟩); conv => whnf)
 refine Does.freeze 0 rfl (Does.tidy [(1, .rop (entC e))] [] 1 15 rfl rfl rfl (by kernel_rfl) (by kernel_rfl) ?_)
 refine wpc_sound (M := MF) (PL := PLrb) (CU := noCut) TTok mixed _ _ _ ?_
 conv => whnf
 refine ⟨by kernel_rfl, ?_⟩
 conv => whnf
 repeat ((first | refine ⟨rfl, ?_⟩ | refine ⟨_, rfl, ?_⟩); conv => whnf)
 refine ⟨_, _, refarray_ok 6, by first | rfl | simp [noRoIf, noRoL, noRoV, noRoL_bys], ?_⟩
 conv => whnf
 refine ⟨?_, ?_⟩
 ·conv => whnf
  repeat ((first | refine ⟨entC_pure _, ?_⟩ | refine ⟨rfl, ?_⟩ | refine ⟨⟨rfl, rfl⟩, ?_⟩); conv => whnf)
  conv => whnf
  refine ⟨_, _, six_ok e he, by first | rfl | simp [noRoIf, noRoL, noRoV, noRoL_bys], ?_⟩
  conv => whnf
  conv => whnf
  refine Or.inl ⟨⟨rfl, rfl, by rw [toksC_length]; rfl⟩, ?_⟩
  conv => whnf
  repeat ((first | (refine Or.inl ⟨⟨rfl, ?_⟩, ?_⟩; (focus (first | rfl | (simp; done) | (rw [toksC_length]; omega)))) | refine ⟨rfl, ?_⟩ | (refine ⟨⟨rfl, ?_, ?_, ?_⟩, ?_⟩; (focus (first | (simp; done) | (simp; omega))); (focus (first | exact Or.inl rfl | exact Or.inr (by omega))); (focus (first | (simp [limB, lenB, offB]; done) | (simp [limB, lenB, offB]; omega)))) | (refine And.intro ?_ ?_; (focus (simp [pureL, pureV, pureL_bys, pureL_toks, pureL_app]; done)))); conv => whnf)
  refine ⟨_, _, hb.arg1 rfl (by kernel_rfl), by first | rfl | simp [noRoIf, noRoL, noRoV, noRoL_bys], ?_⟩
  conv => whnf
  repeat ((refine ⟨⟨rfl, rfl, rfl, ?_, pureL_bys _⟩, ?_⟩; (focus (simp; done))); conv => whnf)
  rfl
 ·conv => whnf
  repeat ((first | refine ⟨entC_pure _, ?_⟩ | refine ⟨rfl, ?_⟩); conv => whnf)
  refine ⟨_, _, six_ok e he, by first | rfl | simp [noRoIf, noRoL, noRoV, noRoL_bys], ?_⟩
  conv => whnf
  repeat ((refine ⟨⟨rfl, rfl⟩, ?_⟩); conv => whnf)
  conv => whnf
  conv => whnf
  refine Or.inl ⟨⟨rfl, rfl, by rw [toksC_length]; rfl⟩, ?_⟩
  conv => whnf
  repeat ((first | (refine Or.inl ⟨⟨rfl, ?_⟩, ?_⟩; (focus (first | rfl | (simp; done) | (rw [toksC_length]; omega)))) | refine ⟨rfl, ?_⟩ | (refine ⟨⟨rfl, ?_, ?_, ?_⟩, ?_⟩; (focus (first | (simp; done) | (simp; omega))); (focus (first | exact Or.inl rfl | exact Or.inr (by omega))); (focus (first | (simp [limB, lenB, offB]; done) | (simp [limB, lenB, offB]; omega)))) | (refine And.intro ?_ ?_; (focus (simp [pureL, pureV, pureL_bys, pureL_toks, pureL_app]; done)))); conv => whnf)
  refine ⟨_, _, hb.arg1 rfl (by kernel_rfl), by first | rfl | simp [noRoIf, noRoL, noRoV, noRoL_bys], ?_⟩
  conv => whnf
  repeat ((refine ⟨⟨rfl, rfl, rfl, ?_, pureL_bys _⟩, ?_⟩; (focus (simp; done))); conv => whnf)
  rfl
section
attribute [local irreducible] demsP
set_option maxRecDepth 20000 in
set_option maxHeartbeats 1000000 in
theorem refid_ok (e : Ent) (he : EntS e) (hr : entR e = true) : ACall Tryz.prog 44 [.agg (entC e)] (.agg (c32 (shaL (entB e).1) [])) [] := by
 have hb := (refebytes_ok e he).roRes
 have hB := entB_yes' he hr
 have y1 := entB_byt he
 have hq : entB e = encR validR (entTs e) := by unfold entB; rw [hr]; rfl
 rw [← hq] at hb
 have hs := rsha_ok (entB e).1 y1.1 (by omega)
 have ls := shaL_len (entB e).1
 clear hB y1 hq
 generalize (entB e).1 = x at hb hs ls ⊢
 generalize shaL x = i at hs ls ⊢
 refine ACall.of_does TTok Tryz.func44 rfl Tryz.call44 rfl (wpc_sound (M := MRd) (PL := PL0) (CU := cutAt [100001, 99999]) TTok mixed _ _ _ ?_)
 conv => whnf
 repeat ((refine ⟨rfl, ?_⟩); conv => whnf)
 refine Does.freeze 0 rfl (Does.tidy [(1, .rop (entC e)), (2, .ptr 1 0)] [(1, c32 z32 [])] 2 6 rfl rfl rfl (by kernel_rfl) (by kernel_rfl) ?_)
 refine wpc_sound (M := MRd) (PL := PL0) (CU := noCut) TTok mixed _ _ _ ?_
 conv => whnf
 repeat ((first | refine ⟨entC_pure _, ?_⟩ | refine ⟨rfl, ?_⟩ | refine ⟨_, rfl, ?_⟩); conv => whnf)
 refine ⟨_, _, hb, by first | rfl | simp [noRoIf, noRoL, noRoV, noRoL_bys], ?_⟩
 conv => whnf
 repeat ((first | refine ⟨pureL_bys _, ?_⟩ | refine ⟨rfl, ?_⟩); conv => whnf)
 refine ⟨_, _, hs, by first | rfl | simp [noRoIf, noRoL, noRoV, noRoL_bys], ?_⟩
 conv => whnf
 repeat ((refine ⟨(⟨by kernel_rfl, by kernel_rfl, Nat.le_of_ble_eq_true (by kernel_rfl)⟩ : AV.ones _ = true ∧ _ ∧ _), ?_⟩); conv => whnf)
 refine Does.tidy [(2, .ptr 1 0)] [(1, c32 i [])] 2 6 rfl rfl rfl (by kernel_rfl) (by kernel_rfl) ?_
 refine wpc_sound (M := MRd) (PL := PL0) (CU := noCut) TTok mixed _ _ _ ?_
 conv => whnf
 refine ⟨c32 i [], by kernel_rfl, ?_⟩
 conv => whnf
 exact c32_one_dems rfl rfl
end
set_option maxRecDepth 20000 in
set_option maxHeartbeats 1000000 in
theorem entryExact_ok (e : Ent) (oe : EntOk e) : ACall Tryz.prog 9 [.agg (entC e)] (.bool true) [] := by
 have v1 := heavy11_ok [e]
 refine ACall.of_does TTok Tryz.func9 rfl Tryz.call9 rfl (wpc_sound (M := MRd) (PL := PLee) (CU := cutAt [100001, 100004, 100008, 100013]) TTok mixed _ _ _ ?_)
 conv => whnf
 repeat ((refine ⟨rfl, ?_⟩); conv => whnf)
 refine Does.freeze 0 rfl (Does.tidy [(1, .rop (entC e))] [] 1 124 rfl rfl rfl (by kernel_rfl) (by kernel_rfl) ?_)
 refine wpc_sound (M := MRd) (PL := PLee) (CU := noCut) TTok mixed _ _ _ ?_
 conv => whnf
 repeat ((first | refine ⟨entC_pure _, ?_⟩ | (refine Or.inl ⟨⟨rfl, ?_⟩, ?_⟩; (focus (first | rfl | (simp; done) | (rw [toksC_length]; omega)))) | refine ⟨rfl, ?_⟩ | refine ⟨_, rfl, ?_⟩ | refine ⟨⟨rfl, rfl⟩, ?_⟩); conv => whnf)
 cases hv : heavyEs [e] <;> rw [hv] at v1
 case true =>
  refine ⟨_, _, v1.arg1 rfl (by simp [rowsC]; rfl), by first | rfl | simp [noRoIf, noRoL, noRoV, noRoL_bys], ?_⟩
  conv => whnf
  repeat ((first | refine ifB_t ?_ | refine ⟨rfl, ?_⟩); conv => whnf)
  rfl
 refine ⟨_, _, v1.arg1 rfl (by simp [rowsC]; rfl), by first | rfl | simp [noRoIf, noRoL, noRoV, noRoL_bys], ?_⟩
 conv => whnf
 repeat ((first | refine ifB_f ?_ | refine ⟨entC_pure _, ?_⟩ | refine ⟨rfl, ?_⟩ | refine ⟨_, rfl, ?_⟩); conv => whnf)
 have he := entS_of1 oe hv
 have rm := refentry_ok e he
 have tw := ktwin_ok e he
 have kk := kent_ok e e he he
 rw [dt rfl] at kk
 have e1 := (ebytes_ok e he).roRes2 (.inl ⟨_, _, rfl⟩)
 have e2 := (ebody_ok e he).roRes2 (.inl ⟨_, _, rfl⟩)
 have e3 := eid_ok e he
 have e4 := check_entry_ok e he
 refine ⟨_, _, tw, by first | rfl | simp [noRoIf, noRoL, noRoV, noRoL_bys], ?_⟩
 conv => whnf
 repeat ((first | refine ⟨(⟨by kernel_rfl, by kernel_rfl, Nat.le_of_ble_eq_true (by kernel_rfl)⟩ : AV.ones _ = true ∧ _ ∧ _), ?_⟩ | refine ⟨rfl, ?_⟩); conv => whnf)
 refine Does.tidy [(1, .rop (entC e)), (3, .ptr 2 0)] [(1, entC e), (2, entC e)] 3 124 rfl rfl rfl (by kernel_rfl) (by kernel_rfl) ?_
 refine Does.freeze 2 rfl (Does.tidy [(1, .rop (entC e)), (3, .rop (entC e))] [(1, entC e)] 3 124 rfl rfl rfl (by kernel_rfl) (by kernel_rfl) ?_)
 refine wpc_sound (M := MRd) (PL := PLee) (CU := noCut) TTok mixed _ _ _ ?_
 conv => whnf
 repeat ((first | refine ⟨entC_pure _, ?_⟩ | refine ⟨rfl, ?_⟩ | refine ⟨_, rfl, ?_⟩); conv => whnf)
 cases hr : entR e <;> rw [hr] at rm e4
 ·rw [entB_no hr] at e1
  rw [entBody_no hr] at e2
  rw [show idE e = (z32, 1) by unfold idE; rw [hr]; rfl] at e3
  refine ⟨_, _, rm, by first | rfl | simp [noRoIf, noRoL, noRoV, noRoL_bys], ?_⟩
  conv => whnf
  repeat ((first | refine ⟨entC_pure _, ?_⟩ | refine ⟨rfl, ?_⟩ | refine ⟨_, rfl, ?_⟩); conv => whnf)
  refine ⟨_, _, e1, by first | rfl | simp [noRoIf, noRoL, noRoV, noRoL_bys], ?_⟩
  conv => whnf
  repeat ((first | refine ⟨entC_pure _, ?_⟩ | refine ⟨rfl, ?_⟩ | refine ⟨_, rfl, ?_⟩); conv => whnf)
  refine ⟨_, _, e2, by first | rfl | simp [noRoIf, noRoL, noRoV, noRoL_bys], ?_⟩
  conv => whnf
  repeat ((first | refine ⟨entC_pure _, ?_⟩ | refine ⟨rfl, ?_⟩ | refine ⟨_, rfl, ?_⟩); conv => whnf)
  refine ⟨_, _, e3, by first | rfl | simp [noRoIf, noRoL, noRoV, noRoL_bys], ?_⟩
  conv => whnf
  repeat ((first | refine ⟨(⟨by kernel_rfl, by kernel_rfl, Nat.le_of_ble_eq_true (by kernel_rfl)⟩ : AV.ones _ = true ∧ _ ∧ _), ?_⟩ | refine ⟨rfl, ?_⟩); conv => whnf)
  refine Does.tidy [(1, .rop (entC e)), (3, .rop (entC e)), (4, .bool false), (5, .ro 0 []), (6, .int .i64 1), (7, .ro 0 []), (8, .int .i64 1), (9, .ptr 3 0), (10, .int .i64 1)] [(1, entC e), (3, c32 z32 [])] 4 124 rfl rfl rfl (by kernel_rfl) (by kernel_rfl) ?_
  refine wpc_sound (M := MRd) (PL := PLee) (CU := noCut) TTok mixed _ _ _ ?_
  conv => whnf
  repeat ((first | refine ⟨entC_pure _, ?_⟩ | refine ⟨rfl, ?_⟩ | refine ⟨_, rfl, ?_⟩); conv => whnf)
  refine ⟨_, _, e4, by first | rfl | simp [noRoIf, noRoL, noRoV, noRoL_bys], ?_⟩
  conv => whnf
  repeat ((first | refine ifB_f ?_ | refine ⟨entC_pure _, ?_⟩ | refine ⟨rfl, ?_⟩ | refine ⟨_, rfl, ?_⟩); conv => whnf)
  refine ⟨_, _, kk, by first | rfl | simp [noRoIf, noRoL, noRoV, noRoL_bys], ?_⟩
  conv => whnf
  repeat ((first | refine ifB_t ?_ | refine ifB_f ?_ | refine ⟨entC_pure _, ?_⟩ | refine ⟨rfl, ?_⟩ | refine ⟨_, rfl, ?_⟩); conv => whnf)
  refine ⟨_, _, e4, by first | rfl | simp [noRoIf, noRoL, noRoV, noRoL_bys], ?_⟩
  conv => whnf
  repeat ((first | refine ifB_t ?_ | (refine fit_i64 ⟨by first | omega | rfl | (dsimp only; omega), by first | omega | rfl | (dsimp only; omega)⟩ ?_) | refine ⟨_, rfl, ?_⟩); conv => whnf)
  refine ⟨z32, z32, ⟨rfl, c32_map rfl, by kernel_rfl, rfl, rfl⟩, ?_⟩
  conv => whnf
  repeat ((first | refine ifB_t ?_ | refine ⟨rfl, ?_⟩); conv => whnf)
  rw [dt rfl]
  conv => whnf
  refine ⟨_, _, wakes11_ok, by first | rfl | simp [noRoIf, noRoL, noRoV, noRoL_bys], ?_⟩
  conv => whnf
  repeat ((first | refine ifB_t ?_ | refine ⟨rfl, ?_⟩); conv => whnf)
  rfl
 ·have y1 := entB_byt he
  have ze := entB_ok0 he hr
  have hq : entB e = encR validR (entTs e) := by unfold entB; rw [hr]; rfl
  have hq2 : entBody e = encR validR (entT 6 e) := by unfold entBody; rw [hr]; rfl
  have f1 := (refebytes_ok e he).roRes
  have f2 := (refbody_ok e he).roRes
  have f3 := refid_ok e he hr
  rw [← hq] at f1
  rw [← hq2] at f2
  have hrd := eread_ok (entB e).1 y1.1 (by omega)
  rw [rdEnt_bytes he ze] at hrd
  rw [show entB e = ((entB e).1, 0) by rw [entB_yes' he hr]] at e1
  rw [show entBody e = ((entBody e).1, 0) by rw [entBody_yes he hr]] at e2
  rw [show idE e = (shaL (entB e).1, 0) by unfold idE; rw [hr]; rfl] at e3
  have ls := shaL_len (entB e).1
  have b1 := bytes_ok (entB e).1 (entB e).1 (by omega)
  have y2 := entBody_byt he
  have b2 := bytes_ok (entBody e).1 (entBody e).1 (by omega)
  rw [dt rfl] at b1 b2
  clear hq hq2 ze y1 y2
  generalize (entB e).1 = x at *
  generalize (entBody e).1 = y at *
  generalize shaL x = i at *
  dsimp only at e1 e2 e3
  refine ⟨_, _, rm, by first | rfl | simp [noRoIf, noRoL, noRoV, noRoL_bys], ?_⟩
  conv => whnf
  repeat ((first | refine ⟨entC_pure _, ?_⟩ | refine ⟨rfl, ?_⟩ | refine ⟨_, rfl, ?_⟩); conv => whnf)
  refine ⟨_, _, e1, by first | rfl | simp [noRoIf, noRoL, noRoV, noRoL_bys], ?_⟩
  conv => whnf
  repeat ((first | refine ⟨entC_pure _, ?_⟩ | refine ⟨rfl, ?_⟩ | refine ⟨_, rfl, ?_⟩); conv => whnf)
  refine ⟨_, _, e2, by first | rfl | simp [noRoIf, noRoL, noRoV, noRoL_bys], ?_⟩
  conv => whnf
  repeat ((first | refine ⟨entC_pure _, ?_⟩ | refine ⟨rfl, ?_⟩ | refine ⟨_, rfl, ?_⟩); conv => whnf)
  refine ⟨_, _, e3, by first | rfl | simp [noRoIf, noRoL, noRoV, noRoL_bys], ?_⟩
  conv => whnf
  repeat ((first | refine ⟨(⟨by kernel_rfl, by kernel_rfl, Nat.le_of_ble_eq_true (by kernel_rfl)⟩ : AV.ones _ = true ∧ _ ∧ _), ?_⟩ | refine ⟨rfl, ?_⟩); conv => whnf)
  refine Does.freeze 3 (zs := c32 i []) (by kernel_rfl) (Does.tidy [(1, .rop (entC e)), (3, .rop (entC e)), (4, .bool true), (5, .ro x.length (bys x)), (6, .int .i64 0), (7, .ro y.length (bys y)), (8, .int .i64 0), (9, .rop (c32 i [])), (10, .int .i64 0)] [(1, entC e)] 4 124 rfl rfl rfl (by kernel_rfl) (by kernel_rfl) ?_)
  refine wpc_sound (M := MRd) (PL := PLee) (CU := noCut) TTok mixed _ _ _ ?_
  conv => whnf
  repeat ((first | refine ⟨entC_pure _, ?_⟩ | refine ⟨rfl, ?_⟩ | refine ⟨_, rfl, ?_⟩); conv => whnf)
  refine ⟨_, _, e4, by first | rfl | simp [noRoIf, noRoL, noRoV, noRoL_bys], ?_⟩
  conv => whnf
  repeat ((first | refine ifB_f ?_ | refine ⟨entC_pure _, ?_⟩ | refine ⟨rfl, ?_⟩ | refine ⟨_, rfl, ?_⟩); conv => whnf)
  refine ⟨_, _, kk, by first | rfl | simp [noRoIf, noRoL, noRoV, noRoL_bys], ?_⟩
  conv => whnf
  repeat ((first | refine ifB_f ?_ | refine ⟨pureL_bys _, ?_⟩ | refine ⟨rfl, ?_⟩); conv => whnf)
  refine ⟨_, _, hrd, by first | rfl | simp [noRoIf, noRoL, noRoV, noRoL_bys], ?_⟩
  conv => whnf
  repeat ((first | refine ⟨(⟨by kernel_rfl, by kernel_rfl, Nat.le_of_ble_eq_true (by kernel_rfl)⟩ : AV.ones _ = true ∧ _ ∧ _), ?_⟩ | refine ⟨rfl, ?_⟩); conv => whnf)
  refine Does.tidy [(1, .rop (entC e)), (5, .ro x.length (bys x)), (6, .int .i64 0), (7, .ro y.length (bys y)), (8, .int .i64 0), (9, .rop (c32 i [])), (10, .int .i64 0), (11, .ptr 4 0), (12, .int .i64 0)] [(1, entC e), (4, entC e)] 5 124 rfl rfl rfl (by kernel_rfl) (by kernel_rfl) ?_
  refine Does.freeze 4 rfl (Does.tidy [(1, .rop (entC e)), (5, .ro x.length (bys x)), (6, .int .i64 0), (7, .ro y.length (bys y)), (8, .int .i64 0), (9, .rop (c32 i [])), (10, .int .i64 0), (11, .rop (entC e)), (12, .int .i64 0)] [(1, entC e)] 5 124 rfl rfl rfl (by kernel_rfl) (by kernel_rfl) ?_)
  refine wpc_sound (M := MRd) (PL := PLee) (CU := noCut) TTok mixed _ _ _ ?_
  conv => whnf
  refine ⟨by kernel_rfl, ?_⟩
  conv => whnf
  repeat ((first | refine ifB_t ?_ | refine ⟨entC_pure _, ?_⟩ | refine ⟨rfl, ?_⟩ | refine ⟨_, rfl, ?_⟩); conv => whnf)
  refine ⟨_, _, f1, by first | rfl | simp [noRoIf, noRoL, noRoV, noRoL_bys], ?_⟩
  conv => whnf
  repeat ((first | refine ifB_t ?_ | refine ⟨pureL_bys _, ?_⟩ | refine ⟨rfl, ?_⟩); conv => whnf)
  refine ⟨_, _, b1, by first | rfl | simp [noRoIf, noRoL, noRoV, noRoL_bys], ?_⟩
  conv => whnf
  repeat ((first | refine ifB_t ?_ | refine ⟨entC_pure _, ?_⟩ | refine ⟨rfl, ?_⟩ | refine ⟨_, rfl, ?_⟩); conv => whnf)
  refine ⟨_, _, f2, by first | rfl | simp [noRoIf, noRoL, noRoV, noRoL_bys], ?_⟩
  conv => whnf
  repeat ((first | refine ifB_t ?_ | refine ⟨pureL_bys _, ?_⟩ | refine ⟨rfl, ?_⟩); conv => whnf)
  refine ⟨_, _, b2, by first | rfl | simp [noRoIf, noRoL, noRoV, noRoL_bys], ?_⟩
  conv => whnf
  repeat ((first | refine ifB_t ?_ | refine ⟨entC_pure _, ?_⟩ | refine ⟨rfl, ?_⟩ | refine ⟨_, rfl, ?_⟩); conv => whnf)
  refine ⟨_, _, f3, by first | rfl | simp [noRoIf, noRoL, noRoV, noRoL_bys], ?_⟩
  conv => whnf
  repeat ((refine ifB_t ?_); conv => whnf)
  refine ⟨i, i, ⟨rfl, c32_map ls, c32_map ls, ls, ls⟩, ?_⟩
  conv => whnf
  repeat ((first | refine ifB_t ?_ | (refine ifB_pos (decide_eq_true (by first | omega | rfl | (dsimp only; omega))) ?_) | refine ⟨entC_pure _, ?_⟩ | refine ⟨rfl, ?_⟩ | refine ⟨_, rfl, ?_⟩); conv => whnf)
  rw [dt rfl]
  conv => whnf
  refine ⟨_, _, kk, by first | rfl | simp [noRoIf, noRoL, noRoV, noRoL_bys], ?_⟩
  conv => whnf
  repeat ((first | refine ifB_t ?_ | refine ⟨rfl, ?_⟩); conv => whnf)
  refine ⟨_, _, wakes11_ok, by first | rfl | simp [noRoIf, noRoL, noRoV, noRoL_bys], ?_⟩
  conv => whnf
  repeat ((first | refine ifB_t ?_ | refine ⟨rfl, ?_⟩); conv => whnf)
  rfl
end
section

open Go Go.Shelf Go.Lib
theorem first_eq : ∀ c : Fin 256, firstT c.val = utf8First.getD c.val 0 := by decide +kernel
theorem acc_eq : ∀ i : Fin 16, accLo i.val = utf8Ranges.getD (2 * i.val) 0 ∧ accHi i.val = utf8Ranges.getD (2 * i.val + 1) 0 := by decide +kernel
theorem tabOk_of {W : World} (h : Lib.Utf8Tabs 1 2 W) : TabOk (env0 W) := by
 obtain ⟨h1, h2⟩ := h
 have l1 : utf8First.length = 256 := by decide +kernel
 have l2 : utf8Ranges.length = 32 := by decide +kernel
 have s0 : 1 < W.heap.size := World.block_lt_of_cell? _ _ (h1 0 (by omega))
 have s1 : 2 < W.heap.size := World.block_lt_of_cell? _ _ (h2 0 (by omega)).1
 intro g k l hg
 unfold tabs at hg
 by_cases g0 : g = 1
 ·subst g0
  simp only [Nat.beq_refl, cond_true, Option.some.injEq, Prod.mk.injEq] at hg
  obtain ⟨rfl, rfl⟩ := hg
  refine ⟨s0, fun hv => hv, fun j x hx => ?_⟩
  have hj : j < 256 := by rw [← l1]; exact (List.getElem?_eq_some_iff.1 hx).1
  have := h1 j hj
  have e := first_eq ⟨j, hj⟩
  simp only at e
  rw [e, List.getD_eq_getElem?_getD, hx] at this
  exact this
 ·have hb : Nat.beq g 1 = false := by
   cases hh : Nat.beq g 1
   ·rfl
   ·exact absurd (Nat.eq_of_beq_eq_true hh) g0
  rw [hb, cond_false] at hg
  by_cases g1 : g = 2
  ·subst g1
   simp only [Nat.beq_refl, cond_true, Option.some.injEq, Prod.mk.injEq] at hg
   obtain ⟨rfl, rfl⟩ := hg
   refine ⟨s1, fun hv => hv, fun j x hx => ?_⟩
   have hj : j < 32 := by rw [← l2]; exact (List.getElem?_eq_some_iff.1 hx).1
   have e := acc_eq ⟨j / 2, by omega⟩
   obtain ⟨q1, q2⟩ := h2 (j / 2) (by omega)
   simp only at e
   rw [e.1] at q1
   rw [e.2] at q2
   rcases Nat.mod_two_eq_zero_or_one j with hm | hm
   ·have ej : 2 * (j / 2) = j := by omega
    rw [ej, List.getD_eq_getElem?_getD, hx] at q1
    exact q1
   ·have ej : 2 * (j / 2) + 1 = j := by omega
    rw [ej, List.getD_eq_getElem?_getD, hx] at q2
    exact q2
  ·have hb : Nat.beq g 2 = false := by
    cases hh : Nat.beq g 2
    ·rfl
    ·exact absurd (Nat.eq_of_beq_eq_true hh) g1
   rw [hb, cond_false] at hg
   cases hg
def utRen : Ren := ⟨fun x => x, fun n => if n = 5 then 5 else if n = 119 then 163 else if n = 138 then 165 else 166, fun n => if n = 3 then 1 else 2⟩
theorem tabOk_of_laid {W : World} (hL : laidMet Tryz.prog [("unicode/utf8.acceptRanges", Rows.laid_unicode_utf8_acceptRanges), ("unicode/utf8.first", Rows.laid_unicode_utf8_first)] W) : TabOk (env0 W) := by
 have e1 : Rows.laid_unicode_utf8_first = Lib.firstData := Pinned.utf8First_eq
 have e2 : (Rows.laid_unicode_utf8_acceptRanges : DataW Unit) = Lib.acceptData := by kernel_rfl
 rw [e1, e2] at hL
 exact tabOk_of (utf8Tabs_of_readsT (P := Tryz.prog) (ρ := utRen) ⟨by kernel_rfl, by kernel_rfl, by kernel_rfl, by kernel_rfl⟩ ⟨by kernel_rfl, by kernel_rfl, by kernel_rfl, by kernel_rfl, by kernel_rfl, by kernel_rfl, by kernel_rfl⟩
  (Lib.laidMet.reads hL (.tail _ (.head _))) (Lib.laidMet.reads hL (.head _)))
end
end Go.Proofs.YtgcmddhdnfmdnaaGreatDoor.Abs
