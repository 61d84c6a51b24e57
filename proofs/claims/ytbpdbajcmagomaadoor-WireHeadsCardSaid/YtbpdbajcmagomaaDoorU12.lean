/- Texts EW to WA, merged. -/
import Derived.Test.YtbpdbajcmagomaaDoorU11
set_option linter.unusedVariables false
set_option linter.unusedSimpArgs false
namespace Go.Proofs.YtbpdbajcmagomaaDoor.Abs
open Go
section

def Items (g : Nat → Option (Nat × List Int)) : Nat → List (List Int) → Nat → Prop
 | a, [], b => a = b
 | a, x :: xs, b => ∃ c, g a = some (c, x) ∧ Items g c xs b
theorem rLoop_items {g : Nat → Option (Nat × List Int)} : ∀ (xs : List (List Int)) (i a b : Nat) (acc last : List Int), Items g a xs b → acc.length + xs.flatten.length ≤ 32768 → rLoop g false xs.length i a acc last = some (b, acc ++ xs.flatten)
 | [], i, a, b, acc, last, h, _ => by
  obtain rfl : a = b := h
  simp [rLoop]
 | x :: xs, i, a, b, acc, last, h, hl => by
  obtain ⟨c, hc, h⟩ := h
  simp only [List.flatten_cons, List.length_append] at hl
  rw [List.length_cons, rLoop, hc]
  dsimp only
  rw [if_neg (by omega), if_neg (by simp), rLoop_items xs (i + 1) c b (acc ++ x) last h (by simp only [List.length_append]; omega)]
  simp
def IsItem (u : List Int → Bool) (f : Nat) (ts : List Tok) (x : List Int) : Prop := ∀ pre post : List Tok, rItem u (pre ++ (ts ++ post)) f pre.length = some (pre.length + ts.length, x)
def AreItems (u : List Int → Bool) (f : Nat) (ts : List Tok) (xs : List (List Int)) : Prop := ∀ pre post : List Tok, Items (rItem u (pre ++ (ts ++ post)) f) pre.length xs (pre.length + ts.length)
theorem are_nil (u : List Int → Bool) (f : Nat) : AreItems u f [] [] := fun pre post => by simp [Items]
theorem are_cons {u : List Int → Bool} {f : Nat} {ts us : List Tok} {x : List Int} {xs : List (List Int)} (h : IsItem u f ts x) (k : AreItems u f us xs) : AreItems u f (ts ++ us) (x :: xs) := by
 intro pre post
 refine ⟨pre.length + ts.length, ?_, ?_⟩
 ·rw [List.append_assoc]; exact h pre (us ++ post)
 ·have := k (pre ++ ts) post
  simpa [List.append_assoc, Nat.add_assoc] using this
theorem are_one {u : List Int → Bool} {f : Nat} {ts : List Tok} {x : List Int} (h : IsItem u f ts x) : AreItems u f ts [x] := by
 have := are_cons h (are_nil u f)
 rwa [List.append_nil] at this
theorem are_app {u : List Int → Bool} {f : Nat} : ∀ {xs ys : List (List Int)} {ts us : List Tok}, AreItems u f ts xs → AreItems u f us ys → AreItems u f (ts ++ us) (xs ++ ys) := by
 intro xs ys ts us h k pre post
 have h1 := h pre (us ++ post)
 have h2 := k (pre ++ ts) post
 rw [List.append_assoc]
 have e : pre ++ ts ++ (us ++ post) = pre ++ (ts ++ (us ++ post)) := by simp
 rw [e] at h2
 have e2 : (pre ++ ts).length = pre.length + ts.length := by simp
 rw [e2] at h2
 rw [List.length_append, ← Nat.add_assoc]
 generalize rItem u (pre ++ (ts ++ (us ++ post))) f = g at h1 h2
 clear h k e e2
 generalize pre.length + ts.length = m at h1 h2
 generalize pre.length = n at h1
 induction xs generalizing n with
 | nil => obtain rfl : n = m := h1; exact h2
 | cons x xs ih =>
  obtain ⟨c, hc, h1⟩ := h1
  exact ⟨c, hc, ih c h1⟩
def tB (t : Tok) : List Int := if t.k = 1 then putL 0 t.n else if t.k = 3 then putL 2 t.b.length ++ t.b else putL 3 t.b.length ++ t.b
def FlatOk (u : List Int → Bool) (t : Tok) : Prop := (t.k = 1 ∧ 0 ≤ t.n ∧ t.b = []) ∨ (t.k = 3 ∧ t.n = 0) ∨ (t.k = 4 ∧ t.n = 0 ∧ u t.b = true)
theorem is_flat {u : List Int → Bool} {f : Nat} {t : Tok} (h : FlatOk u t) : IsItem u f [t] (tB t) := by
 intro pre post
 have hk : pre.length < (pre ++ ([t] ++ post)).length := by simp
 rw [rItem_tok u _ f pre.length hk]
 have e : (pre ++ ([t] ++ post))[pre.length] = t := by simp
 rw [e]
 unfold rTok tB
 have hb : ¬ rBad t := by
  unfold rBad
  rcases h with h | h | h
  ·rw [h.2.2]; simp; omega
  ·rw [h.1, h.2]; simp
  ·rw [h.1, h.2.1]; simp
 rw [if_neg hb]
 rcases h with h | h | h
 ·simp [h.1]
 ·simp [h.1]
 ·simp [h.1, h.2.2]
theorem is_arr {u : List Int → Bool} {f : Nat} {ts : List Tok} {xs : List (List Int)} (h : AreItems u f ts xs) (hx : xs.length ≤ 64) (hl : (putL 4 xs.length).length + xs.flatten.length ≤ 32768) : IsItem u (f + 1) (⟨5, xs.length, []⟩ :: ts) (putL 4 xs.length ++ xs.flatten) := by
 intro pre post
 have hk : pre.length < (pre ++ (⟨5, (xs.length : Int), []⟩ :: ts ++ post)).length := by simp
 rw [rItem_tok u _ (f + 1) pre.length hk]
 have e : (pre ++ (⟨5, (xs.length : Int), []⟩ :: ts ++ post))[pre.length] = ⟨5, (xs.length : Int), []⟩ := by simp
 rw [e]
 unfold rTok
 rw [if_neg (by unfold rBad; simp <;> omega)]
 dsimp only
 rw [if_neg (by omega), if_neg (by omega), if_neg (by omega), if_neg (by omega), if_pos (by omega), if_neg (by simp), if_neg (by omega), if_neg (by omega)]
 have := h (pre ++ [⟨5, (xs.length : Int), []⟩]) post
 have e2 : pre ++ [(⟨5, (xs.length : Int), []⟩ : Tok)] ++ (ts ++ post) = pre ++ (⟨5, (xs.length : Int), []⟩ :: ts ++ post) := by simp
 rw [e2, List.length_append, List.length_singleton] at this
 simp only [rSub, Int.toNat_natCast]
 rw [rLoop_items xs 0 _ _ _ _ this hl]
 simp
 omega
theorem enc_item {u : List Int → Bool} {ts : List Tok} {x : List Int} (h : IsItem u 6 ts x) (ht : ts.length ≤ 600) (hx : x.length ≤ 32768) : encR u ts = (x, 0) := by
 rw [encR_iff]
 have := h [] []
 simp at this
 exact ⟨ht, this, hx⟩
theorem flat_num {u : List Int → Bool} {n : Int} (h : 0 ≤ n) (f : Nat) : IsItem u f [⟨1, n, []⟩] (putL 0 n) := is_flat (.inl ⟨rfl, h, rfl⟩)
theorem flat_str {u : List Int → Bool} (b : List Int) (f : Nat) : IsItem u f [⟨3, 0, b⟩] (putL 2 b.length ++ b) := is_flat (.inr (.inl ⟨rfl, rfl⟩))
theorem flat_text {u : List Int → Bool} {b : List Int} (h : u b = true) (f : Nat) : IsItem u f [⟨4, 0, b⟩] (putL 3 b.length ++ b) := is_flat (.inr (.inr ⟨rfl, rfl, h⟩))
theorem putL_le (M : Int) {n : Int} (h : 0 ≤ n) : (putL M n).length ≤ 9 := by
 rw [putL_length]; have := (sizeR_le n h).1; omega
def entX (e : Ent) : List (List Int) := [putL 0 1, putL 2 e.au.length ++ e.au, putL 0 e.seq, putL 2 e.prev.length ++ e.prev, putL 0 e.stamp, putL 4 3 ++ [putL 0 e.kind, putL 3 e.key.length ++ e.key, putL 2 e.val.length ++ e.val].flatten]
theorem entR_facts {e : Ent} (hr : entR e = true) : (1 ≤ e.seq ∧ e.seq ≤ 200) ∧ 0 ≤ e.stamp ∧ (1 ≤ e.key.length ∧ e.key.length ≤ 16) ∧ validR e.key = true ∧ (e.kind = 1 ∨ e.kind = 2) ∧ e.val.length ≤ 40 := by
 unfold entR opR at hr
 simp only [Bool.and_eq_true, Bool.or_eq_true, decide_eq_true_eq] at hr
 obtain ⟨⟨⟨⟨h1, h2⟩, h3⟩, h4⟩, ⟨⟨h5, h6⟩, h7⟩, h8⟩ := hr
 refine ⟨⟨h1, h2⟩, h4, ⟨h5, h6⟩, h7, ?_, ?_⟩
 ·rcases h8 with h | h
  ·exact .inl h.1
  ·exact .inr h.1
 ·rcases h8 with h | h
  ·exact h.2
  ·omega
theorem entX_are {e : Ent} (hr : entR e = true) (h1 : e.au.length = 32) (h2 : e.prev.length = 32) (f : Nat) : AreItems validR (f + 1) [⟨1, 1, []⟩, ⟨3, 0, e.au⟩, ⟨1, e.seq, []⟩, ⟨3, 0, e.prev⟩, ⟨1, e.stamp, []⟩, ⟨5, 3, []⟩, ⟨1, e.kind, []⟩, ⟨4, 0, e.key⟩, ⟨3, 0, e.val⟩] (entX e) := by
 have F := entR_facts hr
 have op : IsItem validR (f + 1) [⟨5, 3, []⟩, ⟨1, e.kind, []⟩, ⟨4, 0, e.key⟩, ⟨3, 0, e.val⟩] (putL 4 3 ++ [putL 0 e.kind, putL 3 e.key.length ++ e.key, putL 2 e.val.length ++ e.val].flatten) := by
  have := is_arr (u := validR) (f := f) (are_cons (flat_num (n := e.kind) (by omega) f) (are_cons (flat_text F.2.2.2.1 f) (are_one (flat_str e.val f)))) (by simp) (by
   have a1 := putL_le 4 (n := 3) (by omega)
   have a2 := putL_le 0 (n := e.kind) (by omega)
   have a3 := putL_le 3 (n := e.key.length) (by omega)
   have a4 := putL_le 2 (n := e.val.length) (by omega)
   simp only [List.length_cons, List.length_nil, List.flatten_cons, List.flatten_nil, List.length_append]
   have : ((0 + 1 + 1 + 1 : Nat) : Int) = 3 := rfl
   rw [this]
   omega)
  exact this
 exact are_cons (flat_num (by omega) _) (are_cons (flat_str e.au _) (are_cons (flat_num (by omega) _) (are_cons (flat_str e.prev _) (are_cons (flat_num F.2.1 _) (are_one op)))))
theorem entX_len {e : Ent} (hr : entR e = true) (h1 : e.au.length = 32) (h2 : e.prev.length = 32) : (entX e).flatten.length ≤ 300 := by
 have F := entR_facts hr
 have a0 := putL_le 0 (n := 1) (by omega)
 have a1 := putL_le 4 (n := 3) (by omega)
 have a2 := putL_le 0 (n := e.kind) (by omega)
 have a3 := putL_le 3 (n := e.key.length) (by omega)
 have a4 := putL_le 2 (n := e.val.length) (by omega)
 have a5 := putL_le 2 (n := e.au.length) (by omega)
 have a6 := putL_le 0 (n := e.seq) (by omega)
 have a7 := putL_le 2 (n := e.prev.length) (by omega)
 have a8 := putL_le 0 (n := e.stamp) (by omega)
 simp only [entX, List.flatten_cons, List.flatten_nil, List.length_append, List.length_nil]
 omega
theorem entTs_bytes {e : Ent} (hr : entR e = true) (h1 : e.au.length = 32) (h2 : e.prev.length = 32) (h3 : e.sig.length = 64) : encR validR (entTs e) = (putL 4 7 ++ (entX e ++ [putL 2 e.sig.length ++ e.sig]).flatten, 0) := by
 have A := are_app (entX_are hr h1 h2 4) (are_one (flat_str e.sig 5))
 have L := entX_len hr h1 h2
 have a1 := putL_le 4 (n := 7) (by omega)
 have a2 := putL_le 2 (n := e.sig.length) (by omega)
 have := is_arr A (by simp [entX]) (by
  have : (((entX e ++ [putL 2 e.sig.length ++ e.sig]).length : Nat) : Int) = 7 := by simp [entX]
  rw [this]
  simp only [List.flatten_append, List.length_append, List.flatten_cons, List.flatten_nil, List.length_nil]
  omega)
 have e7 : (((entX e ++ [putL 2 e.sig.length ++ e.sig]).length : Nat) : Int) = 7 := by simp [entX]
 rw [e7] at this
 exact enc_item (ts := entTs e) this (by show 11 ≤ 600; decide) (by
  simp only [List.flatten_append, List.length_append, List.flatten_cons, List.flatten_nil, List.length_nil]
  omega)
theorem entB_yes {e : Ent} (he : EntS e) (hr : entR e = true) : entB e = (putL 4 7 ++ (entX e ++ [putL 2 e.sig.length ++ e.sig]).flatten, 0) := by
 unfold entB
 rw [if_pos hr, entTs_bytes hr he.au.2 he.prev.2 he.sig.2]
theorem entB_err {e : Ent} (he : EntS e) : decide ((entB e).2 = 0) = entR e := by
 cases h : entR e
 ·unfold entB; rw [h]; rfl
 ·rw [entB_yes he h]; rfl
end
section

theorem flat_len {c : Nat} : ∀ {l : List (List Int)}, (∀ x ∈ l, x.length ≤ c) → l.flatten.length ≤ c * l.length
 | [], _ => by simp
 | x :: r, h => by
  have h1 := h x List.mem_cons_self
  have h2 := flat_len (l := r) (fun y hy => h y (List.mem_cons_of_mem _ hy))
  simp only [List.flatten_cons, List.length_append, List.length_cons, Nat.mul_add]
  omega
def hdX (h : Hd) : List Int := putL 4 4 ++ [putL 2 h.au.length ++ h.au, putL 0 h.len, putL 2 h.id.length ++ h.id, putL 0 (bitR h.shut)].flatten
def HdI (h : Hd) : Prop := 0 ≤ h.len ∧ h.au.length = 32 ∧ h.id.length = 32
theorem bitR_nn (b : Bool) : 0 ≤ bitR b := by unfold bitR; split <;> omega
theorem hdX_len {h : Hd} (H : HdI h) : (hdX h).length ≤ 120 := by
 obtain ⟨h1, h2, h3⟩ := H
 have a1 := putL_le 4 (n := 4) (by omega)
 have a2 := putL_le 2 (n := h.au.length) (by omega)
 have a3 := putL_le 0 (n := h.len) h1
 have a4 := putL_le 2 (n := h.id.length) (by omega)
 have a5 := putL_le 0 (n := bitR h.shut) (bitR_nn _)
 simp only [hdX, List.flatten_cons, List.flatten_nil, List.length_append, List.length_nil]
 omega
theorem hd_is {h : Hd} (H : HdI h) (f : Nat) : IsItem validR (f + 1) (hdT h) (hdX h) := by
 have L := hdX_len H
 have := is_arr (u := validR) (f := f) (are_cons (flat_str h.au f) (are_cons (flat_num H.1 f) (are_cons (flat_str h.id f) (are_one (flat_num (bitR_nn h.shut) f))))) (by simp) (by
  rw [← List.length_append]
  exact Nat.le_trans L (by omega))
 exact this
theorem hds_are (f : Nat) : ∀ {l : List Hd}, (∀ h ∈ l, HdI h) → AreItems validR (f + 1) (hdsT l) (l.map hdX)
 | [], _ => are_nil _ _
 | h :: r, H => are_cons (hd_is (H h List.mem_cons_self) f) (hds_are f fun x hx => H x (List.mem_cons_of_mem _ hx))
def strX (b : List Int) : List Int := putL 2 b.length ++ b
theorem strX_len (b : List Int) : (strX b).length ≤ b.length + 9 := by
 have := putL_le 2 (n := b.length) (by omega)
 unfold strX
 rw [List.length_append]; omega
theorem strs_are (f : Nat) : ∀ l : List (List Int), AreItems validR f (l.map fun b => ⟨3, 0, b⟩) (l.map strX)
 | [] => are_nil _ _
 | b :: r => are_cons (flat_str b f) (strs_are f r)
theorem entB_len {e : Ent} (he : EntS e) : (entB e).1.length ≤ 400 := by
 cases hr : entR e
 ·unfold entB; rw [hr]; simp
 ·rw [entB_yes he hr]
  have L := entX_len hr he.au.2 he.prev.2
  have a1 := putL_le 4 (n := 7) (by omega)
  have a2 := putL_le 2 (n := e.sig.length) (by omega)
  have := he.sig.2
  simp only [List.flatten_append, List.length_append, List.flatten_cons, List.flatten_nil, List.length_nil]
  omega
def prfX (p : Prf) : List Int := putL 4 3 ++ [putL 0 2, strX (entB p.a).1, strX (entB p.b).1].flatten
theorem prfX_len {p : Prf} (hp : PrfS p) : (prfX p).length ≤ 900 := by
 have b1 := entB_len hp.a
 have b2 := entB_len hp.b
 have s1 := strX_len (entB p.a).1
 have s2 := strX_len (entB p.b).1
 have a1 := putL_le 4 (n := 3) (by omega)
 have a2 := putL_le 0 (n := 2) (by omega)
 simp only [prfX, List.flatten_cons, List.flatten_nil, List.length_append, List.length_nil]
 omega
theorem prfB_yes {p : Prf} (hp : PrfS p) (hr : prfR p = true) : prfB p = (prfX p, 0) := by
 have L := prfX_len hp
 unfold prfB
 rw [if_pos hr]
 have := is_arr (u := validR) (f := 5) (are_cons (flat_num (n := 2) (by omega) 5) (are_cons (flat_str (entB p.a).1 5) (are_one (flat_str (entB p.b).1 5)))) (by simp) (by
  rw [← List.length_append]
  exact Nat.le_trans L (by omega))
 exact enc_item (x := prfX p) this (by simp) (by omega)
theorem prfB_len {p : Prf} (hp : PrfS p) : (prfB p).1.length ≤ 900 := by
 cases hr : prfR p
 ·unfold prfB; rw [hr]; simp
 ·rw [prfB_yes hp hr]; exact prfX_len hp
theorem prT_eq (l : List Prf) : prT l = (l.map fun p => (prfB p).1).map fun b => ⟨3, 0, b⟩ := by simp [prT]
theorem enT_eq (l : List Ent) : enT l = (l.map fun p => (entB p).1).map fun b => ⟨3, 0, b⟩ := by simp [enT]
theorem strs_len {c : Nat} {l : List (List Int)} (h : ∀ b ∈ l, b.length ≤ c) : (l.map strX).flatten.length ≤ (c + 9) * l.length := by
 have := flat_len (c := c + 9) (l := l.map strX) (by
  intro x hx
  obtain ⟨b, hb, rfl⟩ := List.mem_map.1 hx
  have := strX_len b
  have := h b hb
  omega)
 rwa [List.length_map] at this
def frX (m : Msg) : List (List Int) := [putL 0 3, putL 0 m.frm, putL 0 m.to, putL 4 m.hs.length ++ (m.hs.map hdX).flatten]
def anX (m : Msg) : List (List Int) := [putL 0 4, putL 0 m.frm, putL 0 m.to, putL 4 m.ps.length ++ (m.ps.map fun p => strX (prfB p).1).flatten, putL 4 m.es.length ++ (m.es.map fun e => strX (entB e).1).flatten]
set_option maxHeartbeats 1000000 in
theorem fr_yes {m : Msg} (h1 : 0 ≤ m.frm) (h2 : 0 ≤ m.to) (hl : m.hs.length ≤ 8) (H : ∀ h ∈ m.hs, HdI h) : encR validR (frT m ++ hdsT m.hs) = (putL 4 4 ++ (frX m).flatten, 0) := by
 have F := flat_len (c := 120) (l := m.hs.map hdX) (by
  intro x hx
  obtain ⟨h, hh, rfl⟩ := List.mem_map.1 hx
  exact hdX_len (H h hh))
 rw [List.length_map] at F
 have a1 := putL_le 4 (n := m.hs.length) (by omega)
 have hd := is_arr (hds_are 3 H) (by rw [List.length_map]; omega) (by rw [List.length_map]; omega)
 rw [List.length_map] at hd
 have b0 := putL_le 4 (n := 4) (by omega)
 have b1 := putL_le 0 (n := 3) (by omega)
 have b2 := putL_le 0 (n := m.frm) h1
 have b3 := putL_le 0 (n := m.to) h2
 have L : (putL 4 4 ++ (frX m).flatten).length ≤ 32768 := by
  simp only [frX, List.flatten_cons, List.flatten_nil, List.length_append, List.length_nil]
  omega
 have := is_arr (are_cons (flat_num (n := 3) (by omega) 5) (are_cons (flat_num h1 5) (are_cons (flat_num h2 5) (are_one hd)))) (by simp) (by
  rw [← List.length_append]
  exact L)
 exact enc_item (ts := frT m ++ hdsT m.hs) (x := putL 4 4 ++ (frX m).flatten) this (by rw [List.length_append, hdsT_len]; simp [frT]; omega) L
set_option maxHeartbeats 1000000 in
theorem an_yes {m : Msg} (h1 : 0 ≤ m.frm) (h2 : 0 ≤ m.to) (hp : m.ps.length ≤ 4) (he : m.es.length ≤ 4) (P : ∀ p ∈ m.ps, PrfS p) (E : ∀ e ∈ m.es, EntS e) : encR validR (anT m ++ prT m.ps ++ [⟨5, m.es.length, []⟩] ++ enT m.es) = (putL 4 5 ++ (anX m).flatten, 0) := by
 have Fp := strs_len (c := 900) (l := m.ps.map fun p => (prfB p).1) (by
  intro x hx
  obtain ⟨h, hh, rfl⟩ := List.mem_map.1 hx
  exact prfB_len (P h hh))
 have Fe := strs_len (c := 400) (l := m.es.map fun p => (entB p).1) (by
  intro x hx
  obtain ⟨h, hh, rfl⟩ := List.mem_map.1 hx
  exact entB_len (E h hh))
 have pa := strs_are 4 (m.ps.map fun p => (prfB p).1)
 have ea := strs_are 4 (m.es.map fun p => (entB p).1)
 rw [← prT_eq] at pa
 rw [← enT_eq] at ea
 rw [List.length_map] at Fp Fe
 rw [List.map_map] at pa ea Fp Fe
 have a1 := putL_le 4 (n := m.ps.length) (by omega)
 have a2 := putL_le 4 (n := m.es.length) (by omega)
 have hd := is_arr pa (by rw [List.length_map]; omega) (by rw [List.length_map]; omega)
 have hd2 := is_arr ea (by rw [List.length_map]; omega) (by rw [List.length_map]; omega)
 rw [List.length_map] at hd hd2
 have b0 := putL_le 4 (n := 5) (by omega)
 have b1 := putL_le 0 (n := 4) (by omega)
 have b2 := putL_le 0 (n := m.frm) h1
 have b3 := putL_le 0 (n := m.to) h2
 have L : (putL 4 5 ++ (anX m).flatten).length ≤ 32768 := by
  simp only [anX, List.flatten_cons, List.flatten_nil, List.length_append, List.length_nil]
  have Fp' : (m.ps.map fun p => strX (prfB p).1).flatten.length ≤ 909 * m.ps.length := Fp
  have Fe' : (m.es.map fun p => strX (entB p).1).flatten.length ≤ 409 * m.es.length := Fe
  omega
 have := is_arr (are_cons (flat_num (n := 4) (by omega) 5) (are_cons (flat_num h1 5) (are_cons (flat_num h2 5) (are_cons hd (are_one hd2))))) (by simp) (by
  rw [← List.length_append]
  exact L)
 exact enc_item (ts := anT m ++ prT m.ps ++ [⟨5, m.es.length, []⟩] ++ enT m.es) (x := putL 4 5 ++ (anX m).flatten) (by
  have e : anT m ++ prT m.ps ++ [⟨5, (m.es.length : Int), []⟩] ++ enT m.es = anT m ++ (prT m.ps ++ (⟨5, (m.es.length : Int), []⟩ :: enT m.es)) := by simp only [List.append_assoc, List.singleton_append]
  rw [e]
  exact this) (by simp [anT, prT, enT]; omega) L
theorem headsR_facts {l : List Hd} (h : headsR l = true) : l.length ≤ 8 ∧ ∀ x ∈ l, hdR x = true := by
 unfold headsR at h
 rw [Bool.and_eq_true] at h
 obtain ⟨h1, h2⟩ := h
 refine ⟨of_decide_eq_true h1, fun x hx => ?_⟩
 rw [List.all_eq_true] at h2
 obtain ⟨i, hi, rfl⟩ := List.getElem_of_mem hx
 have := h2 i (by simpa using hi)
 unfold hdAt at this
 rw [Bool.and_eq_true] at this
 have g : l.getD i hd0 = l[i] := by simp [List.getD, hi]
 rw [g] at this
 exact this.2
theorem hdR_nn {h : Hd} (H : hdR h = true) : 0 ≤ h.len := by
 unfold hdR at H
 simp only [Bool.and_eq_true, decide_eq_true_eq] at H
 exact H.1.1.1
theorem hdI_of {h : Hd} (H : hdR h = true) (hs : HdS h) : HdI h := ⟨hdR_nn H, hs.au.2, hs.id.2⟩
theorem msgR_facts {m : Msg} (h : msgR m = true) : (0 ≤ m.frm ∧ m.frm < 8) ∧ (0 ≤ m.to ∧ m.to < 8) ∧ m.frm ≠ m.to ∧
  ((m.kind = 1 ∧ headsR m.hs = true ∧ m.ps = [] ∧ m.es = []) ∨ (m.kind = 2 ∧ m.hs = [] ∧ m.ps.length + m.es.length ≤ 4 ∧ (∀ p ∈ m.ps, prfR p = true) ∧ ∀ e ∈ m.es, entR e = true)) := by
 unfold msgR at h
 rw [Bool.and_eq_true] at h
 obtain ⟨h1, h2⟩ := h
 unfold whoR at h1
 simp only [Bool.and_eq_true, decide_eq_true_eq] at h1
 refine ⟨⟨h1.1.1.1.1, h1.1.1.1.2⟩, ⟨h1.1.1.2, h1.1.2⟩, h1.2, ?_⟩
 split at h2
 ·rename_i k
  simp only [Bool.and_eq_true, decide_eq_true_eq] at h2
  left
  exact ⟨k, h2.1, List.length_eq_zero_iff.1 (by omega), List.length_eq_zero_iff.1 (by omega)⟩
 ·split at h2
  ·rename_i k
   simp only [Bool.and_eq_true, decide_eq_true_eq, Bool.not_eq_true', List.any_eq_false] at h2
   right
   refine ⟨k, List.length_eq_zero_iff.1 h2.1.1.1.1, by omega, fun p hp => ?_, fun p hp => ?_⟩
   ·have := h2.1.2 p hp; revert this; cases prfR p <;> simp
   ·have := h2.2 p hp; revert this; cases entR p <;> simp
  ·cases h2
theorem msgB_yes {m : Msg} (hm : MsgS m) (hr : msgR m = true) : ∃ a, encR validR (msgT m) = (a, 0) := by
 obtain ⟨h1, h2, _, h3⟩ := msgR_facts hr
 unfold msgT
 rcases h3 with ⟨k, hh, _, _⟩ | ⟨k, _, hl, hp, he⟩
 ·rw [if_pos k]
  have F := headsR_facts hh
  exact ⟨_, fr_yes h1.1 h2.1 F.1 fun h hx => hdI_of (F.2 h hx) (hm.hs h hx)⟩
 ·rw [if_neg (by omega)]
  exact ⟨_, an_yes h1.1 h2.1 (by omega) (by omega) hm.ps hm.es⟩
theorem msgB_err {m : Msg} (hm : MsgS m) : decide ((msgB m).2 = 0) = msgR m := by
 unfold msgB
 cases hr : msgR m
 ·rfl
 ·obtain ⟨a, ha⟩ := msgB_yes hm hr
  rw [if_pos rfl, ha]; rfl
theorem msgB_or (m : Msg) : msgB m = ([], 1) ∨ ∃ a, msgB m = (a, 0) := by
 unfold msgB
 split
 ·exact encR_or _ _
 ·exact .inl rfl
end
section

theorem rNext_lit (k n : Int) (b : List Int) (q : List Tok) : rNext k ⟨⟨k, n, b⟩ :: q, false⟩ = (⟨k, n, b⟩, ⟨q, false⟩) := rNext_cons rfl
theorem rdHd_eq (r : Rw) : rdHd r = (⟨(rArr 32 r).1, (rNext 1 (rArr 32 r).2).1.n, (rArr 32 (rNext 1 (rArr 32 r).2).2).1, decide ((rNext 1 (rArr 32 (rNext 1 (rArr 32 r).2).2).2).1.n = 1)⟩,
  ⟨(rNext 1 (rArr 32 (rNext 1 (rArr 32 r).2).2).2).2.l, (rNext 1 (rArr 32 (rNext 1 (rArr 32 r).2).2).2).2.bad || decide (1 < (rNext 1 (rArr 32 (rNext 1 (rArr 32 r).2).2).2).1.n)⟩) := rfl
theorem bitR_is (b : Bool) : decide (bitR b = 1) = b := by cases b <;> decide
theorem rdHd_cons (h : Hd) (h1 : h.au.length = 32) (h2 : h.id.length = 32) (q : List Tok) : rdHd ⟨⟨3, 0, h.au⟩ :: ⟨1, h.len, []⟩ :: ⟨3, 0, h.id⟩ :: ⟨1, bitR h.shut, []⟩ :: q, false⟩ = (h, ⟨q, false⟩) := by
 rw [rdHd_eq, rArr_cons rfl h1]; dsimp only
 rw [rNext_lit]; dsimp only
 rw [rArr_cons rfl h2]; dsimp only
 rw [rNext_lit]; dsimp only
 rw [bitR_is]
 have : ¬ 1 < bitR h.shut := by unfold bitR; split <;> omega
 simp [this]
theorem frLoop_hds : ∀ (l acc : List Hd) (q : List Tok), (∀ h ∈ l, h.au.length = 32 ∧ h.id.length = 32) → frLoop l.length ⟨hdsT l ++ q, false⟩ acc = (acc ++ l, ⟨q, false⟩)
 | [], acc, q, _ => by simp [frLoop, hdsT]
 | h :: r, acc, q, H => by
  have h0 := H h List.mem_cons_self
  rw [List.length_cons, frLoop_s, if_neg (by simp)]
  have e : hdsT (h :: r) ++ q = ⟨5, 4, []⟩ :: ⟨3, 0, h.au⟩ :: ⟨1, h.len, []⟩ :: ⟨3, 0, h.id⟩ :: ⟨1, bitR h.shut, []⟩ :: (hdsT r ++ q) := by simp [hdsT, hdT]
  rw [e, rNext_lit]
  dsimp only
  rw [if_neg (by simp), rdHd_cons h h0.1 h0.2]
  dsimp only
  rw [frLoop_hds r (acc ++ [h]) q fun x hx => H x (List.mem_cons_of_mem _ hx)]
  simp
theorem anLoop_strs {α : Type} {rd : List Int → α × Int} {f : α → List Int} : ∀ (l acc : List α) (q : List Tok), (∀ p ∈ l, rd (f p) = (p, 0)) → anLoop rd l.length ⟨(l.map fun p => ⟨3, 0, f p⟩) ++ q, false⟩ acc = (acc ++ l, ⟨q, false⟩)
 | [], acc, q, _ => by simp [anLoop]
 | p :: r, acc, q, H => by
  have h0 := H p List.mem_cons_self
  rw [List.length_cons, anLoop_s, if_neg (by simp), List.map_cons, List.cons_append, rNext_lit]
  dsimp only
  rw [h0]
  have := anLoop_strs (rd := rd) (f := f) r (acc ++ [p]) q fun x hx => H x (List.mem_cons_of_mem _ hx)
  simpa using this
theorem rdM_eq (r : Rw) : rdM r = if (rNext 5 r).1.n = 4 ∧ (rNext 1 (rNext 5 r).2).1.n = 3 then rdFin (rdFr (rNext 1 (rNext 5 r).2).2) else if (rNext 5 r).1.n = 5 ∧ (rNext 1 (rNext 5 r).2).1.n = 4 then rdFin (rdAn (rNext 1 (rNext 5 r).2).2) else (msg0, 3) := rfl
theorem rdFr_eq (r : Rw) : rdFr r = (⟨1, (rNext 1 r).1.n, (rNext 1 (rNext 1 r).2).1.n, (frLoop (rNext 5 (rNext 1 (rNext 1 r).2).2).1.n.toNat (rNext 5 (rNext 1 (rNext 1 r).2).2).2 []).1, [], []⟩, (frLoop (rNext 5 (rNext 1 (rNext 1 r).2).2).1.n.toNat (rNext 5 (rNext 1 (rNext 1 r).2).2).2 []).2) := rfl
theorem rdAn_eq (r : Rw) : rdAn r = (⟨2, (rNext 1 r).1.n, (rNext 1 (rNext 1 r).2).1.n, [], (anLoop rdPrf (rNext 5 (rNext 1 (rNext 1 r).2).2).1.n.toNat (rNext 5 (rNext 1 (rNext 1 r).2).2).2 []).1,
   (anLoop rdEnt (rNext 5 (anLoop rdPrf (rNext 5 (rNext 1 (rNext 1 r).2).2).1.n.toNat (rNext 5 (rNext 1 (rNext 1 r).2).2).2 []).2).1.n.toNat (rNext 5 (anLoop rdPrf (rNext 5 (rNext 1 (rNext 1 r).2).2).1.n.toNat (rNext 5 (rNext 1 (rNext 1 r).2).2).2 []).2).2 []).1⟩,
   (anLoop rdEnt (rNext 5 (anLoop rdPrf (rNext 5 (rNext 1 (rNext 1 r).2).2).1.n.toNat (rNext 5 (rNext 1 (rNext 1 r).2).2).2 []).2).1.n.toNat (rNext 5 (anLoop rdPrf (rNext 5 (rNext 1 (rNext 1 r).2).2).1.n.toNat (rNext 5 (rNext 1 (rNext 1 r).2).2).2 []).2).2 []).2) := rfl
theorem rdFin_yes {m : Msg} (h : msgR m = true) : rdFin (m, ⟨[], false⟩) = (m, 0) := by
 unfold rdFin
 rw [if_pos (by simp), if_pos h]
theorem msgT_toks {m : Msg} (hm : MsgS m) : ToksOk (msgT m) := by
 unfold msgT
 split
 ·exact fun t ht => (fr_tokB hm t ht).1
 ·exact fun t ht => (an_tokB hm t ht).1
theorem rdMsg_enc {m : Msg} (hm : MsgS m) (hr : msgR m = true) {a : List Int} (h : encR validR (msgT m) = (a, 0)) : rdMsg a = (m, 0) := by
 unfold rdMsg
 rw [rOpen_enc (msgT_toks hm) h]
 obtain ⟨_, _, _, h3⟩ := msgR_facts hr
 unfold msgT
 rcases h3 with ⟨k, hh, h4, h5⟩ | ⟨k, h4, hl, hp, he⟩
 ·rw [if_pos k]
  obtain ⟨kind, frm, to, hs, ps, es⟩ := m
  dsimp only at k h4 h5
  subst k h4 h5
  have e : frT ⟨1, frm, to, hs, [], []⟩ ++ hdsT hs = ⟨5, 4, []⟩ :: ⟨1, 3, []⟩ :: ⟨1, frm, []⟩ :: ⟨1, to, []⟩ :: ⟨5, hs.length, []⟩ :: (hdsT hs ++ []) := by simp [frT]
  rw [rdM_eq]
  dsimp only
  rw [e, rNext_lit]; dsimp only
  rw [rNext_lit]; dsimp only
  rw [if_pos (by simp), rdFr_eq, rNext_lit]; dsimp only
  rw [rNext_lit]; dsimp only
  rw [rNext_lit]; dsimp only
  rw [Int.toNat_natCast, frLoop_hds hs [] [] fun h hx => ⟨(hm.hs h hx).au.2, (hm.hs h hx).id.2⟩]
  exact rdFin_yes hr
 ·rw [if_neg (by omega)]
  obtain ⟨kind, frm, to, hs, ps, es⟩ := m
  dsimp only at k h4 hp he
  subst k h4
  have e : anT ⟨2, frm, to, [], ps, es⟩ ++ prT ps ++ [⟨5, es.length, []⟩] ++ enT es = ⟨5, 5, []⟩ :: ⟨1, 4, []⟩ :: ⟨1, frm, []⟩ :: ⟨1, to, []⟩ :: ⟨5, ps.length, []⟩ :: (prT ps ++ (⟨5, es.length, []⟩ :: (enT es ++ []))) := by simp [anT]
  rw [rdM_eq]
  dsimp only
  rw [e, rNext_lit]; dsimp only
  rw [rNext_lit]; dsimp only
  rw [if_neg (by simp), if_pos (by simp), rdAn_eq, rNext_lit]; dsimp only
  rw [rNext_lit]; dsimp only
  rw [rNext_lit]; dsimp only
  have ep := anLoop_strs (rd := rdPrf) (f := fun p => (prfB p).1) ps [] (⟨5, es.length, []⟩ :: (enT es ++ [])) fun p hx => rdPrf_bytes (hm.ps p hx) (by rw [prfB_yes (hm.ps p hx) (hp p hx)])
  have ee := anLoop_strs (rd := rdEnt) (f := fun p => (entB p).1) es [] [] fun p hx => rdEnt_bytes (hm.es p hx) (by rw [entB_yes (hm.es p hx) (he p hx)])
  change anLoop rdPrf ps.length ⟨prT ps ++ _, false⟩ [] = _ at ep
  change anLoop rdEnt es.length ⟨enT es ++ _, false⟩ [] = _ at ee
  rw [Int.toNat_natCast, ep]
  dsimp only
  rw [rNext_lit]; dsimp only
  rw [Int.toNat_natCast, ee]
  exact rdFin_yes hr
theorem rdMsg_bytes {m : Msg} (hm : MsgS m) (h : (msgB m).2 = 0) : msgR m = true ∧ rdMsg (msgB m).1 = (m, 0) := by
 have e := msgB_err hm
 rw [h] at e
 have hr : msgR m = true := by rw [← e]; rfl
 refine ⟨hr, ?_⟩
 obtain ⟨a, ha⟩ := msgB_yes hm hr
 unfold msgB
 rw [if_pos hr, ha]
 exact rdMsg_enc hm hr ha
theorem msgB_toks {m : Msg} (h : (msgB m).2 = 0) : msgR m = true ∧ encR validR (msgT m) = ((msgB m).1, 0) := by
 unfold msgB at h ⊢
 split at h
 ·rename_i c
  rw [if_pos c]
  exact ⟨c, Prod.ext rfl h⟩
 ·cases h
end
section

theorem roOf_own {E' : Env} {Z : Nat → Prop} {len esz : Nat} {cs : List AV} {u : Value} {Y : List Nat} (hV : ∀ b, Z b → E'.V b) (hZ : ∀ b ∈ Y, ¬ Z b) (h : RepB E' (.own len esz cs) u Y) :
  RepB ⟨E'.η, E'.ρ, Z, E'.w⟩ (.ro len cs) u [] := by
 simp only [RepB] at h ⊢
 obtain ⟨hp, a, cap, rfl, hl, hc⟩ := h
 refine ⟨by simpa [pureV] using hp, ?_, trivial⟩
 simp only [RepV]
 refine ⟨a, cap, rfl, hl, ?_⟩
 rcases hc with ⟨_, hcs, _⟩ | ⟨n, c, e, fr, rfl, rfl, hh, _, _, hcl, hr⟩
 ·exact .inl hcs
 ·refine .inr ⟨n, 0, rfl, hZ n (by simp), ?_⟩
  refine repM_of_get _ _ _ fun j x hx => ?_
  have hr' := pureL_rep (E := E') (E' := ⟨E'.η, E'.ρ, Z, E'.w⟩) ⟨rfl, rfl⟩ hV cs _ hp hr
  obtain ⟨u, hu, hru⟩ := repL_get _ _ hr' j x hx
  have hj : j < cs.length := by
   rcases Nat.lt_or_ge j cs.length with h' | h'
   ·exact h'
   ·rw [List.getElem?_eq_none h'] at hx; cases hx
  rw [List.getElem?_take_of_lt hj, Array.getElem?_toList] at hu
  exact ⟨u, by simp [World.cell?, hh, hu], hru⟩
theorem ACall.roRes {P : Program} {f : FuncId} {args : List AV} {len esz : Nat} {cs : List AV} (h : ACall P f args (.own len esz cs) []) : ACall P f args (.ro len cs) [] := by
 refine ⟨h.1, fun Z E vals X hh hr hn hz => ?_⟩
 refine (h.2 Z E vals X hh hr hn hz).mono ?_
 rintro e w' ⟨v, E', Xr, he, hw, hη, hev, hV, hB, hnd, hX⟩
 refine ⟨v, ⟨E'.η, E'.ρ, Z, E'.w⟩, [], he, hw, hη, hev, fun b => by simp, ?_, List.nodup_nil, fun b hb => absurd hb (List.not_mem_nil)⟩
 simp only [List.nil_append, RepBL] at hB ⊢
 obtain ⟨u, us, Y, Y', e1, e2, h1, h2, h3⟩ := hB
 refine ⟨u, us, [], [], e1, rfl, ?_, h2, rfl⟩
 exact roOf_own (fun b hb => (hV b).2 (.inl hb)) (fun b hb => (hX b (by rw [e2]; exact List.mem_append_left _ hb)).1) h1
theorem ACall.roRes2 {P : Program} {f : FuncId} {args : List AV} {len esz : Nat} {cs : List AV} {y : AV} (hy : (∃ k n, y = .int k n) ∨ ∃ b, y = .bool b) (h : ACall P f args (.tuple [.own len esz cs, y]) []) : ACall P f args (.tuple [.ro len cs, y]) [] := by
 refine ⟨h.1, fun Z E vals X hh hr hn hz => ?_⟩
 refine (h.2 Z E vals X hh hr hn hz).mono ?_
 rintro e w' ⟨v, E', Xr, he, hw, hη, hev, hV, hB, hnd, hX⟩
 refine ⟨v, ⟨E'.η, E'.ρ, Z, E'.w⟩, [], he, hw, hη, hev, fun b => by simp, ?_, List.nodup_nil, fun b hb => absurd hb (List.not_mem_nil)⟩
 simp only [List.nil_append, RepBL] at hB ⊢
 obtain ⟨u, us, Y, Y', e1, e2, h1, h2, h3⟩ := hB
 refine ⟨u, us, [], [], e1, rfl, ?_, h2, rfl⟩
 simp only [RepB, RepBL] at h1 ⊢
 obtain ⟨vs, rfl, u1, us1, Y1, Y2, f1, f2, k1, u2, us2, Y3, Y4, f3, f4, k2, k3, k4⟩ := h1
 refine ⟨vs, rfl, u1, us1, [], [], f1, rfl, ?_, u2, us2, [], [], f3, rfl, ?_, k3, rfl⟩
 ·exact roOf_own (fun b hb => (hV b).2 (.inl hb)) (fun b hb => (hX b (by rw [e2, f2]; exact List.mem_append_left _ (List.mem_append_left _ hb))).1) k1
 ·rcases hy with ⟨k, n, rfl⟩ | ⟨b, rfl⟩
  ·simp only [RepB, pureV, RepV] at k2 ⊢
   exact ⟨trivial, k2.2.1, trivial⟩
  ·simp only [RepB, pureV, RepV] at k2 ⊢
   exact ⟨trivial, k2.2.1, trivial⟩
end
section
--KR
attribute [local irreducible] ifB fitP Does Weaker
def MK : FuncId → List Mode := orElse [(94, [.rd, .rd]), (75, [.rd, .rd]), (74, [.rd, .rd]), (37, [.rd, .rd]), (36, [.rd, .rd]), (35, [.rd, .rd]), (16, [.rd, .rd]), (15, [.rd, .rd]), (34, [.rd, .rd]),
 (66, [.rd]), (31, [.rd]), (30, [.rd]), (12, [.rd])] MW
def opEq (a b : Ent) : Bool := decide (a.kind = b.kind) && decide (a.key = b.key) && decide (a.val = b.val)
theorem kop_ok (a b : Ent) (ha : EntS a) : ACall Tryd.prog 94 [.agg (opC a), .agg (opC b)] (.bool (opEq a b)) [] := by
 have h := bytes_ok a.val b.val (by have := ha.val'; omega)
 unfold opEq
 refine ACall.of_does TTok Tryd.func94 rfl Tryd.call94 rfl (wpc_sound (M := MK) (PL := PL0) (CU := noCut) TTok mixed _ _ _ ?_)
 by_cases c1 : a.kind = b.kind
 ·rw [dt c1]
  by_cases c2 : a.key = b.key
  ·rw [dt c2]
   conv => whnf
   repeat ((first | refine ifB_t ?_ | (refine ifB_pos (decide_eq_true (by first | omega | rfl | (dsimp only; omega))) ?_) | refine ⟨pureL_bys _, ?_⟩ | refine ⟨rfl, ?_⟩ | refine ⟨_, rfl, ?_⟩); conv => whnf)
   refine ⟨_, _, h, by first | rfl | simp [noRoIf, noRoL, noRoV, noRoL_bys], ?_⟩
   conv => whnf
   repeat ((first | refine ifB_t ?_ | refine ⟨rfl, ?_⟩); conv => whnf)
   rfl
  ·rw [df c2]
   conv => whnf
   repeat ((first | refine ifB_t ?_ | refine ifB_f ?_ | (refine ifB_neg (decide_eq_false (by first | omega | rfl | (dsimp only; omega))) ?_) | (refine ifB_pos (decide_eq_true (by first | omega | rfl | (dsimp only; omega))) ?_) | refine ⟨rfl, ?_⟩ | refine ⟨_, rfl, ?_⟩); conv => whnf)
   rfl
 ·rw [df c1]
  conv => whnf
  repeat ((first | refine ifB_f ?_ | (refine ifB_neg (decide_eq_false (by first | omega | rfl | (dsimp only; omega))) ?_) | refine ⟨rfl, ?_⟩ | refine ⟨_, rfl, ?_⟩); conv => whnf)
  rfl
theorem ent_eq (a b : Ent) : decide (a = b) = (decide (a.au = b.au) && decide (a.seq = b.seq) && decide (a.prev = b.prev) && decide (a.stamp = b.stamp) && opEq a b && decide (a.sig = b.sig)) := by
 unfold opEq
 obtain ⟨a1, a2, a3, a4, a5, a6, a7, a8⟩ := a
 obtain ⟨b1, b2, b3, b4, b5, b6, b7, b8⟩ := b
 rw [Bool.eq_iff_iff]
 simp only [Bool.and_eq_true, decide_eq_true_eq, Ent.mk.injEq]
 constructor
 ·rintro ⟨rfl, rfl, rfl, rfl, rfl, rfl, rfl, rfl⟩; simp
 ·rintro ⟨⟨⟨⟨⟨rfl, rfl⟩, rfl⟩, rfl⟩, ⟨⟨rfl, rfl⟩, rfl⟩⟩, rfl⟩; simp
set_option maxRecDepth 20000 in
set_option maxHeartbeats 4000000 in
theorem kent_ok (a b : Ent) (ha : EntS a) (hb : EntS b) : ACall Tryd.prog 75 [.agg (entC a), .agg (entC b)] (.bool (decide (a = b))) [] := by
 have h := kop_ok a b ha
 rw [ent_eq]
 refine ACall.of_does TTok Tryd.func75 rfl Tryd.call75 rfl (wpc_sound (M := MK) (PL := PL0) (CU := cutAt [100001]) TTok mixed _ _ _ ?_)
 conv => whnf
 repeat ((refine ⟨rfl, ?_⟩); conv => whnf)
 refine Does.freeze 0 rfl (Does.freeze 1 (zs := entC b) (by show some (frzL 0 _ (entC b)) = _; rw [entC_frz]) (Does.tidy [(2, .rop (entC a)), (3, .rop (entC b))] [] 2 45 rfl rfl rfl (by kernel_rfl) (by kernel_rfl) ?_))
 refine wpc_sound (M := MK) (PL := PL0) (CU := noCut) TTok mixed _ _ _ ?_
 conv => whnf
 repeat ((refine ⟨_, rfl, ?_⟩); conv => whnf)
 refine ⟨a.au, b.au, ⟨rfl, c32_map ha.au.2, c32_map hb.au.2, ha.au.2, hb.au.2⟩, ?_⟩
 conv => whnf
 by_cases c1 : a.au = b.au
 ·rw [dt c1]
  conv => whnf
  repeat ((first | refine ifB_t ?_ | refine ⟨_, rfl, ?_⟩); conv => whnf)
  by_cases c2 : a.seq = b.seq
  ·rw [dt c2]
   conv => whnf
   repeat ((first | refine ifB_t ?_ | refine ⟨_, rfl, ?_⟩); conv => whnf)
   refine ⟨a.prev, b.prev, ⟨rfl, c32_map ha.prev.2, c32_map hb.prev.2, ha.prev.2, hb.prev.2⟩, ?_⟩
   conv => whnf
   repeat ((refine ifB_t ?_); conv => whnf)
   by_cases c3 : a.prev = b.prev
   ·rw [dt c3]
    conv => whnf
    repeat ((first | refine ifB_t ?_ | refine ⟨_, rfl, ?_⟩); conv => whnf)
    by_cases c4 : a.stamp = b.stamp
    ·rw [dt c4]
     conv => whnf
     repeat ((first | refine ifB_t ?_ | refine ⟨entC_pure _, ?_⟩ | refine ⟨rfl, ?_⟩ | refine ⟨_, rfl, ?_⟩); conv => whnf)
     cases c5 : opEq a b <;> rw [c5] at h
     ·refine ⟨_, _, h, by first | rfl | simp [noRoIf, noRoL, noRoV, noRoL_bys], ?_⟩
      conv => whnf
      repeat ((first | refine ifB_t ?_ | refine ifB_f ?_ | refine ⟨rfl, ?_⟩); conv => whnf)
      rfl
     ·refine ⟨_, _, h, by first | rfl | simp [noRoIf, noRoL, noRoV, noRoL_bys], ?_⟩
      conv => whnf
      repeat ((first | refine ifB_t ?_ | refine ⟨_, rfl, ?_⟩); conv => whnf)
      refine ⟨a.sig, b.sig, ⟨rfl, c64_map ha.sig.2, c64_map hb.sig.2, ha.sig.2, hb.sig.2⟩, ?_⟩
      conv => whnf
      repeat ((first | refine ifB_t ?_ | refine ⟨rfl, ?_⟩); conv => whnf)
      rfl
    ·rw [df c4]
     conv => whnf
     repeat ((first | refine ifB_f ?_ | refine ⟨rfl, ?_⟩); conv => whnf)
     rfl
   ·rw [df c3]
    conv => whnf
    repeat ((first | refine ifB_f ?_ | refine ⟨rfl, ?_⟩); conv => whnf)
    rfl
  ·rw [df c2]
   conv => whnf
   repeat ((first | refine ifB_f ?_ | refine ⟨rfl, ?_⟩); conv => whnf)
   rfl
 ·rw [df c1]
  conv => whnf
  repeat ((first | refine ifB_f ?_ | refine ⟨rfl, ?_⟩); conv => whnf)
  rfl
end
section
--KR
attribute [local irreducible] ifB fitP Does Weaker
set_option maxRecDepth 20000 in
set_option maxHeartbeats 4000000 in
theorem kprf_ok (a b : Prf) (ha : PrfS a) (hb : PrfS b) : ACall Tryd.prog 74 [.agg (prfC a), .agg (prfC b)] (.bool (decide (a = b))) [] := by
 have h1 := kent_ok a.a b.a ha.a hb.a
 have h2 := kent_ok a.b b.b ha.b hb.b
 have e : decide (a = b) = (decide (a.a = b.a) && decide (a.b = b.b)) := by
  obtain ⟨x, y⟩ := a
  obtain ⟨z, w⟩ := b
  rw [Bool.eq_iff_iff]
  simp
 rw [e]
 refine ACall.of_does TTok Tryd.func74 rfl Tryd.call74 rfl (wpc_sound (M := MK) (PL := PL0) (CU := cutAt [100001]) TTok mixed _ _ _ ?_)
 conv => whnf
 repeat ((refine ⟨rfl, ?_⟩); conv => whnf)
 refine Does.tidy [(2, .ptr 0 0), (3, .ptr 1 0)] [(0, prfC a), (1, prfC b)] 2 17 rfl rfl rfl (by kernel_rfl) (by kernel_rfl) ?_
 refine wpc_sound (M := MK) (PL := PL0) (CU := noCut) TTok mixed _ _ _ ?_
 by_cases c1 : a.a = b.a
 ·rw [dt c1] at h1 ⊢
  conv => whnf
  repeat ((first | refine ⟨entC_pure _, ?_⟩ | refine ⟨rfl, ?_⟩ | refine ⟨_, rfl, ?_⟩); conv => whnf)
  refine ⟨_, _, h1, by first | rfl | simp [noRoIf, noRoL, noRoV, noRoL_bys], ?_⟩
  conv => whnf
  repeat ((first | refine ifB_t ?_ | refine ⟨entC_pure _, ?_⟩ | refine ⟨rfl, ?_⟩ | refine ⟨_, rfl, ?_⟩); conv => whnf)
  refine ⟨_, _, h2, by first | rfl | simp [noRoIf, noRoL, noRoV, noRoL_bys], ?_⟩
  conv => whnf
  repeat ((first | refine ifB_t ?_ | refine ⟨rfl, ?_⟩); conv => whnf)
  rfl
 ·rw [df c1] at h1 ⊢
  conv => whnf
  repeat ((first | refine ⟨entC_pure _, ?_⟩ | refine ⟨rfl, ?_⟩ | refine ⟨_, rfl, ?_⟩); conv => whnf)
  refine ⟨_, _, h1, by first | rfl | simp [noRoIf, noRoL, noRoV, noRoL_bys], ?_⟩
  conv => whnf
  repeat ((first | refine ifB_f ?_ | refine ⟨rfl, ?_⟩); conv => whnf)
  rfl
theorem takeOk_row {α : Type} {f : α → List AV} {n : Nat} (hf : ∀ x, (f x).length = n) (hn : 0 < n) {l : List α} {j m : Nat} (h : j < l.length) (hm : m = n * j) {ops : Array Oper} {st : St} {dst : Option Tmp} {ty : TypeId} {pos : String} {af : Array Edge} {t : TypeId} {a : Operand} (he : evalO st.env a = .rop (List.drop m (rowsC f l))) : takeOk ops ⟨dst, .load t a, ty, pos, af, none⟩ st = true := by
 show roLoad st (.load t a) = true
 have hl : 0 < (List.drop m (rowsC f l)).length := by rw [rowsC_at hf h hm, List.length_append, hf]; omega
 simp only [roLoad, he]
 generalize List.drop m (rowsC f l) = cs at hl
 cases cs with
 | nil => simp at hl
 | cons x r => rfl
theorem list_all_eq {α : Type} [DecidableEq α] (d : α) {x y : List α} (hl : x.length = y.length) (h : ∀ j, j < x.length → x.getD j d = y.getD j d) : x = y := by
 refine List.ext_getElem hl fun j h1 h2 => ?_
 have := h j h1
 rwa [List.getD_eq_getElem?_getD, List.getD_eq_getElem?_getD, List.getElem?_eq_getElem h1, List.getElem?_eq_getElem h2] at this
def PLkl : Nat → Bool × Plan := plans [(6, (false, takesTo [0, 1, 2, 3, 4, 5, 6, 7] (.all [(8, takes [9])])))]
set_option maxHeartbeats 1000000 in
theorem kents_ok (x y : List Ent) (hx : ∀ e ∈ x, EntS e) (hy : ∀ e ∈ y, EntS e) (lx : x.length ≤ 1000000000) (ly : y.length ≤ 1000000000) : ACall Tryd.prog 37 [.ro x.length (rowsC entC x), .ro y.length (rowsC entC y)] (.bool (decide (x = y))) [] := by
 refine ACall.of_does TTok Tryd.func37 rfl Tryd.call37 rfl (wpc_sound (M := MK) (PL := PLkl) (CU := noCut) TTok mixed _ _ _ ?_)
 by_cases c0 : x.length = y.length
 case neg =>
  rw [df (show ¬ x = y from fun e => c0 (by rw [e]))]
  conv => whnf
  repeat ((first | (refine ifB_pos (decide_eq_true (by first | omega | rfl | (dsimp only; omega))) ?_) | refine ⟨rfl, ?_⟩); conv => whnf)
  rfl
 conv => whnf
 repeat ((refine ifB_neg (decide_eq_false (by first | omega | rfl | (dsimp only; omega))) ?_); conv => whnf)
 refine Does.loop (fun c : Nat => mkSt [(0, .ro x.length (rowsC entC x)), (1, .ro y.length (rowsC entC y)), (5, .int .i64 c)] [] 0 27)
  (fun c => c ≤ x.length ∧ ∀ j, j < c → x.getD j ent0 = y.getD j ent0) (fun c => x.length - c) ?_ 0 ⟨Nat.zero_le _, fun j h => by omega⟩ ?_
 ·rintro c ⟨hc, hj⟩
  rcases Nat.lt_or_ge c x.length with c1 | c1
  ·have c2 : c < y.length := by omega
   have h := kent_ok x[c] y[c] (hx _ (List.getElem_mem c1)) (hy _ (List.getElem_mem c2))
   have hd : x.getD c ent0 = x[c] ∧ y.getD c ent0 = y[c] := by
    rw [List.getD_eq_getElem?_getD, List.getD_eq_getElem?_getD, List.getElem?_eq_getElem c1, List.getElem?_eq_getElem c2]; exact ⟨rfl, rfl⟩
   refine wpc_sound (M := MK) (PL := PLkl) (CU := noCut) TTok mixed _ _ _ ?_
   conv => whnf
   repeat ((refine ifB_pos (decide_eq_true (by first | omega | rfl | (dsimp only; omega))) ?_); conv => whnf)
   refine ⟨by kernel_rfl, ?_⟩
   conv => whnf
   repeat ((refine ⟨⟨?_, ?_, ?_⟩, ?_⟩; (focus omega); (focus (first | omega | (simp; done) | (simp; omega))); (focus (first | (rw [prfs_len]; simp; omega) | (rw [ents_len]; simp; omega) | (rw [hds_len]; simp; omega) | (rw [lets_len]; simp; omega)))); conv => whnf)
   conv => whnf
   repeat' (first | (refine ⟨entC_pure _, ?_⟩; (conv => whnf)) | (refine ⟨rfl, ?_⟩; (conv => whnf)) | (refine ⟨⟨?_, ?_, ?_⟩, ?_⟩; (focus omega); (focus (first | omega | (simp; done) | (simp; omega))); (focus (first | (rw [prfs_len]; simp; omega) | (rw [ents_len]; simp; omega) | (rw [hds_len]; simp; omega) | (rw [lets_len]; simp; omega))); (conv => whnf)) | (refine ⟨_, takeN_row entC_length c1 (by simp; omega) rfl, ?_⟩; conv => whnf) | (refine ⟨_, takeN_row entC_length c2 (by simp; omega) rfl, ?_⟩; conv => whnf) | (refine ⟨takeOk_row entC_length (by decide) c1 (by simp; omega) rfl, ?_⟩; conv => whnf) | (refine ⟨takeOk_row entC_length (by decide) c2 (by simp; omega) rfl, ?_⟩; conv => whnf) | (refine ⟨entC_pure _, ?_⟩; conv => whnf) | (refine ⟨_, rfl, ?_⟩; conv => whnf) | (refine And.intro ?_ ?_ <;> conv => whnf))
   by_cases c3 : x[c] = y[c]
   ·rw [dt c3] at h
    refine ⟨_, _, h, by first | rfl | simp [noRoIf, noRoL, noRoV, noRoL_bys], ?_⟩
    conv => whnf
    repeat ((first | refine ifB_f ?_ | (refine fit_i64 ⟨by first | omega | rfl | (dsimp only; omega), by first | omega | rfl | (dsimp only; omega)⟩ ?_)); conv => whnf)
    refine ⟨c + 1, ⟨by omega, fun j hj' => ?_⟩, by omega, weaker_of [] rfl rfl ⟨⟨rfl, rfl, ents_pure _⟩, ⟨rfl, rfl, ents_pure _⟩, ⟨rfl, rfl⟩, trivial⟩ trivial⟩
    rcases Nat.lt_or_ge j c with k | k
    ·exact hj j k
    ·obtain rfl : j = c := by omega
     rw [hd.1, hd.2, c3]
   ·rw [df c3] at h
    have : x ≠ y := fun e => by subst e; exact c3 rfl
    rw [df this]
    refine ⟨_, _, h, by first | rfl | simp [noRoIf, noRoL, noRoV, noRoL_bys], ?_⟩
    conv => whnf
    repeat ((first | refine ifB_t ?_ | refine ⟨rfl, ?_⟩); conv => whnf)
    rfl
  ·obtain rfl : c = x.length := by omega
   rw [dt (list_all_eq ent0 c0 hj)]
   refine wpc_sound (M := MK) (PL := PLkl) (CU := noCut) TTok mixed _ _ _ ?_
   conv => whnf
   repeat ((first | (refine ifB_neg (decide_eq_false (by first | omega | rfl | (dsimp only; omega))) ?_) | refine ⟨rfl, ?_⟩); conv => whnf)
   rfl
 ·exact weaker_of [] rfl rfl ⟨⟨rfl, rfl, ents_pure _⟩, ⟨rfl, rfl, ents_pure _⟩, ⟨rfl, rfl⟩, trivial⟩ trivial
set_option maxRecDepth 20000 in
set_option maxHeartbeats 2000000 in
theorem kprfs_ok (x y : List Prf) (hx : ∀ e ∈ x, PrfS e) (hy : ∀ e ∈ y, PrfS e) (lx : x.length ≤ 1000000000) (ly : y.length ≤ 1000000000) : ACall Tryd.prog 36 [.ro x.length (rowsC prfC x), .ro y.length (rowsC prfC y)] (.bool (decide (x = y))) [] := by
 refine ACall.of_does TTok Tryd.func36 rfl Tryd.call36 rfl (wpc_sound (M := MK) (PL := PLkl) (CU := noCut) TTok mixed _ _ _ ?_)
 by_cases c0 : x.length = y.length
 case neg =>
  rw [df (show ¬ x = y from fun e => c0 (by rw [e]))]
  conv => whnf
  repeat ((first | (refine ifB_pos (decide_eq_true (by first | omega | rfl | (dsimp only; omega))) ?_) | refine ⟨rfl, ?_⟩); conv => whnf)
  rfl
 conv => whnf
 repeat ((refine ifB_neg (decide_eq_false (by first | omega | rfl | (dsimp only; omega))) ?_); conv => whnf)
 refine Does.loop (fun c : Nat => mkSt [(0, .ro x.length (rowsC prfC x)), (1, .ro y.length (rowsC prfC y)), (5, .int .i64 c)] [] 0 27)
  (fun c => c ≤ x.length ∧ ∀ j, j < c → x.getD j prf0 = y.getD j prf0) (fun c => x.length - c) ?_ 0 ⟨Nat.zero_le _, fun j h => by omega⟩ ?_
 ·rintro c ⟨hc, hj⟩
  rcases Nat.lt_or_ge c x.length with c1 | c1
  ·have c2 : c < y.length := by omega
   have h := kprf_ok x[c] y[c] (hx _ (List.getElem_mem c1)) (hy _ (List.getElem_mem c2))
   have hd : x.getD c prf0 = x[c] ∧ y.getD c prf0 = y[c] := by
    rw [List.getD_eq_getElem?_getD, List.getD_eq_getElem?_getD, List.getElem?_eq_getElem c1, List.getElem?_eq_getElem c2]; exact ⟨rfl, rfl⟩
   refine wpc_sound (M := MK) (PL := PLkl) (CU := noCut) TTok mixed _ _ _ ?_
   conv => whnf
   repeat ((refine ifB_pos (decide_eq_true (by first | omega | rfl | (dsimp only; omega))) ?_); conv => whnf)
   refine ⟨by kernel_rfl, ?_⟩
   conv => whnf
   repeat ((refine ⟨⟨?_, ?_, ?_⟩, ?_⟩; (focus omega); (focus (first | omega | (simp; done) | (simp; omega))); (focus (first | (rw [prfs_len]; simp; omega) | (rw [ents_len]; simp; omega) | (rw [hds_len]; simp; omega) | (rw [lets_len]; simp; omega)))); conv => whnf)
   conv => whnf
   repeat' (first | (refine ⟨rfl, ?_⟩; (conv => whnf)) | (refine ⟨⟨?_, ?_, ?_⟩, ?_⟩; (focus omega); (focus (first | omega | (simp; done) | (simp; omega))); (focus (first | (rw [prfs_len]; simp; omega) | (rw [ents_len]; simp; omega) | (rw [hds_len]; simp; omega) | (rw [lets_len]; simp; omega))); (conv => whnf)) | (refine ⟨(show pureL _ = true from by first | exact prfC_pure _ | exact hdC_pure _ | exact msgC_pure _ | exact letC_pure _), ?_⟩; (conv => whnf)) | (refine ⟨_, takeN_row prfC_length c1 (by simp; omega) rfl, ?_⟩; conv => whnf) | (refine ⟨_, takeN_row prfC_length c2 (by simp; omega) rfl, ?_⟩; conv => whnf) | (refine ⟨takeOk_row prfC_length (by decide) c1 (by simp; omega) rfl, ?_⟩; conv => whnf) | (refine ⟨takeOk_row prfC_length (by decide) c2 (by simp; omega) rfl, ?_⟩; conv => whnf) | (refine ⟨prfC_pure _, ?_⟩; conv => whnf) | (refine ⟨_, rfl, ?_⟩; conv => whnf) | (refine And.intro ?_ ?_ <;> conv => whnf))
   by_cases c3 : x[c] = y[c]
   ·rw [dt c3] at h
    refine ⟨_, _, h, by first | rfl | simp [noRoIf, noRoL, noRoV, noRoL_bys], ?_⟩
    conv => whnf
    repeat ((first | refine ifB_f ?_ | (refine fit_i64 ⟨by first | omega | rfl | (dsimp only; omega), by first | omega | rfl | (dsimp only; omega)⟩ ?_)); conv => whnf)
    refine ⟨c + 1, ⟨by omega, fun j hj' => ?_⟩, by omega, weaker_of [] rfl rfl ⟨⟨rfl, rfl, prfs_pure _⟩, ⟨rfl, rfl, prfs_pure _⟩, ⟨rfl, rfl⟩, trivial⟩ trivial⟩
    rcases Nat.lt_or_ge j c with k | k
    ·exact hj j k
    ·obtain rfl : j = c := by omega
     rw [hd.1, hd.2, c3]
   ·rw [df c3] at h
    have : x ≠ y := fun e => by subst e; exact c3 rfl
    rw [df this]
    refine ⟨_, _, h, by first | rfl | simp [noRoIf, noRoL, noRoV, noRoL_bys], ?_⟩
    conv => whnf
    repeat ((first | refine ifB_t ?_ | refine ⟨rfl, ?_⟩); conv => whnf)
    rfl
  ·obtain rfl : c = x.length := by omega
   rw [dt (list_all_eq prf0 c0 hj)]
   refine wpc_sound (M := MK) (PL := PLkl) (CU := noCut) TTok mixed _ _ _ ?_
   conv => whnf
   repeat ((first | (refine ifB_neg (decide_eq_false (by first | omega | rfl | (dsimp only; omega))) ?_) | refine ⟨rfl, ?_⟩); conv => whnf)
   rfl
 ·exact weaker_of [] rfl rfl ⟨⟨rfl, rfl, prfs_pure _⟩, ⟨rfl, rfl, prfs_pure _⟩, ⟨rfl, rfl⟩, trivial⟩ trivial
end
section
--KR
attribute [local irreducible] ifB fitP Does Weaker
theorem hd_id {l : List Hd} {j m s : Nat} (h : j < l.length) (hm : m = 66 * j) (hs : s = 32) : takeN s (List.drop 33 (List.drop m (rowsC hdC l))) = some (c32 l[j].id []) := by
 rw [rowsC_at hdC_length h hm, hs]; rfl
theorem hd_len {l : List Hd} {j m : Nat} (h : j < l.length) (hm : m = 66 * j) : (List.drop 32 (List.drop m (rowsC hdC l)))[0]? = some (.int .i64 l[j].len) := by
 rw [rowsC_at hdC_length h hm]; rfl
theorem hd_shut {l : List Hd} {j m : Nat} (h : j < l.length) (hm : m = 66 * j) : (List.drop 65 (List.drop m (rowsC hdC l)))[0]? = some (.bool l[j].shut) := by
 rw [rowsC_at hdC_length h hm]; rfl
theorem hd_eq (a b : Hd) : decide (a = b) = (decide (a.au = b.au) && decide (a.len = b.len) && decide (a.id = b.id) && (a.shut == b.shut)) := by
 obtain ⟨a1, a2, a3, a4⟩ := a
 obtain ⟨b1, b2, b3, b4⟩ := b
 rw [Bool.eq_iff_iff]
 simp [and_assoc]
def PLkh : Nat → Bool × Plan := plans [(6, (true, takes [0, 1, 2, 3, 4, 5, 6, 7, 8, 9, 10, 11, 12, 13, 14, 15, 16, 17, 18, 19, 20, 21, 22, 23, 24, 25, 26, 27, 28, 29, 30, 31, 32, 33, 34, 35, 36, 37, 38, 39, 40, 41, 42, 43, 44, 45, 46, 47, 48, 49]))]
set_option maxHeartbeats 4000000 in
theorem kheads_ok (x y : List Hd) (hx : ∀ e ∈ x, HdS e) (hy : ∀ e ∈ y, HdS e) (lx : x.length ≤ 1000000000) (ly : y.length ≤ 1000000000) : ACall Tryd.prog 35 [.ro x.length (rowsC hdC x), .ro y.length (rowsC hdC y)] (.bool (decide (x = y))) [] := by
 refine ACall.of_does TTok Tryd.func35 rfl Tryd.call35 rfl (wpc_sound (M := MK) (PL := PLkh) (CU := noCut) TTok mixed _ _ _ ?_)
 by_cases c0 : x.length = y.length
 case neg =>
  rw [df (show ¬ x = y from fun e => c0 (by rw [e]))]
  conv => whnf
  repeat ((first | (refine ifB_pos (decide_eq_true (by first | omega | rfl | (dsimp only; omega))) ?_) | refine ⟨rfl, ?_⟩); conv => whnf)
  rfl
 conv => whnf
 repeat ((refine ifB_neg (decide_eq_false (by first | omega | rfl | (dsimp only; omega))) ?_); conv => whnf)
 refine Does.loop (fun c : Nat => mkSt [(0, .ro x.length (rowsC hdC x)), (1, .ro y.length (rowsC hdC y)), (5, .int .i64 c)] [] 0 67)
  (fun c => c ≤ x.length ∧ ∀ j, j < c → x.getD j hd0 = y.getD j hd0) (fun c => x.length - c) ?_ 0 ⟨Nat.zero_le _, fun j h => by omega⟩ ?_
 ·rintro c ⟨hc, hj⟩
  rcases Nat.lt_or_ge c x.length with c1 | c1
  ·have c2 : c < y.length := by omega
   have hd : x.getD c hd0 = x[c] ∧ y.getD c hd0 = y[c] := by
    rw [List.getD_eq_getElem?_getD, List.getD_eq_getElem?_getD, List.getElem?_eq_getElem c1, List.getElem?_eq_getElem c2]; exact ⟨rfl, rfl⟩
   have e := hd_eq x[c] y[c]
   have hx1 := hx _ (List.getElem_mem c1)
   have hy1 := hy _ (List.getElem_mem c2)
   have g1 : ∀ m, m = 66 * c → takeN 32 (List.drop 0 (List.drop m (rowsC hdC x))) = some (c32 x[c].au []) := fun m hm => hd_au c1 hm rfl
   have g2 : ∀ m, m = 66 * c → takeN 32 (List.drop 0 (List.drop m (rowsC hdC y))) = some (c32 y[c].au []) := fun m hm => hd_au c2 hm rfl
   have g3 : ∀ m, m = 66 * c → (List.drop 32 (List.drop m (rowsC hdC x)))[0]? = some (.int .i64 x[c].len) := fun m hm => hd_len c1 hm
   have g4 : ∀ m, m = 66 * c → (List.drop 32 (List.drop m (rowsC hdC y)))[0]? = some (.int .i64 y[c].len) := fun m hm => hd_len c2 hm
   have g5 : ∀ m, m = 66 * c → takeN 32 (List.drop 33 (List.drop m (rowsC hdC x))) = some (c32 x[c].id []) := fun m hm => hd_id c1 hm rfl
   have g6 : ∀ m, m = 66 * c → takeN 32 (List.drop 33 (List.drop m (rowsC hdC y))) = some (c32 y[c].id []) := fun m hm => hd_id c2 hm rfl
   have g7 : ∀ m, m = 66 * c → (List.drop 65 (List.drop m (rowsC hdC x)))[0]? = some (.bool x[c].shut) := fun m hm => hd_shut c1 hm
   have g8 : ∀ m, m = 66 * c → (List.drop 65 (List.drop m (rowsC hdC y)))[0]? = some (.bool y[c].shut) := fun m hm => hd_shut c2 hm
   have no : x[c] ≠ y[c] → decide (x = y) = false := fun h => df (fun e => by subst e; exact h rfl)
   have yes : x[c] = y[c] → ∀ j, j < c + 1 → x.getD j hd0 = y.getD j hd0 := fun h j hj' => by
    rcases Nat.lt_or_ge j c with k | k
    ·exact hj j k
    ·obtain rfl : j = c := by omega
     rw [hd.1, hd.2, h]
   generalize x[c] = p at *
   generalize y[c] = q at *
   refine wpc_sound (M := MK) (PL := PLkh) (CU := noCut) TTok mixed _ _ _ ?_
   conv => whnf
   repeat ((refine ifB_pos (decide_eq_true (by first | omega | rfl | (dsimp only; omega))) ?_); conv => whnf)
   refine ⟨by kernel_rfl, ?_⟩
   conv => whnf
   repeat' (first | (refine ⟨⟨?_, ?_, ?_⟩, ?_⟩; (focus omega); (focus (first | omega | (simp; done) | (simp; omega))); (focus (first | (rw [prfs_len]; simp; omega) | (rw [ents_len]; simp; omega) | (rw [hds_len]; simp; omega) | (rw [lets_len]; simp; omega))); (conv => whnf)) | (refine ⟨_, g1 _ (by simp; omega), ?_⟩; conv => whnf) | (refine ⟨_, g2 _ (by simp; omega), ?_⟩; conv => whnf) | (refine ⟨_, g3 _ (by simp; omega), ?_⟩; conv => whnf) | (refine ⟨_, g4 _ (by simp; omega), ?_⟩; conv => whnf) | (refine ⟨_, g5 _ (by simp; omega), ?_⟩; conv => whnf) | (refine ⟨_, g6 _ (by simp; omega), ?_⟩; conv => whnf) | (refine ⟨_, g7 _ (by simp; omega), ?_⟩; conv => whnf) | (refine ⟨_, g8 _ (by simp; omega), ?_⟩; conv => whnf) | (refine ⟨⟨by omega, by omega, by rw [hds_len]; simp; omega⟩, ?_⟩; conv => whnf) | (refine ⟨_, rfl, ?_⟩; conv => whnf) | (refine And.intro ?_ ?_ <;> conv => whnf))
   refine ⟨p.au, q.au, ⟨rfl, c32_map hx1.au.2, c32_map hy1.au.2, hx1.au.2, hy1.au.2⟩, ?_⟩
   conv => whnf
   by_cases d1 : p.au = q.au
   ·rw [dt d1] at e ⊢
    conv => whnf
    repeat ((first | refine ifB_f ?_ | (refine ⟨⟨?_, ?_, ?_⟩, ?_⟩; (focus omega); (focus (first | omega | (simp; done) | (simp; omega))); (focus (first | (rw [prfs_len]; simp; omega) | (rw [ents_len]; simp; omega) | (rw [hds_len]; simp; omega) | (rw [lets_len]; simp; omega))))); conv => whnf)
    conv => whnf
    repeat' (first | (refine ifB_f ?_; (conv => whnf)) | (refine ⟨⟨?_, ?_, ?_⟩, ?_⟩; (focus omega); (focus (first | omega | (simp; done) | (simp; omega))); (focus (first | (rw [prfs_len]; simp; omega) | (rw [ents_len]; simp; omega) | (rw [hds_len]; simp; omega) | (rw [lets_len]; simp; omega))); (conv => whnf)) | (refine ⟨_, g1 _ (by simp; omega), ?_⟩; conv => whnf) | (refine ⟨_, g2 _ (by simp; omega), ?_⟩; conv => whnf) | (refine ⟨_, g3 _ (by simp; omega), ?_⟩; conv => whnf) | (refine ⟨_, g4 _ (by simp; omega), ?_⟩; conv => whnf) | (refine ⟨_, g5 _ (by simp; omega), ?_⟩; conv => whnf) | (refine ⟨_, g6 _ (by simp; omega), ?_⟩; conv => whnf) | (refine ⟨_, g7 _ (by simp; omega), ?_⟩; conv => whnf) | (refine ⟨_, g8 _ (by simp; omega), ?_⟩; conv => whnf) | (refine ⟨⟨by omega, by omega, by rw [hds_len]; simp; omega⟩, ?_⟩; conv => whnf) | (refine ⟨_, rfl, ?_⟩; conv => whnf) | (refine And.intro ?_ ?_ <;> conv => whnf))
    by_cases d2 : p.len = q.len
    ·rw [dt d2] at e
     conv => whnf
     repeat ((first | refine ifB_f ?_ | (refine ifB_neg (decide_eq_false (by first | omega | rfl | (dsimp only; omega))) ?_) | (refine ⟨⟨?_, ?_, ?_⟩, ?_⟩; (focus omega); (focus (first | omega | (simp; done) | (simp; omega))); (focus (first | (rw [prfs_len]; simp; omega) | (rw [ents_len]; simp; omega) | (rw [hds_len]; simp; omega) | (rw [lets_len]; simp; omega))))); conv => whnf)
     conv => whnf
     repeat' (first | (refine ifB_f ?_; (conv => whnf)) | (refine ⟨⟨?_, ?_, ?_⟩, ?_⟩; (focus omega); (focus (first | omega | (simp; done) | (simp; omega))); (focus (first | (rw [prfs_len]; simp; omega) | (rw [ents_len]; simp; omega) | (rw [hds_len]; simp; omega) | (rw [lets_len]; simp; omega))); (conv => whnf)) | (refine ⟨_, g1 _ (by simp; omega), ?_⟩; conv => whnf) | (refine ⟨_, g2 _ (by simp; omega), ?_⟩; conv => whnf) | (refine ⟨_, g3 _ (by simp; omega), ?_⟩; conv => whnf) | (refine ⟨_, g4 _ (by simp; omega), ?_⟩; conv => whnf) | (refine ⟨_, g5 _ (by simp; omega), ?_⟩; conv => whnf) | (refine ⟨_, g6 _ (by simp; omega), ?_⟩; conv => whnf) | (refine ⟨_, g7 _ (by simp; omega), ?_⟩; conv => whnf) | (refine ⟨_, g8 _ (by simp; omega), ?_⟩; conv => whnf) | (refine ⟨⟨by omega, by omega, by rw [hds_len]; simp; omega⟩, ?_⟩; conv => whnf) | (refine ⟨_, rfl, ?_⟩; conv => whnf) | (refine And.intro ?_ ?_ <;> conv => whnf))
     refine ⟨p.id, q.id, ⟨rfl, c32_map hx1.id.2, c32_map hy1.id.2, hx1.id.2, hy1.id.2⟩, ?_⟩
     conv => whnf
     repeat ((refine ifB_f ?_); conv => whnf)
     by_cases d3 : p.id = q.id
     ·rw [dt d3] at e ⊢
      conv => whnf
      repeat ((first | refine ifB_f ?_ | (refine ⟨⟨?_, ?_, ?_⟩, ?_⟩; (focus omega); (focus (first | omega | (simp; done) | (simp; omega))); (focus (first | (rw [prfs_len]; simp; omega) | (rw [ents_len]; simp; omega) | (rw [hds_len]; simp; omega) | (rw [lets_len]; simp; omega))))); conv => whnf)
      conv => whnf
      repeat' (first | (refine ifB_f ?_; (conv => whnf)) | (refine ⟨⟨?_, ?_, ?_⟩, ?_⟩; (focus omega); (focus (first | omega | (simp; done) | (simp; omega))); (focus (first | (rw [prfs_len]; simp; omega) | (rw [ents_len]; simp; omega) | (rw [hds_len]; simp; omega) | (rw [lets_len]; simp; omega))); (conv => whnf)) | (refine ⟨_, g1 _ (by simp; omega), ?_⟩; conv => whnf) | (refine ⟨_, g2 _ (by simp; omega), ?_⟩; conv => whnf) | (refine ⟨_, g3 _ (by simp; omega), ?_⟩; conv => whnf) | (refine ⟨_, g4 _ (by simp; omega), ?_⟩; conv => whnf) | (refine ⟨_, g5 _ (by simp; omega), ?_⟩; conv => whnf) | (refine ⟨_, g6 _ (by simp; omega), ?_⟩; conv => whnf) | (refine ⟨_, g7 _ (by simp; omega), ?_⟩; conv => whnf) | (refine ⟨_, g8 _ (by simp; omega), ?_⟩; conv => whnf) | (refine ⟨⟨by omega, by omega, by rw [hds_len]; simp; omega⟩, ?_⟩; conv => whnf) | (refine ⟨_, rfl, ?_⟩; conv => whnf) | (refine And.intro ?_ ?_ <;> conv => whnf))
      cases d4 : p.shut == q.shut
      ·rw [d4] at e
       conv => whnf
       repeat' (first | (refine ifB_t ?_; (conv => whnf)) | (refine ⟨_, g1 _ (by simp; omega), ?_⟩; conv => whnf) | (refine ⟨_, g2 _ (by simp; omega), ?_⟩; conv => whnf) | (refine ⟨_, g3 _ (by simp; omega), ?_⟩; conv => whnf) | (refine ⟨_, g4 _ (by simp; omega), ?_⟩; conv => whnf) | (refine ⟨_, g5 _ (by simp; omega), ?_⟩; conv => whnf) | (refine ⟨_, g6 _ (by simp; omega), ?_⟩; conv => whnf) | (refine ⟨_, g7 _ (by simp; omega), ?_⟩; conv => whnf) | (refine ⟨_, g8 _ (by simp; omega), ?_⟩; conv => whnf) | (refine ⟨⟨by omega, by omega, by rw [hds_len]; simp; omega⟩, ?_⟩; conv => whnf) | (rw [no (fun h => by rw [h] at e; simp at e)]; exact ⟨rfl, rfl⟩) | (rw [no (of_decide_eq_false e)]; exact ⟨rfl, rfl⟩) | (rw [no (of_decide_eq_false e)]; rfl) | (refine ⟨_, rfl, ?_⟩; conv => whnf) | (refine And.intro ?_ ?_ <;> conv => whnf))
      ·rw [d4] at e
       conv => whnf
       repeat' (first | (refine ifB_f ?_; (conv => whnf)) | (refine fit_i64 ⟨by first | omega | rfl | (dsimp only; omega), by first | omega | rfl | (dsimp only; omega)⟩ ?_; (conv => whnf)) | (refine ⟨_, g1 _ (by simp; omega), ?_⟩; conv => whnf) | (refine ⟨_, g2 _ (by simp; omega), ?_⟩; conv => whnf) | (refine ⟨_, g3 _ (by simp; omega), ?_⟩; conv => whnf) | (refine ⟨_, g4 _ (by simp; omega), ?_⟩; conv => whnf) | (refine ⟨_, g5 _ (by simp; omega), ?_⟩; conv => whnf) | (refine ⟨_, g6 _ (by simp; omega), ?_⟩; conv => whnf) | (refine ⟨_, g7 _ (by simp; omega), ?_⟩; conv => whnf) | (refine ⟨_, g8 _ (by simp; omega), ?_⟩; conv => whnf) | (refine ⟨⟨by omega, by omega, by rw [hds_len]; simp; omega⟩, ?_⟩; conv => whnf) | (exact ⟨c + 1, ⟨by omega, yes (of_decide_eq_true e)⟩, by omega, weaker_of [] rfl rfl ⟨⟨rfl, rfl, hds_pure _⟩, ⟨rfl, rfl, hds_pure _⟩, ⟨rfl, rfl⟩, trivial⟩ trivial⟩) | (refine ⟨_, rfl, ?_⟩; conv => whnf) | (refine And.intro ?_ ?_ <;> conv => whnf))
     ·rw [df d3] at e ⊢
      conv => whnf
      repeat ((refine ifB_t ?_); conv => whnf)
      conv => whnf
      repeat' (first | (refine ⟨_, g1 _ (by simp; omega), ?_⟩; conv => whnf) | (refine ⟨_, g2 _ (by simp; omega), ?_⟩; conv => whnf) | (refine ⟨_, g3 _ (by simp; omega), ?_⟩; conv => whnf) | (refine ⟨_, g4 _ (by simp; omega), ?_⟩; conv => whnf) | (refine ⟨_, g5 _ (by simp; omega), ?_⟩; conv => whnf) | (refine ⟨_, g6 _ (by simp; omega), ?_⟩; conv => whnf) | (refine ⟨_, g7 _ (by simp; omega), ?_⟩; conv => whnf) | (refine ⟨_, g8 _ (by simp; omega), ?_⟩; conv => whnf) | (refine ⟨⟨by omega, by omega, by rw [hds_len]; simp; omega⟩, ?_⟩; conv => whnf) | (rw [no (fun h => by rw [h] at e; simp at e)]; exact ⟨rfl, rfl⟩) | (rw [no (of_decide_eq_false e)]; exact ⟨rfl, rfl⟩) | (rw [no (of_decide_eq_false e)]; rfl) | (refine ⟨_, rfl, ?_⟩; conv => whnf) | (refine And.intro ?_ ?_ <;> conv => whnf))
    ·rw [df d2] at e
     conv => whnf
     repeat ((first | refine ifB_t ?_ | (refine ifB_pos (decide_eq_true (by first | omega | rfl | (dsimp only; omega))) ?_)); conv => whnf)
     conv => whnf
     repeat' (first | (refine ⟨_, g1 _ (by simp; omega), ?_⟩; conv => whnf) | (refine ⟨_, g2 _ (by simp; omega), ?_⟩; conv => whnf) | (refine ⟨_, g3 _ (by simp; omega), ?_⟩; conv => whnf) | (refine ⟨_, g4 _ (by simp; omega), ?_⟩; conv => whnf) | (refine ⟨_, g5 _ (by simp; omega), ?_⟩; conv => whnf) | (refine ⟨_, g6 _ (by simp; omega), ?_⟩; conv => whnf) | (refine ⟨_, g7 _ (by simp; omega), ?_⟩; conv => whnf) | (refine ⟨_, g8 _ (by simp; omega), ?_⟩; conv => whnf) | (refine ⟨⟨by omega, by omega, by rw [hds_len]; simp; omega⟩, ?_⟩; conv => whnf) | (rw [no (fun h => by rw [h] at e; simp at e)]; exact ⟨rfl, rfl⟩) | (rw [no (of_decide_eq_false e)]; exact ⟨rfl, rfl⟩) | (rw [no (of_decide_eq_false e)]; rfl) | (refine ⟨_, rfl, ?_⟩; conv => whnf) | (refine And.intro ?_ ?_ <;> conv => whnf))
   ·rw [df d1] at e ⊢
    conv => whnf
    repeat ((refine ifB_t ?_); conv => whnf)
    conv => whnf
    repeat' (first | (refine ⟨_, g1 _ (by simp; omega), ?_⟩; conv => whnf) | (refine ⟨_, g2 _ (by simp; omega), ?_⟩; conv => whnf) | (refine ⟨_, g3 _ (by simp; omega), ?_⟩; conv => whnf) | (refine ⟨_, g4 _ (by simp; omega), ?_⟩; conv => whnf) | (refine ⟨_, g5 _ (by simp; omega), ?_⟩; conv => whnf) | (refine ⟨_, g6 _ (by simp; omega), ?_⟩; conv => whnf) | (refine ⟨_, g7 _ (by simp; omega), ?_⟩; conv => whnf) | (refine ⟨_, g8 _ (by simp; omega), ?_⟩; conv => whnf) | (refine ⟨⟨by omega, by omega, by rw [hds_len]; simp; omega⟩, ?_⟩; conv => whnf) | (rw [no (fun h => by rw [h] at e; simp at e)]; exact ⟨rfl, rfl⟩) | (rw [no (of_decide_eq_false e)]; exact ⟨rfl, rfl⟩) | (rw [no (of_decide_eq_false e)]; rfl) | (refine ⟨_, rfl, ?_⟩; conv => whnf) | (refine And.intro ?_ ?_ <;> conv => whnf))
  ·obtain rfl : c = x.length := by omega
   rw [dt (list_all_eq hd0 c0 hj)]
   refine wpc_sound (M := MK) (PL := PLkh) (CU := noCut) TTok mixed _ _ _ ?_
   conv => whnf
   repeat ((first | (refine ifB_neg (decide_eq_false (by first | omega | rfl | (dsimp only; omega))) ?_) | refine ⟨rfl, ?_⟩); conv => whnf)
   rfl
 ·exact weaker_of [] rfl rfl ⟨⟨rfl, rfl, hds_pure _⟩, ⟨rfl, rfl, hds_pure _⟩, ⟨rfl, rfl⟩, trivial⟩ trivial
end
section
--KR
attribute [local irreducible] ifB fitP Does Weaker
theorem msg_eq (a b : Msg) : decide (a = b) = (decide (a.kind = b.kind) && decide (a.frm = b.frm) && decide (a.to = b.to) && decide (a.hs = b.hs) && decide (a.ps = b.ps) && decide (a.es = b.es)) := by
 obtain ⟨a1, a2, a3, a4, a5, a6⟩ := a
 obtain ⟨b1, b2, b3, b4, b5, b6⟩ := b
 rw [Bool.eq_iff_iff]
 simp [and_assoc]
set_option maxHeartbeats 2000000 in
theorem kmsg_ok (a b : Msg) (ha : MsgS a) (hb : MsgS b) : ACall Tryd.prog 16 [.agg (msgC a), .agg (msgC b)] (.bool (decide (a = b))) [] := by
 have h1 := kheads_ok a.hs b.hs ha.hs hb.hs ha.hl hb.hl
 have h2 := kprfs_ok a.ps b.ps ha.ps hb.ps ha.pl hb.pl
 have h3 := kents_ok a.es b.es ha.es hb.es ha.el hb.el
 rw [msg_eq]
 refine ACall.of_does TTok Tryd.func16 rfl Tryd.call16 rfl (wpc_sound (M := MK) (PL := PL0) (CU := noCut) TTok mixed _ _ _ ?_)
 by_cases c1 : a.kind = b.kind
 ·rw [dt c1]
  by_cases c2 : a.frm = b.frm
  ·rw [dt c2]
   by_cases c3 : a.to = b.to
   ·rw [dt c3]
    cases c4 : decide (a.hs = b.hs) <;> rw [c4] at h1
    ·conv => whnf
     repeat ((first | refine ifB_t ?_ | (refine ifB_pos (decide_eq_true (by first | omega | rfl | (dsimp only; omega))) ?_) | refine ⟨rfl, ?_⟩ | refine ⟨_, rfl, ?_⟩ | refine ⟨(show pureL (rowsC _ _) = true from by first | exact prfs_pure _ | exact ents_pure _ | exact hds_pure _ | exact lets_pure _), ?_⟩); conv => whnf)
     refine ⟨_, _, h1, by first | rfl | simp [noRoIf, noRoL, noRoV, noRoL_bys], ?_⟩
     conv => whnf
     repeat ((first | refine ifB_t ?_ | refine ifB_f ?_ | refine ⟨rfl, ?_⟩); conv => whnf)
     rfl
    cases c5 : decide (a.ps = b.ps) <;> rw [c5] at h2
    ·conv => whnf
     repeat ((first | refine ifB_t ?_ | (refine ifB_pos (decide_eq_true (by first | omega | rfl | (dsimp only; omega))) ?_) | refine ⟨rfl, ?_⟩ | refine ⟨_, rfl, ?_⟩ | refine ⟨(show pureL (rowsC _ _) = true from by first | exact prfs_pure _ | exact ents_pure _ | exact hds_pure _ | exact lets_pure _), ?_⟩); conv => whnf)
     refine ⟨_, _, h1, by first | rfl | simp [noRoIf, noRoL, noRoV, noRoL_bys], ?_⟩
     conv => whnf
     repeat ((first | refine ifB_t ?_ | refine ⟨rfl, ?_⟩ | refine ⟨_, rfl, ?_⟩ | refine ⟨(show pureL (rowsC _ _) = true from by first | exact prfs_pure _ | exact ents_pure _ | exact hds_pure _ | exact lets_pure _), ?_⟩); conv => whnf)
     refine ⟨_, _, h2, by first | rfl | simp [noRoIf, noRoL, noRoV, noRoL_bys], ?_⟩
     conv => whnf
     repeat ((first | refine ifB_t ?_ | refine ifB_f ?_ | refine ⟨rfl, ?_⟩); conv => whnf)
     rfl
    ·conv => whnf
     repeat ((first | refine ifB_t ?_ | (refine ifB_pos (decide_eq_true (by first | omega | rfl | (dsimp only; omega))) ?_) | refine ⟨rfl, ?_⟩ | refine ⟨_, rfl, ?_⟩ | refine ⟨(show pureL (rowsC _ _) = true from by first | exact prfs_pure _ | exact ents_pure _ | exact hds_pure _ | exact lets_pure _), ?_⟩); conv => whnf)
     refine ⟨_, _, h1, by first | rfl | simp [noRoIf, noRoL, noRoV, noRoL_bys], ?_⟩
     conv => whnf
     repeat ((first | refine ifB_t ?_ | refine ⟨rfl, ?_⟩ | refine ⟨_, rfl, ?_⟩ | refine ⟨(show pureL (rowsC _ _) = true from by first | exact prfs_pure _ | exact ents_pure _ | exact hds_pure _ | exact lets_pure _), ?_⟩); conv => whnf)
     refine ⟨_, _, h2, by first | rfl | simp [noRoIf, noRoL, noRoV, noRoL_bys], ?_⟩
     conv => whnf
     repeat ((first | refine ifB_t ?_ | refine ⟨rfl, ?_⟩ | refine ⟨_, rfl, ?_⟩ | refine ⟨(show pureL (rowsC _ _) = true from by first | exact prfs_pure _ | exact ents_pure _ | exact hds_pure _ | exact lets_pure _), ?_⟩); conv => whnf)
     refine ⟨_, _, h3, by first | rfl | simp [noRoIf, noRoL, noRoV, noRoL_bys], ?_⟩
     conv => whnf
     repeat ((first | refine ifB_t ?_ | refine ⟨rfl, ?_⟩); conv => whnf)
     rfl
   ·rw [df c3]
    conv => whnf
    repeat ((first | refine ifB_t ?_ | refine ifB_f ?_ | (refine ifB_neg (decide_eq_false (by first | omega | rfl | (dsimp only; omega))) ?_) | (refine ifB_pos (decide_eq_true (by first | omega | rfl | (dsimp only; omega))) ?_) | refine ⟨rfl, ?_⟩ | refine ⟨_, rfl, ?_⟩); conv => whnf)
    rfl
  ·rw [df c2]
   conv => whnf
   repeat ((first | refine ifB_t ?_ | refine ifB_f ?_ | (refine ifB_neg (decide_eq_false (by first | omega | rfl | (dsimp only; omega))) ?_) | (refine ifB_pos (decide_eq_true (by first | omega | rfl | (dsimp only; omega))) ?_) | refine ⟨rfl, ?_⟩ | refine ⟨_, rfl, ?_⟩); conv => whnf)
   rfl
 ·rw [df c1]
  conv => whnf
  repeat ((first | refine ifB_f ?_ | (refine ifB_neg (decide_eq_false (by first | omega | rfl | (dsimp only; omega))) ?_) | refine ⟨rfl, ?_⟩ | refine ⟨_, rfl, ?_⟩); conv => whnf)
  rfl
end
section
--KR
attribute [local irreducible] ifB fitP Does Weaker demsP
end
section
--KR
attribute [local irreducible] ifB fitP Does Weaker
def heavyE (e : Ent) : Bool := decide (100 < e.key.length) || decide (300 < e.val.length)
def heavyEs (l : List Ent) : Bool := decide (300 < l.length) || l.any heavyE
theorem heavyEs_no {l : List Ent} (h : heavyEs l = false) : l.length ≤ 300 ∧ ∀ e ∈ l, e.key.length ≤ 100 ∧ e.val.length ≤ 300 := by
 unfold heavyEs at h
 simp only [Bool.or_eq_false_iff, decide_eq_false_iff_not, Nat.not_lt, List.any_eq_false, heavyE, Bool.or_eq_true, decide_eq_true_eq, not_or] at h
 exact ⟨h.1, fun e he => by have := h.2 e he; omega⟩
theorem ent_key {l : List Ent} {j m : Nat} (h : j < l.length) (hm : m = 133 * j) : (List.drop 1 (List.drop 66 (List.drop m (rowsC entC l))))[0]? = some (.str l[j].key) := by
 rw [rowsC_at entC_length h hm]; rfl
theorem ent_val {l : List Ent} {j m : Nat} (h : j < l.length) (hm : m = 133 * j) : (List.drop 2 (List.drop 66 (List.drop m (rowsC entC l))))[0]? = some (.ro l[j].val.length (bys l[j].val)) := by
 rw [rowsC_at entC_length h hm]; rfl
set_option maxHeartbeats 1000000 in
theorem heavy11_ok (l : List Ent) : ACall Tryd.prog 28 [.ro l.length (rowsC entC l)] (.bool (heavyEs l)) [] := by
 refine ACall.of_does TTok Tryd.func28 rfl Tryd.call28 rfl (wpc_sound (M := MK) (PL := PL0) (CU := noCut) TTok mixed _ _ _ ?_)
 conv => whnf
 refine ifB_dec (fun c0 => ?_) (fun c0 => ?_)
 ·have : heavyEs l = true := by unfold heavyEs; rw [dt (show 300 < l.length by omega)]; rfl
  rw [this]
  conv => whnf
  repeat ((refine ⟨rfl, ?_⟩); conv => whnf)
  rfl
 have e0 : heavyEs l = l.any heavyE := by unfold heavyEs; rw [df (show ¬ 300 < l.length by omega)]; rfl
 conv => whnf
 refine Does.loop (fun c : Nat => mkSt [(0, .ro l.length (rowsC entC l)), (3, .int .i64 c)] [] 0 31)
  (fun c => c ≤ l.length ∧ (l.drop c).any heavyE = l.any heavyE) (fun c => l.length - c) ?_ 0 ⟨Nat.zero_le _, by rw [List.drop_zero]⟩ ?_
 ·rintro c ⟨hc, hx⟩
  rcases Nat.lt_or_ge c l.length with c1 | c1
  ·have gk : ∀ m, m = 133 * c → (List.drop 1 (List.drop 66 (List.drop m (rowsC entC l))))[0]? = some (.str l[c].key) := fun m hm => ent_key c1 hm
   have gv : ∀ m, m = 133 * c → (List.drop 2 (List.drop 66 (List.drop m (rowsC entC l))))[0]? = some (.ro l[c].val.length (bys l[c].val)) := fun m hm => ent_val c1 hm
   rw [List.drop_eq_getElem_cons c1, List.any_cons] at hx
   generalize l[c] = q at gk gv hx
   refine wpc_sound (M := MK) (PL := PL0) (CU := noCut) TTok mixed _ _ _ ?_
   by_cases k1 : 100 < q.key.length
   ·rw [show heavyE q = true by unfold heavyE; rw [dt k1]; rfl, Bool.true_or] at hx
    rw [e0, ← hx]
    conv => whnf
    repeat ((first | (refine ifB_pos (decide_eq_true (by first | omega | rfl | (dsimp only; omega))) ?_) | (refine ⟨⟨?_, ?_, ?_⟩, ?_⟩; (focus omega); (focus (first | omega | (simp; done) | (simp; omega))); (focus (first | (rw [prfs_len]; simp; omega) | (rw [ents_len]; simp; omega) | (rw [hds_len]; simp; omega) | (rw [lets_len]; simp; omega))))); conv => whnf)
    conv => whnf
    repeat' (first | (refine ifB_t ?_; (conv => whnf)) | (refine ifB_pos (decide_eq_true (by first | omega | rfl | (dsimp only; omega))) ?_; (conv => whnf)) | (refine ⟨rfl, ?_⟩; (conv => whnf)) | (refine ⟨_, gk _ (by simp; omega), ?_⟩; conv => whnf) | (refine ⟨_, gv _ (by simp; omega), ?_⟩; conv => whnf) | (rfl) | (refine ⟨_, rfl, ?_⟩; conv => whnf) | (refine And.intro ?_ ?_ <;> conv => whnf))
   ·by_cases k2 : 300 < q.val.length
    ·rw [show heavyE q = true by unfold heavyE; rw [dt k2, Bool.or_true], Bool.true_or] at hx
     rw [e0, ← hx]
     conv => whnf
     repeat ((first | (refine ifB_pos (decide_eq_true (by first | omega | rfl | (dsimp only; omega))) ?_) | (refine ⟨⟨?_, ?_, ?_⟩, ?_⟩; (focus omega); (focus (first | omega | (simp; done) | (simp; omega))); (focus (first | (rw [prfs_len]; simp; omega) | (rw [ents_len]; simp; omega) | (rw [hds_len]; simp; omega) | (rw [lets_len]; simp; omega))))); conv => whnf)
     conv => whnf
     repeat' (first | (refine ifB_f ?_; (conv => whnf)) | (refine ifB_neg (decide_eq_false (by first | omega | rfl | (dsimp only; omega))) ?_; (conv => whnf)) | (refine ifB_pos (decide_eq_true (by first | omega | rfl | (dsimp only; omega))) ?_; (conv => whnf)) | (refine ⟨rfl, ?_⟩; (conv => whnf)) | (refine ⟨⟨?_, ?_, ?_⟩, ?_⟩; (focus omega); (focus (first | omega | (simp; done) | (simp; omega))); (focus (first | (rw [prfs_len]; simp; omega) | (rw [ents_len]; simp; omega) | (rw [hds_len]; simp; omega) | (rw [lets_len]; simp; omega))); (conv => whnf)) | (refine ⟨_, gk _ (by simp; omega), ?_⟩; conv => whnf) | (refine ⟨_, gv _ (by simp; omega), ?_⟩; conv => whnf) | (rfl) | (refine ⟨_, rfl, ?_⟩; conv => whnf) | (refine And.intro ?_ ?_ <;> conv => whnf))
    ·rw [show heavyE q = false by unfold heavyE; rw [df k1, df k2]; rfl, Bool.false_or] at hx
     conv => whnf
     repeat ((first | (refine ifB_pos (decide_eq_true (by first | omega | rfl | (dsimp only; omega))) ?_) | (refine ⟨⟨?_, ?_, ?_⟩, ?_⟩; (focus omega); (focus (first | omega | (simp; done) | (simp; omega))); (focus (first | (rw [prfs_len]; simp; omega) | (rw [ents_len]; simp; omega) | (rw [hds_len]; simp; omega) | (rw [lets_len]; simp; omega))))); conv => whnf)
     conv => whnf
     repeat' (first | (refine ifB_f ?_; (conv => whnf)) | (refine ifB_neg (decide_eq_false (by first | omega | rfl | (dsimp only; omega))) ?_; (conv => whnf)) | (refine fit_i64 ⟨by first | omega | rfl | (dsimp only; omega), by first | omega | rfl | (dsimp only; omega)⟩ ?_; (conv => whnf)) | (refine ⟨⟨?_, ?_, ?_⟩, ?_⟩; (focus omega); (focus (first | omega | (simp; done) | (simp; omega))); (focus (first | (rw [prfs_len]; simp; omega) | (rw [ents_len]; simp; omega) | (rw [hds_len]; simp; omega) | (rw [lets_len]; simp; omega))); (conv => whnf)) | (refine ⟨_, gk _ (by simp; omega), ?_⟩; conv => whnf) | (refine ⟨_, gv _ (by simp; omega), ?_⟩; conv => whnf) | (exact ⟨c + 1, ⟨by omega, hx⟩, by omega, weaker_of [] rfl rfl ⟨⟨rfl, rfl, ents_pure _⟩, ⟨rfl, rfl⟩, trivial⟩ trivial⟩) | (refine ⟨_, rfl, ?_⟩; conv => whnf) | (refine And.intro ?_ ?_ <;> conv => whnf))
  ·obtain rfl : c = l.length := by omega
   rw [List.drop_length] at hx
   rw [e0, ← hx]
   refine wpc_sound (M := MK) (PL := PL0) (CU := noCut) TTok mixed _ _ _ ?_
   conv => whnf
   repeat ((first | (refine ifB_neg (decide_eq_false (by first | omega | rfl | (dsimp only; omega))) ?_) | refine ⟨rfl, ?_⟩); conv => whnf)
   rfl
 ·exact weaker_of [] rfl rfl ⟨⟨rfl, rfl, ents_pure _⟩, ⟨rfl, rfl⟩, trivial⟩ trivial
end
section
--KR
attribute [local irreducible] ifB fitP Does Weaker
def heavyP (p : Prf) : Bool := heavyEs [p.a, p.b]
def heavyM (m : Msg) : Bool := decide (60 < m.hs.length) || decide (60 < m.ps.length) || decide (60 < m.es.length) || heavyEs m.es || m.ps.any heavyP
theorem heavyM_no {m : Msg} (h : heavyM m = false) : m.hs.length ≤ 60 ∧ m.ps.length ≤ 60 ∧ m.es.length ≤ 60 ∧ (∀ e ∈ m.es, e.key.length ≤ 100 ∧ e.val.length ≤ 300) ∧ ∀ p ∈ m.ps, (p.a.key.length ≤ 100 ∧ p.a.val.length ≤ 300) ∧ (p.b.key.length ≤ 100 ∧ p.b.val.length ≤ 300) := by
 unfold heavyM at h
 simp only [Bool.or_eq_false_iff, decide_eq_false_iff_not, Nat.not_lt, List.any_eq_false] at h
 obtain ⟨⟨⟨⟨h1, h2⟩, h3⟩, h4⟩, h5⟩ := h
 refine ⟨h1, h2, h3, (heavyEs_no h4).2, fun p hp => ?_⟩
 have := (heavyEs_no (l := [p.a, p.b]) (by have := h5 p hp; unfold heavyP at this; simpa using this)).2
 exact ⟨this p.a (by simp), this p.b (by simp)⟩
theorem prf_a {l : List Prf} {j m s : Nat} (h : j < l.length) (hm : m = 266 * j) (hs : s = 133) : takeN s (List.drop 0 (List.drop m (rowsC prfC l))) = some (entC l[j].a) := by
 rw [List.drop_zero, rowsC_at prfC_length h hm]
 unfold prfC
 rw [List.append_assoc]
 exact takeN_app (by rw [entC_length, hs])
theorem prf_b {l : List Prf} {j m s : Nat} (h : j < l.length) (hm : m = 266 * j) (hs : s = 133) : takeN s (List.drop 133 (List.drop m (rowsC prfC l))) = some (entC l[j].b) := by
 rw [rowsC_at prfC_length h hm]
 unfold prfC
 rw [List.append_assoc, List.drop_append, List.drop_eq_nil_of_le (by rw [entC_length]; exact Nat.le_refl _), List.nil_append, entC_length]
 exact takeN_app (by rw [entC_length, hs])
def MK2 : FuncId → List Mode := orElse [(28, [.bw]), (10, [.rd]), (24, [])] MK
def PLhv : Nat → Bool × Plan := plans [(6, (false, (takesTo [0, 1, 2, 3, 4, 5, 6, 7, 8, 9, 10, 11] (.all [(12, (.all [(13, .done)]))]))))]
set_option maxRecDepth 20000 in
set_option maxHeartbeats 2000000 in
theorem heavy13_ok (m : Msg) : ACall Tryd.prog 10 [.agg (msgC m)] (.bool (heavyM m)) [] := by
 have h := heavy11_ok m.es
 unfold heavyM
 refine ACall.of_does TTok Tryd.func10 rfl Tryd.call10 rfl (wpc_sound (M := MK2) (PL := PLhv) (CU := cutAt [100001]) TTok mixed _ _ _ ?_)
 conv => whnf
 repeat ((refine ⟨rfl, ?_⟩); conv => whnf)
 refine Does.freeze 0 rfl (Does.tidy [(1, .rop (msgC m))] [] 1 46 rfl rfl rfl (by kernel_rfl) (by kernel_rfl) ?_)
 refine wpc_sound (M := MK2) (PL := PLhv) (CU := noCut) TTok mixed _ _ _ ?_
 by_cases c1 : 60 < m.hs.length
 ·rw [dt c1]
  conv => whnf
  repeat ((first | refine ifB_t ?_ | (refine ifB_pos (decide_eq_true (by first | omega | rfl | (dsimp only; omega))) ?_) | refine ⟨rfl, ?_⟩ | refine ⟨_, rfl, ?_⟩); conv => whnf)
  rfl
 rw [df c1]
 by_cases c2 : 60 < m.ps.length
 ·rw [dt c2]
  conv => whnf
  repeat ((first | refine ifB_t ?_ | refine ifB_f ?_ | (refine ifB_neg (decide_eq_false (by first | omega | rfl | (dsimp only; omega))) ?_) | (refine ifB_pos (decide_eq_true (by first | omega | rfl | (dsimp only; omega))) ?_) | refine ⟨rfl, ?_⟩ | refine ⟨_, rfl, ?_⟩); conv => whnf)
  rfl
 rw [df c2]
 by_cases c3 : 60 < m.es.length
 ·rw [dt c3]
  conv => whnf
  repeat ((first | refine ifB_t ?_ | refine ifB_f ?_ | (refine ifB_neg (decide_eq_false (by first | omega | rfl | (dsimp only; omega))) ?_) | (refine ifB_pos (decide_eq_true (by first | omega | rfl | (dsimp only; omega))) ?_) | refine ⟨rfl, ?_⟩ | refine ⟨_, rfl, ?_⟩); conv => whnf)
  rfl
 rw [df c3]
 cases c4 : heavyEs m.es <;> rw [c4] at h
 case true =>
  conv => whnf
  repeat ((first | refine ifB_f ?_ | (refine ifB_neg (decide_eq_false (by first | omega | rfl | (dsimp only; omega))) ?_) | refine ⟨rfl, ?_⟩ | refine ⟨_, rfl, ?_⟩ | refine ⟨(show pureL (rowsC _ _) = true from by first | exact prfs_pure _ | exact ents_pure _ | exact hds_pure _ | exact lets_pure _), ?_⟩); conv => whnf)
  refine ⟨_, _, h, by first | rfl | simp [noRoIf, noRoL, noRoV, noRoL_bys], ?_⟩
  conv => whnf
  repeat ((first | refine ifB_t ?_ | refine ifB_f ?_ | refine ⟨rfl, ?_⟩); conv => whnf)
  rfl
 conv => whnf
 repeat ((first | refine ifB_f ?_ | (refine ifB_neg (decide_eq_false (by first | omega | rfl | (dsimp only; omega))) ?_) | refine ⟨rfl, ?_⟩ | refine ⟨_, rfl, ?_⟩ | refine ⟨(show pureL (rowsC _ _) = true from by first | exact prfs_pure _ | exact ents_pure _ | exact hds_pure _ | exact lets_pure _), ?_⟩); conv => whnf)
 refine ⟨_, _, h, by first | rfl | simp [noRoIf, noRoL, noRoV, noRoL_bys], ?_⟩
 conv => whnf
 repeat ((refine ifB_f ?_); conv => whnf)
 refine Does.loop (fun c : Nat => mkSt [(1, .rop (msgC m)), (3, .int .i64 c)] [] 0 46)
  (fun c => c ≤ m.ps.length ∧ (m.ps.drop c).any heavyP = m.ps.any heavyP) (fun c => m.ps.length - c) ?_ 0 ⟨Nat.zero_le _, by rw [List.drop_zero]⟩ ?_
 ·rintro c ⟨hc, hx⟩
  rcases Nat.lt_or_ge c m.ps.length with k1 | k1
  ·have ga : ∀ i, i = 266 * c → takeN 133 (List.drop 0 (List.drop i (rowsC prfC m.ps))) = some (entC m.ps[c].a) := fun i hi => prf_a k1 hi rfl
   have gb : ∀ i, i = 266 * c → takeN 133 (List.drop 133 (List.drop i (rowsC prfC m.ps))) = some (entC m.ps[c].b) := fun i hi => prf_b k1 hi rfl
   have hz : ∀ i, i = 266 * c → (List.drop i (rowsC prfC m.ps)).length ≠ 0 := fun i hi => by rw [List.length_drop, prfs_len]; omega
   have tk : ∀ {ops : Array Oper} {st : St} {dst : Option Tmp} {ty : TypeId} {pos : String} {af : Array Edge} {t : TypeId} {a : Operand} {cs : List AV}, evalO st.env a = .rop cs → cs.length ≠ 0 → takeOk ops ⟨dst, .load t a, ty, pos, af, none⟩ st = true := by
    intro ops st dst ty pos af t a cs he hne
    show roLoad st (.load t a) = true
    simp only [roLoad, he]
    cases cs with
    | nil => simp at hne
    | cons x r => rfl
   have h2 := heavy11_ok [m.ps[c].a, m.ps[c].b]
   rw [List.drop_eq_getElem_cons k1, List.any_cons] at hx
   rw [show heavyP m.ps[c] = heavyEs [m.ps[c].a, m.ps[c].b] from rfl] at hx
   refine wpc_sound (M := MK2) (PL := PLhv) (CU := noCut) TTok mixed _ _ _ ?_
   conv => whnf
   repeat ((first | (refine ifB_pos (decide_eq_true (by first | omega | rfl | (dsimp only; omega))) ?_) | refine ⟨_, rfl, ?_⟩); conv => whnf)
   refine ⟨by kernel_rfl, ?_⟩
   conv => whnf
   repeat ((first | refine ⟨rfl, ?_⟩ | refine ⟨_, rfl, ?_⟩ | (refine ⟨⟨?_, ?_, ?_⟩, ?_⟩; (focus omega); (focus (first | omega | (simp; done) | (simp; omega))); (focus (first | (rw [prfs_len]; simp; omega) | (rw [ents_len]; simp; omega) | (rw [hds_len]; simp; omega) | (rw [lets_len]; simp; omega))))); conv => whnf)
   refine ⟨tk rfl (by rw [List.drop_zero]; exact hz _ (by simp; omega)), ?_⟩
   conv => whnf
   refine ⟨_, ga _ (by simp; omega), ?_⟩
   conv => whnf
   repeat ((first | refine ⟨rfl, ?_⟩ | refine ⟨_, rfl, ?_⟩ | (refine ⟨⟨?_, ?_, ?_⟩, ?_⟩; (focus omega); (focus (first | omega | (simp; done) | (simp; omega))); (focus (first | (rw [prfs_len]; simp; omega) | (rw [ents_len]; simp; omega) | (rw [hds_len]; simp; omega) | (rw [lets_len]; simp; omega))))); conv => whnf)
   refine ⟨tk rfl (by rw [List.length_drop]; have := rowsC_at prfC_length k1 (rfl : 266 * c = 266 * c); have e : (List.drop (266 * c) (rowsC prfC m.ps)).length = 266 * (m.ps.length - c) := (by rw [List.length_drop, prfs_len]; omega); rw [List.length_drop, prfs_len]; simp; omega), ?_⟩
   conv => whnf
   refine ⟨_, gb _ (by simp; omega), ?_⟩
   conv => whnf
   repeat ((first | (refine Or.inl ⟨⟨rfl, ?_⟩, ?_⟩; (focus (first | rfl | (simp; done) | (rw [toksC_length]; omega)))) | refine ⟨rfl, ?_⟩ | refine ⟨⟨rfl, rfl⟩, ?_⟩ | (refine And.intro ?_ ?_; (focus (first | (simp only [pureL, pureV, pureL_bys, Bool.and_true, Bool.and_self]; done) | (simp only [pureL, pureV, pureL_bys, pureL_toks, Bool.and_true, Bool.and_self]; done))))); conv => whnf)
   cases c5 : heavyEs [m.ps[c].a, m.ps[c].b] <;> rw [c5] at h2 hx
   ·rw [Bool.false_or] at hx
    refine ⟨_, _, h2.arg1 rfl (by simp [rowsC]; rfl), by first | rfl | simp [noRoIf, noRoL, noRoV, noRoL_bys], ?_⟩
    conv => whnf
    repeat ((first | refine ifB_f ?_ | (refine fit_i64 ⟨by first | omega | rfl | (dsimp only; omega), by first | omega | rfl | (dsimp only; omega)⟩ ?_)); conv => whnf)
    exact ⟨c + 1, ⟨by omega, hx⟩, by omega, weaker_of [] rfl rfl ⟨⟨rfl, msgC_pure m⟩, ⟨rfl, rfl⟩, trivial⟩ trivial⟩
   ·rw [Bool.true_or] at hx
    rw [← hx]
    refine ⟨_, _, h2.arg1 rfl (by simp [rowsC]; rfl), by first | rfl | simp [noRoIf, noRoL, noRoV, noRoL_bys], ?_⟩
    conv => whnf
    repeat ((first | refine ifB_t ?_ | refine ⟨rfl, ?_⟩); conv => whnf)
    rfl
  ·obtain rfl : c = m.ps.length := by omega
   rw [List.drop_length] at hx
   rw [← hx]
   refine wpc_sound (M := MK2) (PL := PLhv) (CU := noCut) TTok mixed _ _ _ ?_
   conv => whnf
   repeat ((first | (refine ifB_neg (decide_eq_false (by first | omega | rfl | (dsimp only; omega))) ?_) | refine ⟨rfl, ?_⟩ | refine ⟨_, rfl, ?_⟩); conv => whnf)
   rfl
 ·exact weaker_of [] rfl rfl ⟨⟨rfl, msgC_pure m⟩, ⟨rfl, rfl⟩, trivial⟩ trivial
end
section

theorem arr32_of_ty {n : Nat} {y : List AV} (h : TyL TT (n + 2) 49 y) : ∃ l : List Int, y = bys l ∧ Byt l ∧ l.length = 32 := by
 obtain ⟨es, rfl, hl, he⟩ := h
 obtain ⟨l, h1, h2, h3⟩ := bytes_of_ty ⟨_, show TT 5 = some _ from rfl, rfl⟩ es he
 exact ⟨l, h1, h3, by rw [h2, hl]⟩
theorem arr64_of_ty {n : Nat} {y : List AV} (h : TyL TT (n + 2) 64 y) : ∃ l : List Int, y = bys l ∧ Byt l ∧ l.length = 64 := by
 obtain ⟨es, rfl, hl, he⟩ := h
 obtain ⟨l, h1, h2, h3⟩ := bytes_of_ty ⟨_, show TT 5 = some _ from rfl, rfl⟩ es he
 exact ⟨l, h1, h3, by rw [h2, hl]⟩
theorem ent_of_ty {n : Nat} {y : List AV} (h : TyL TT (n + 4) 66 y) : ∃ e : Ent, y = entC e ∧ EntOk e := by
 obtain ⟨ys, rfl, a, r, rfl, ha, b, r', rfl, ⟨sq, rfl, s1, s2⟩, c, r2, rfl, hc, d, r3, rfl, ⟨st, rfl, t1, t2⟩, o, r4, rfl, ⟨os, rfl, o1, q1, rfl, ⟨kd, rfl, k1, k2⟩, o2, q2, rfl, ⟨ky, rfl, y1, y2⟩, o3, q3, rfl, hv, rfl⟩, g, r5, rfl, hg, rfl⟩ := h
 obtain ⟨au, rfl, u1, u2⟩ := arr32_of_ty ha
 obtain ⟨pv, rfl, v1, v2⟩ := arr32_of_ty hc
 obtain ⟨sg, rfl, g1, g2⟩ := arr64_of_ty hg
 obtain ⟨vl, rfl, w1, w2⟩ := bytes_of_slice hv
 simp only [IntKind.lo, IntKind.hi] at s1 s2 t1 t2 k1 k2
 refine ⟨⟨au, sq, pv, st, kd, ky, vl, sg⟩, ?_, { au := ⟨u1, u2⟩, seq := ⟨s1, by dsimp only; omega⟩, prev := ⟨v1, v2⟩, stamp := ⟨t1, by dsimp only; omega⟩, kind := ⟨k1, by dsimp only; omega⟩, key := ⟨y1, y2⟩, val := ⟨w1, w2⟩, sig := ⟨g1, g2⟩ }⟩
 unfold entC
 rw [c32_eq u2, c32_eq v2, c64_eq g2]
 simp
theorem hd_of_ty {n : Nat} {y : List AV} (h : TyL TT (n + 4) 51 y) : ∃ e : Hd, y = hdC e ∧ HdS e := by
 obtain ⟨ys, rfl, a, r, rfl, ha, b, r', rfl, ⟨sq, rfl, s1, s2⟩, c, r2, rfl, hc, d, r3, rfl, ⟨st, rfl⟩, rfl⟩ := h
 obtain ⟨au, rfl, u1, u2⟩ := arr32_of_ty ha
 obtain ⟨pv, rfl, v1, v2⟩ := arr32_of_ty hc
 simp only [IntKind.lo, IntKind.hi] at s1 s2
 refine ⟨⟨au, sq, pv, st⟩, ?_, { au := ⟨u1, u2⟩, len := ⟨s1, by dsimp only; omega⟩, id := ⟨v1, v2⟩ }⟩
 unfold hdC
 rw [c32_eq u2, c32_eq v2]
 simp
def PrfO (p : Prf) : Prop := EntOk p.a ∧ EntOk p.b
theorem prf_of_ty {n : Nat} {y : List AV} (h : TyL TT (n + 5) 68 y) : ∃ e : Prf, y = prfC e ∧ PrfO e := by
 obtain ⟨ys, rfl, a, r, rfl, ha, b, r', rfl, hb, rfl⟩ := h
 obtain ⟨e, rfl, h1⟩ := ent_of_ty ha
 obtain ⟨f, rfl, h2⟩ := ent_of_ty hb
 exact ⟨⟨e, f⟩, by simp [prfC], h1, h2⟩
theorem rows_of_ty {α : Type} {n : Nat} {t : TypeId} {f : α → List AV} {ok : α → Prop} (H : ∀ y, TyL TT n t y → ∃ e : α, y = f e ∧ ok e) : ∀ es : List (List AV), (∀ y ∈ es, TyL TT n t y) → ∃ l : List α, es.flatten = rowsC f l ∧ l.length = es.length ∧ ∀ x ∈ l, ok x
 | [], _ => ⟨[], rfl, rfl, by simp⟩
 | y :: es, h => by
  obtain ⟨l, h1, h2, h3⟩ := rows_of_ty H es fun z hz => h z (by simp [hz])
  obtain ⟨e, rfl, k⟩ := H y (h y (by simp))
  refine ⟨e :: l, by simp [h1, rowsC], by simp [h2], fun x hx => ?_⟩
  rcases List.mem_cons.1 hx with rfl | hx
  ·exact k
  ·exact h3 x hx
structure MsgO (m : Msg) : Prop where
 kind : -9223372036854775808 ≤ m.kind ∧ m.kind < 9223372036854775808
 frm : -9223372036854775808 ≤ m.frm ∧ m.frm < 9223372036854775808
 to : -9223372036854775808 ≤ m.to ∧ m.to < 9223372036854775808
 hs : ∀ h ∈ m.hs, HdS h
 ps : ∀ p ∈ m.ps, PrfO p
 es : ∀ e ∈ m.es, EntOk e
theorem msg_of_ty {n : Nat} {y : List AV} (h : TyL TT (n + 7) 27 y) : ∃ m : Msg, y = msgC m ∧ MsgO m := by
 obtain ⟨ys, rfl, a, r, rfl, ⟨kd, rfl, s1, s2⟩, b, r', rfl, ⟨fr, rfl, f1, f2⟩, c, r2, rfl, ⟨tw, rfl, t1, t2⟩, d, r3, rfl, ⟨hs, rfl, _, hh⟩, o, r4, rfl, ⟨ps, rfl, _, hp⟩, g, r5, rfl, ⟨es, rfl, _, he⟩, rfl⟩ := h
 obtain ⟨hs', e1, e2, e3⟩ := rows_of_ty (fun y h => hd_of_ty h) hs hh
 obtain ⟨ps', e4, e5, e6⟩ := rows_of_ty (fun y h => prf_of_ty h) ps hp
 obtain ⟨es', e7, e8, e9⟩ := rows_of_ty (fun y h => ent_of_ty h) es he
 simp only [IntKind.lo, IntKind.hi] at s1 s2 t1 t2 f1 f2
 exact ⟨⟨kd, fr, tw, hs', ps', es'⟩, by simp [msgC, e1, e2, e4, e5, e7, e8], { kind := ⟨s1, by dsimp only; omega⟩, frm := ⟨f1, by dsimp only; omega⟩, to := ⟨t1, by dsimp only; omega⟩, hs := e3, ps := e6, es := e9 }⟩
theorem msgS_of {m : Msg} (h : MsgO m) (hv : heavyM m = false) : MsgS m := by
 obtain ⟨h1, h2, h3, h4, h5⟩ := heavyM_no hv
 refine { kind := h.kind, frm := h.frm, to := h.to, hs := h.hs, ps := fun p hp => ?_, es := fun e he => ?_, hl := by omega, pl := by omega, el := by omega }
 ·have := h5 p hp
  have k := h.ps p hp
  exact ⟨{ k.1 with key' := by omega, val' := by omega }, { k.2 with key' := by omega, val' := by omega }⟩
 ·have := h4 e he
  exact { h.es e he with key' := by omega, val' := by omega }
end
section

theorem ACall.ownArg {P : Program} {f : FuncId} {len esz : Nat} {cs : List AV} {r : AV} (h : ACall P f [.ro len cs] r []) : ACall P f [.own len esz cs] r [] := by
 refine ⟨h.1, fun Z E vals X hh hr hn hz => ?_⟩
 simp only [RepBL] at hr
 obtain ⟨u, us, Y, Y', e1, e2, h1, rfl, rfl⟩ := hr
 subst e1
 rw [List.append_nil] at e2
 subst e2
 have hro := roOf_own (Z := Z) (fun b hb => (hh.V b).2 (.inl (.inl hb))) hz h1
 have hW : ∀ b, ¬ Wr E.ρ noHeap b := fun b ⟨id, c, k, _⟩ => by cases k
 have H1 : HeapRep (fun b => Z b ∨ b ∈ ([] : List Nat)) ⟨E.η, E.ρ, Z, E.w⟩ noHeap 0 := {
  blk := fun id c k => by cases k
  inj := fun id id' n k => (k rfl).elim
  V := fun b => ⟨fun k => .inl (.inl k), fun k => by
   rcases k with (k | k) | k
   ·exact k
   ·exact absurd k (List.not_mem_nil)
   ·exact (hW b k).elim⟩
  apart := fun id n k => (k rfl).elim
  fresh := hh.fresh
  one := hh.one
  old := hh.old
  zold := fun b k => by
   rcases k with k | k
   ·exact hh.zold b (.inl k)
   ·exact absurd k (List.not_mem_nil)
  tab := fun g k l hg => by
   obtain ⟨t1, t2, t3⟩ := hh.tab g k l hg
   exact ⟨t1, fun hv => t2 ((hh.V g).2 (.inl (.inl hv))), t3⟩ }
 have hb : RepBL ⟨E.η, E.ρ, Z, E.w⟩ [.ro len cs] [u] [] := by
  simp only [RepBL]
  exact ⟨u, [], [], [], rfl, rfl, hro, rfl, rfl⟩
 refine (h.2 Z ⟨E.η, E.ρ, Z, E.w⟩ [u] [] H1 hb List.nodup_nil (fun b hb => absurd hb (List.not_mem_nil))).mono ?_
 rintro e w' ⟨v, E', Xr, he, hw, hη, hev, hV, hB, hnd, hX⟩
 exact ⟨v, E', Xr, he, hw, hη, hev.mono (fun x hx => absurd hx (List.not_mem_nil)), hV, hB, hnd, fun b hb => ⟨(hX b hb).1, fun k => absurd ((hX b hb).2.1 k) (List.not_mem_nil), (hX b hb).2.2⟩⟩
mutual
theorem unborder_pure {E : Env} : ∀ (x : AV) (v : Value) (X : List Nat), pureV x = true → RepB E x v X → RepV E x v ∧ X = []
 | .own _ _ _, v, X, hp, _ => by simp [pureV] at hp
 | .ref _, v, X, hp, _ => by simp [pureV] at hp
 | .sl _ _ _ _ _, v, X, hp, _ => by simp [pureV] at hp
 | .ptr _ _, v, X, hp, _ => by simp [pureV] at hp
 | .agg cs, v, X, hp, h => by
  simp only [RepB] at h
  obtain ⟨vs, rfl, hl⟩ := h
  have := unborderL_pure cs _ X (by simpa [pureV] using hp) hl
  simp only [RepV]
  exact ⟨⟨vs, rfl, this.1⟩, this.2⟩
 | .tuple cs, v, X, hp, h => by
  simp only [RepB] at h
  obtain ⟨vs, rfl, hl⟩ := h
  have := unborderL_pure cs _ X (by simpa [pureV] using hp) hl
  simp only [RepV]
  exact ⟨⟨vs, rfl, this.1⟩, this.2⟩
 | .top, v, X, hp, h => by simp only [RepB] at h; exact ⟨h.2.1, h.2.2⟩
 | .int k n, v, X, hp, h => by simp only [RepB] at h; exact ⟨h.2.1, h.2.2⟩
 | .bool b, v, X, hp, h => by simp only [RepB] at h; exact ⟨h.2.1, h.2.2⟩
 | .anyb, v, X, hp, h => by simp only [RepB] at h; exact ⟨h.2.1, h.2.2⟩
 | .str s, v, X, hp, h => by simp only [RepB] at h; exact ⟨h.2.1, h.2.2⟩
 | .nil, v, X, hp, h => by simp only [RepB] at h; exact ⟨h.2.1, h.2.2⟩
 | .ro len cs, v, X, hp, h => by simp only [RepB] at h; exact ⟨h.2.1, h.2.2⟩
 | .rop cs, v, X, hp, h => by simp only [RepB] at h; exact ⟨h.2.1, h.2.2⟩
 | .nilp, v, X, hp, h => by simp only [RepB] at h; exact ⟨h.2.1, h.2.2⟩
 | .hid i, v, X, hp, h => by simp only [RepB] at h; exact ⟨h.2.1, h.2.2⟩
 | .fn f cs, v, X, hp, h => by simp only [RepB] at h; exact ⟨h.2.1, h.2.2⟩
theorem unborderL_pure {E : Env} : ∀ (cs : List AV) (vs : List Value) (X : List Nat), pureL cs = true → RepBL E cs vs X → RepL E cs vs ∧ X = []
 | [], vs, X, _, h => by
  simp only [RepBL] at h
  simp only [RepL]
  exact h
 | c :: cs, vs, X, hp, h => by
  simp only [pureL, Bool.and_eq_true] at hp
  simp only [RepBL] at h
  obtain ⟨u, us, Y, Y', rfl, rfl, h1, h2⟩ := h
  have a := unborder_pure c u Y hp.1 h1
  have b := unborderL_pure cs us Y' hp.2 h2
  simp only [RepL]
  exact ⟨⟨u, us, rfl, a.1, b.1⟩, by rw [a.2, b.2]; rfl⟩
end
theorem ACall.les {P : Program} {f : FuncId} {xs ys : List AV} {r : AV} (h : ACall P f ys r []) (hx : pureL xs = true) (hy : pureL ys = true) (hl : lesP (fun _ => none) ys xs) : ACall P f xs r [] := by
 refine ⟨h.1, fun Z E vals X hh hr hn hz => ?_⟩
 obtain ⟨k1, rfl⟩ := unborderL_pure xs vals X hx hr
 have k2 := lesP_ok (E := E) (E' := E) ⟨rfl, rfl⟩ (fun b hb => hb) (fun i j n hi => by cases hi) ys xs _ hl k1
 have k3 := borderL_pure ys vals hy k2
 have := h.2 Z E vals [] hh k3 hn hz
 rw [refVals_pure ys vals hy] at this
 rw [refVals_pure xs vals hx]
 exact this
end
section
--KR
attribute [local irreducible] ifB fitP Does Weaker
def ML : FuncId → List Mode := orElse [(34, [.bw, .bw])] MK2
def msgE (k f t : Int) : Msg := ⟨k, f, t, [], [], []⟩
theorem msgE_S {k f t : Int} (h1 : -9223372036854775808 ≤ k ∧ k < 9223372036854775808) (h2 : -9223372036854775808 ≤ f ∧ f < 9223372036854775808) (h3 : -9223372036854775808 ≤ t ∧ t < 9223372036854775808) : MsgS (msgE k f t) where
 kind := h1
 frm := h2
 to := h3
 hs := fun h hh => absurd hh (List.not_mem_nil)
 ps := fun h hh => absurd hh (List.not_mem_nil)
 es := fun h hh => absurd hh (List.not_mem_nil)
 hl := by simp [msgE]
 pl := by simp [msgE]
 el := by simp [msgE]
theorem wakeB : msgB (msgE 1 0 1) = ([132, 3, 0, 1, 128], 0) := by
 have hr : msgR (msgE 1 0 1) = true := by decide
 unfold msgB
 rw [if_pos hr]
 unfold msgT
 rw [if_pos (show (msgE 1 0 1).kind = 1 from rfl), fr_yes (by decide) (by decide) (by decide) (fun h hh => absurd hh (List.not_mem_nil))]
 decide
theorem msgB_byt {m : Msg} (hm : MsgS m) : Byt (msgB m).1 ∧ (msgB m).1.length ≤ 32768 := by
 rcases msgB_or m with h | ⟨a, h⟩
 ·rw [h]; exact ⟨fun x hx => absurd hx (List.not_mem_nil), by simp⟩
 ·have := msgB_toks (m := m) (by rw [h])
  refine ⟨by have k := encR_byt _ (msgT_toks hm); rwa [this.2] at k, ?_⟩
  exact encR_len this.2
theorem e_args {g : FuncId} {k f t : Int} {r : AV} (h : ACall Tryd.prog g [.agg (msgC (msgE k f t))] r []) : ACall Tryd.prog g [.agg (msgV k f t .nil .nil .nil)] r [] := h.les rfl rfl ⟨⟨⟨rfl, rfl⟩, ⟨rfl, rfl⟩, ⟨rfl, rfl⟩, ⟨rfl, rfl⟩, ⟨rfl, rfl⟩, ⟨rfl, rfl⟩, trivial⟩, trivial⟩
theorem msgC_les {o : Nat → Option Nat} (m : Msg) : lesP o (msgC m) (msgC m) := ⟨⟨rfl, rfl⟩, ⟨rfl, rfl⟩, ⟨rfl, rfl⟩, ⟨rfl, rfl, hds_pure _⟩, ⟨rfl, rfl, prfs_pure _⟩, ⟨rfl, rfl, ents_pure _⟩, trivial⟩
theorem e_args2 {g : FuncId} {k f t : Int} {m : Msg} {r : AV} (h : ACall Tryd.prog g [.agg (msgC m), .agg (msgC (msgE k f t))] r []) : ACall Tryd.prog g [.agg (msgC m), .agg (msgV k f t .nil .nil .nil)] r [] :=
 h.les (by simp only [pureL, pureV, msgC_pure]; rfl) (by simp only [pureL, pureV, msgC_pure]; rfl) ⟨msgC_les m, ⟨⟨rfl, rfl⟩, ⟨rfl, rfl⟩, ⟨rfl, rfl⟩, ⟨rfl, rfl⟩, ⟨rfl, rfl⟩, ⟨rfl, rfl⟩, trivial⟩, trivial⟩
set_option maxHeartbeats 1000000 in
theorem wakes13_ok : ACall Tryd.prog 24 [] (.bool true) [] := by
 have hm : MsgS (msgE 1 0 1) := msgE_S (by omega) (by omega) (by omega)
 have hb := (msg_bytes_ok _ hm).roRes2 (.inl ⟨_, _, rfl⟩)
 have hy := msgB_byt hm
 have hr := rdMsg_bytes hm (by rw [wakeB])
 have hc := check_msg_ok _ hm
 have ho := mread_ok _ hy.1 (by omega)
 have hk := kmsg_ok _ _ hm hm
 rw [hr.2] at ho
 rw [hr.1] at hc
 rw [wakeB] at hb ho
 dsimp only at hb ho
 rw [dt rfl] at hk
 have he := bytes_ok [132, 3, 0, 1, 128] [132, 3, 0, 1, 128] (by simp)
 refine ACall.of_does TTok Tryd.func24 rfl Tryd.call24 rfl (wpc_sound (M := ML) (PL := PL0) (CU := noCut) TTok mixed _ _ _ ?_)
 conv => whnf
 repeat ((first | refine ⟨(⟨by kernel_rfl, by kernel_rfl, Nat.le_of_ble_eq_true (by kernel_rfl)⟩ : AV.ones _ = true ∧ _ ∧ _), ?_⟩ | refine ⟨rfl, ?_⟩ | refine ⟨_, rfl, ?_⟩); conv => whnf)
 refine ⟨_, _, e_args hb, by first | rfl | simp [noRoIf, noRoL, noRoV, noRoL_bys], ?_⟩
 conv => whnf
 repeat ((first | refine ⟨pureL_bys _, ?_⟩ | refine ⟨rfl, ?_⟩); conv => whnf)
 refine ⟨_, _, ho, by first | rfl | simp [noRoIf, noRoL, noRoV, noRoL_bys], ?_⟩
 conv => whnf
 repeat ((first | refine ifB_t ?_ | refine ⟨pureL_bys _, ?_⟩ | refine ⟨(⟨by kernel_rfl, by kernel_rfl, Nat.le_of_ble_eq_true (by kernel_rfl)⟩ : AV.ones _ = true ∧ _ ∧ _), ?_⟩ | (refine Or.inl ⟨⟨rfl, ?_⟩, ?_⟩; (focus (first | rfl | (simp; done) | (rw [toksC_length]; omega)))) | refine ⟨rfl, ?_⟩); conv => whnf)
 refine ⟨_, _, he, by first | rfl | simp [noRoIf, noRoL, noRoV, noRoL_bys], ?_⟩
 conv => whnf
 repeat ((first | refine ifB_t ?_ | refine ⟨rfl, ?_⟩ | refine ⟨_, rfl, ?_⟩); conv => whnf)
 refine ⟨_, _, e_args2 hk, by first | rfl | simp [noRoIf, noRoL, noRoV, noRoL_bys], ?_⟩
 conv => whnf
 repeat ((first | refine ifB_t ?_ | refine ⟨rfl, ?_⟩ | refine ⟨_, rfl, ?_⟩); conv => whnf)
 refine ⟨_, _, e_args hc, by first | rfl | simp [noRoIf, noRoL, noRoV, noRoL_bys], ?_⟩
 conv => whnf
 repeat ((first | refine ifB_t ?_ | refine ⟨rfl, ?_⟩); conv => whnf)
 rfl
end
end Go.Proofs.YtbpdbajcmagomaaDoor.Abs
