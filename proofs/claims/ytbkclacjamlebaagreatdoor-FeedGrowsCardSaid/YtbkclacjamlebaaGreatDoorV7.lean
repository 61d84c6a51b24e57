/- Texts DB to CP, merged. -/
import Derived.Test.YtbkclacjamlebaaGreatDoorV6
set_option linter.unusedVariables false
set_option linter.unusedSimpArgs false
namespace Go.Proofs.YtbkclacjamlebaaGreatDoor.Abs
open Go
section

attribute [local irreducible] ifB fitP Does Weaker
theorem and192 : ∀ c : Fin 256, decide (bits .and .u8 (c.val : Int) 192 ≠ 128) = !uCont c.val := by decide +kernel
theorem and192' {x : Int} (h : 0 ≤ x ∧ x < 256) : decide (bits .and .u8 x 192 ≠ 128) = !uCont x := by
 have := and192 ⟨x.toNat, by omega⟩
 simp only [Int.toNat_of_nonneg h.1] at this
 exact this
theorem i64_and (k : Nat) (hk : k ≤ 63) (x : Int) (h0 : 0 ≤ x) (h1 : x < 9223372036854775808) : bits .and .i64 x (2 ^ k - 1) = x % 2 ^ k := bits_mask .i64 63 (by decide) wrap_i64_63 k hk x h0 (by simpa using h1)
theorem uVal_snoc (v : Int) (l : List Int) (c : Int) : uVal v (l ++ [c]) = uVal v l * 64 + c % 64 := by simp [uVal]
theorem uVal_take {v : Int} {l : List Int} {c : Nat} (h : c < l.length) : uVal v (l.take (c + 1)) = uVal v (l.take c) * 64 + l[c] % 64 := by
 rw [List.take_succ_eq_append_getElem h, uVal_snoc]
theorem uVal_bound {v : Int} (h0 : 0 ≤ v ∧ v < 32) : ∀ {l : List Int}, l.length ≤ 3 → 0 ≤ uVal v l ∧ uVal v l < 32 * 64 ^ l.length := by
 intro l hl
 have key : ∀ (n : Nat) (l : List Int), l.length = n → 0 ≤ uVal v l ∧ uVal v l < 32 * 64 ^ n := by
  intro n
  induction n with
  | zero => intro l h; obtain rfl := List.length_eq_zero_iff.1 h; simp [uVal]; omega
  | succ n ih =>
   intro l h
   have e : l = l.take n ++ [l[n]'(by omega)] := by
    rw [← List.take_succ_eq_append_getElem (by omega), List.take_of_length_le (by omega)]
   rw [e, uVal_snoc, Int.pow_succ]
   obtain ⟨a, b⟩ := ih (l.take n) (by simp; omega)
   omega
 exact key _ l rfl
theorem uLead_le (c : Int) (h : 0 ≤ c) : (uLead c).1 ≤ 3 ∧ 0 ≤ (uLead c).2.1 ∧ (uLead c).2.1 < 32 ∧ 0 ≤ (uLead c).2.2 ∧ (uLead c).2.2 ≤ 65536 := by
 unfold uLead
 repeat' split
 all_goals (simp only; omega)
theorem drop_cons {l : List Int} {i : Nat} (h : i < l.length) : l.drop i = l[i] :: l.drop (i + 1) := List.drop_eq_getElem_cons h
set_option maxHeartbeats 4000000 in
theorem refUtf8_ok (b : List Int) (hb : Byt b) (hl : b.length ≤ 1099511627776) : ACall Tryz.prog 78 [.ro b.length (bys b)] (.bool (validR b)) [] := by
 refine ACall.of_does TTok Tryz.func78 rfl Tryz.call78 rfl (wpc_sound (M := MC) (PL := PL0) (CU := noCut) TTok mixed _ _ _ ?_)
 conv => whnf
 refine Does.loop (fun i : Nat => mkSt [(0, .ro b.length (bys b)), (3, .int .i64 i)] [] 0 95) (fun i => i ≤ b.length ∧ validR (b.drop i) = validR b) (fun i => b.length - i) ?_ 0 ⟨Nat.zero_le _, rfl⟩ ?_
 ·rintro i ⟨hi, hv⟩
  refine wpc_sound (M := MC) (PL := PL0) (CU := cutAt [6]) TTok mixed _ _ _ ?_
  conv => whnf
  refine ifB_dec (fun k1 => ?_) (fun k1 => ?_)
  ·have c1 : i < b.length := by omega
   have hc := hb b[i] (List.getElem_mem c1)
   have hd := drop_cons c1
   rw [hd] at hv
   conv => whnf
   repeat ((refine ⟨⟨?_, ?_, ?_⟩, ?_⟩; (focus omega); (focus (first | omega | (simp; done) | (simp; omega))); (focus (first | (simp; done) | (simp; omega) | (rw [toksC_length]; simp; omega)))); conv => whnf)
   refine ⟨_, get_bysM c1 (by simp), ?_⟩
   conv => whnf
   repeat ((refine fit_i64 ⟨by first | omega | rfl | (dsimp only; omega), by first | omega | rfl | (dsimp only; omega)⟩ ?_); conv => whnf)
   obtain ⟨s, v, low, hu⟩ : ∃ s v low, uLead b[i] = (s, v, low) := ⟨_, _, _, rfl⟩
   have hle := uLead_le b[i] hc.1
   rw [hu] at hle
   simp only at hle
   refine Does.seqCut (α := Unit) (fun _ => mkSt [(0, .ro b.length (bys b)), (3, .int .i64 i), (4, .int .i64 v), (5, .int .i64 s), (6, .int .i64 low)] [] 0 95) (fun _ => ¬ b[i] < 128 ∧ 0 < s) ?_ ?_
   ·refine wpc_sound (M := MC) (PL := PL0) (CU := noCut) TTok mixed _ _ _ ?_
    conv => whnf
    refine ifB_dec (fun k2 => ?_) (fun k2 => ?_)
    ·conv => whnf
     repeat ((first | refine ifB_t ?_ | refine ifB_f ?_); conv => whnf)
     refine fit_i64 ⟨by omega, by omega⟩ ?_
     conv => whnf
     repeat ((first | refine ifB_t ?_ | refine ifB_f ?_); conv => whnf)
     rw [validR_asc k2] at hv
     refine ⟨i + 1, ⟨by omega, hv⟩, by omega, weaker_of [] rfl rfl ⟨⟨rfl, rfl, pureL_bys _⟩, ⟨rfl, rfl⟩, trivial⟩ trivial⟩
    conv => whnf
    have h31 := i64_and 5 (by decide) b[i] hc.1 (by omega)
    have h15 := i64_and 4 (by decide) b[i] hc.1 (by omega)
    have h7 := i64_and 3 (by decide) b[i] hc.1 (by omega)
    simp only [show (2 : Int) ^ 5 = 32 from rfl, show (2 : Int) ^ 4 = 16 from rfl, show (2 : Int) ^ 3 = 8 from rfl, show (32 : Int) - 1 = 31 from rfl, show (16 : Int) - 1 = 15 from rfl, show (8 : Int) - 1 = 7 from rfl] at h31 h15 h7
    have cs : (192 ≤ b[i] ∧ b[i] < 224 ∧ s = 1 ∧ v = b[i] % 32 ∧ low = 128) ∨ (224 ≤ b[i] ∧ b[i] < 240 ∧ s = 2 ∧ v = b[i] % 16 ∧ low = 2048) ∨ (240 ≤ b[i] ∧ b[i] < 248 ∧ s = 3 ∧ v = b[i] % 8 ∧ low = 65536) ∨
      (¬ (192 ≤ b[i] ∧ b[i] < 248) ∧ s = 0) := by
     unfold uLead at hu
     by_cases q1 : 192 ≤ b[i] ∧ b[i] < 224
     ·rw [if_pos q1] at hu; simp only [Prod.mk.injEq] at hu; omega
     rw [if_neg q1] at hu
     by_cases q2 : 224 ≤ b[i] ∧ b[i] < 240
     ·rw [if_pos q2] at hu; simp only [Prod.mk.injEq] at hu; omega
     rw [if_neg q2] at hu
     by_cases q3 : 240 ≤ b[i] ∧ b[i] < 248
     ·rw [if_pos q3] at hu; simp only [Prod.mk.injEq] at hu; omega
     rw [if_neg q3] at hu; simp only [Prod.mk.injEq] at hu; omega
    have hu0 := hu
    clear hle hu
    rcases cs with ⟨q1, q2, rfl, rfl, rfl⟩ | ⟨q1, q2, rfl, rfl, rfl⟩ | ⟨q1, q2, rfl, rfl, rfl⟩ | ⟨q1, rfl⟩
    ·conv => whnf
     repeat ((first | refine ifB_t ?_ | (refine ifB_pos (decide_eq_true (by first | omega | rfl | (dsimp only; omega))) ?_)); conv => whnf)
     exact ⟨(), ⟨k2, by omega⟩, weaker_of [] rfl rfl ⟨⟨rfl, rfl, pureL_bys _⟩, ⟨rfl, rfl⟩, ⟨rfl, h31⟩, ⟨rfl, rfl⟩, ⟨rfl, rfl⟩, trivial⟩ trivial⟩
    ·conv => whnf
     repeat ((first | refine ifB_t ?_ | (refine ifB_neg (decide_eq_false (by first | omega | rfl | (dsimp only; omega))) ?_) | (refine ifB_pos (decide_eq_true (by first | omega | rfl | (dsimp only; omega))) ?_)); conv => whnf)
     exact ⟨(), ⟨k2, by omega⟩, weaker_of [] rfl rfl ⟨⟨rfl, rfl, pureL_bys _⟩, ⟨rfl, rfl⟩, ⟨rfl, h15⟩, ⟨rfl, rfl⟩, ⟨rfl, rfl⟩, trivial⟩ trivial⟩
    ·conv => whnf
     repeat ((first | refine ifB_t ?_ | (refine ifB_neg (decide_eq_false (by first | omega | rfl | (dsimp only; omega))) ?_) | (refine ifB_pos (decide_eq_true (by first | omega | rfl | (dsimp only; omega))) ?_)); conv => whnf)
     exact ⟨(), ⟨k2, by omega⟩, weaker_of [] rfl rfl ⟨⟨rfl, rfl, pureL_bys _⟩, ⟨rfl, rfl⟩, ⟨rfl, h7⟩, ⟨rfl, rfl⟩, ⟨rfl, rfl⟩, trivial⟩ trivial⟩
    ·have e : validR b = false := by
      rw [← hv, validR_big k2, hu0, if_pos (Or.inl rfl)]
     rw [e]
     refine ifB_dec (fun k3 => ?_) (fun k3 => ?_)
     ·conv => whnf
      repeat ((first | refine ifB_t ?_ | (refine ifB_neg (decide_eq_false (by first | omega | rfl | (dsimp only; omega))) ?_) | (refine ifB_pos (decide_eq_true (by first | omega | rfl | (dsimp only; omega))) ?_) | refine ⟨rfl, ?_⟩); conv => whnf)
      rfl
     ·conv => whnf
      repeat ((first | refine ifB_f ?_ | (refine ifB_neg (decide_eq_false (by first | omega | rfl | (dsimp only; omega))) ?_) | refine ⟨rfl, ?_⟩); conv => whnf)
      rfl
   ·rintro ⟨⟩ ⟨k2, hs⟩
    refine wpc_sound (M := MC) (PL := PL0) (CU := noCut) TTok mixed _ _ _ ?_
    conv => whnf
    repeat ((refine fit_i64 ⟨by first | omega | rfl | (dsimp only; omega), by first | omega | rfl | (dsimp only; omega)⟩ ?_); conv => whnf)
    rw [validR_big k2, hu] at hv
    simp only at hv
    refine ifB_dec (fun k3 => ?_) (fun k3 => ?_)
    ·rw [if_pos (by simp; omega)] at hv
     rw [← hv]
     conv => whnf
     repeat ((refine ⟨rfl, ?_⟩); conv => whnf)
     rfl
    rw [if_neg (by simp; omega)] at hv
    conv => whnf
    obtain ⟨r, hr⟩ : ∃ r, r = b.drop (i + 1) := ⟨_, rfl⟩
    rw [← hr] at hv hd
    have hrl : r.length = b.length - (i + 1) := by rw [hr]; simp
    have hsr : s ≤ r.length := by omega
    have hrb : ∀ (k : Nat) (h : k < r.length), r[k] = b[i + 1 + k]'(by omega) := by intro k h; subst hr; simp
    refine Does.loop (fun k : Nat => mkSt [(0, .ro b.length (bys b)), (3, .int .i64 i), (4, .int .i64 (uVal v (r.take k))), (5, .int .i64 s), (6, .int .i64 low), (7, .int .i64 ((k : Int) + 1))] [] 0 95)
     (fun k => k ≤ s ∧ (r.take k).all uCont = true) (fun k => s - k) ?_ 0 ⟨Nat.zero_le _, rfl⟩ ?_
    ·rintro k ⟨hk, hall⟩
     have hub := uVal_bound (v := v) ⟨by omega, by omega⟩ (l := r.take k) (by simp; omega)
     have hul : (r.take k).length = k := by simp; omega
     rw [hul] at hub
     have hpow : (64 : Int) ^ k ≤ 262144 := by
      have : k = 0 ∨ k = 1 ∨ k = 2 ∨ k = 3 := by omega
      rcases this with rfl | rfl | rfl | rfl <;> decide
     obtain ⟨u, hu'⟩ : ∃ u, u = uVal v (r.take k) := ⟨_, rfl⟩
     rw [← hu'] at hub ⊢
     refine wpc_sound (M := MC) (PL := PL0) (CU := noCut) TTok mixed _ _ _ ?_
     conv => whnf
     refine ifB_dec (fun k4 => ?_) (fun k4 => ?_)
     ·have ck : k < s := by omega
      have cb : i + 1 + k < b.length := by omega
      have hx := hb b[i + 1 + k] (List.getElem_mem cb)
      conv => whnf
      repeat ((first | (refine fit_i64 ⟨by first | omega | rfl | (dsimp only; omega), by first | omega | rfl | (dsimp only; omega)⟩ ?_) | (refine ⟨⟨?_, ?_, ?_⟩, ?_⟩; (focus omega); (focus (first | omega | (simp; done) | (simp; omega))); (focus (first | (simp; done) | (simp; omega) | (rw [toksC_length]; simp; omega))))); conv => whnf)
      refine ⟨_, get_bysM cb (by simp; omega), ?_⟩
      conv => whnf
      rw [and192' hx]
      cases hcont : uCont b[i + 1 + k]
      ·have e : validR b = false := by
        rw [← hv]
        have : (r.take s).all uCont = false := by
         rw [List.all_eq_false]
         exact ⟨r[k]'(by omega), by
          have : r[k]'(by omega) = (r.take s)[k]'(by simp; omega) := by simp
          rw [this]; exact List.getElem_mem _, by rw [hrb k (by omega), hcont]; simp⟩
        rw [this]
        rfl
       rw [e]
       conv => whnf
       repeat ((first | refine ifB_t ?_ | refine ⟨rfl, ?_⟩); conv => whnf)
       rfl
      ·have h63 := u8_and63 _ hx.1 hx.2
       have e6 : u * 2 ^ min (Int.toNat 6) IntKind.i64.bits = u * 64 := by
        have : (2 : Int) ^ min (Int.toNat 6) IntKind.i64.bits = 64 := by decide
        rw [this]
       have hor := bits_join .i64 63 (by decide) wrap_i64_63 6 (u * 64) (b[i + 1 + k] % 64) (by omega) (by omega) (by omega) (by omega) (by omega) (by omega)
       conv => whnf
       repeat ((first | refine ifB_f ?_ | (refine fit_i64 ⟨by first | omega | rfl | (dsimp only; omega), by first | omega | rfl | (dsimp only; omega)⟩ ?_) | (refine And.intro (by first | omega | rfl | (dsimp only; omega)) ?_) | (refine ⟨⟨?_, ?_, ?_⟩, ?_⟩; (focus omega); (focus (first | omega | (simp; done) | (simp; omega))); (focus (first | (simp; done) | (simp; omega) | (rw [toksC_length]; simp; omega))))); conv => whnf)
       refine ⟨_, get_bysM cb (by simp; omega), ?_⟩
       conv => whnf
       repeat ((refine fit_i64 ⟨by first | omega | rfl | (dsimp only; omega), by first | omega | rfl | (dsimp only; omega)⟩ ?_); conv => whnf)
       refine ⟨k + 1, ⟨by omega, ?_⟩, by omega, weaker_of [] rfl rfl ⟨⟨rfl, rfl, pureL_bys _⟩, ⟨rfl, rfl⟩, ⟨rfl, ?_⟩, ⟨rfl, rfl⟩, ⟨rfl, rfl⟩, ⟨rfl, by omega⟩, trivial⟩ trivial⟩
       ·rw [List.take_succ_eq_append_getElem (by omega), List.all_append, hall, hrb k (by omega)]
        simp [hcont]
       ·rw [e6, h63, hor, uVal_take (by omega), ← hu', hrb k (by omega)]
     ·obtain rfl : k = s := by omega
      rw [hall, ← hu', Bool.true_and] at hv
      have bad : ¬ (low ≤ u ∧ u ≤ 1114111 ∧ ¬ (55296 ≤ u ∧ u ≤ 57343)) → validR b = false := by
       intro h
       rw [← hv, uRight, decide_eq_false h]
       rfl
      conv => whnf
      refine ifB_dec (fun k5 => ?_) (fun k5 => ?_)
      ·rw [bad (by omega)]
       conv => whnf
       repeat ((first | refine ifB_t ?_ | refine ⟨rfl, ?_⟩); conv => whnf)
       rfl
      conv => whnf
      repeat ((refine ifB_f ?_); conv => whnf)
      refine ifB_dec (fun k6 => ?_) (fun k6 => ?_)
      ·rw [bad (by omega)]
       conv => whnf
       repeat ((first | refine ifB_t ?_ | refine ⟨rfl, ?_⟩); conv => whnf)
       rfl
      conv => whnf
      repeat ((first | refine ifB_f ?_ | refine ⟨rfl, ?_⟩); conv => whnf)
      have hin := in_ok u 55296 57343
      by_cases k7 : 55296 ≤ u ∧ u ≤ 57343
      ·rw [decide_eq_true k7] at hin
       rw [bad (by omega)]
       refine ⟨_, _, hin, by first | rfl | simp [noRoIf, noRoL, noRoV, noRoL_bys], ?_⟩
       conv => whnf
       repeat ((first | refine ifB_t ?_ | refine ifB_f ?_ | refine ⟨rfl, ?_⟩); conv => whnf)
       rfl
      ·rw [decide_eq_false k7] at hin
       have hg : uRight low u = true := by rw [uRight]; exact decide_eq_true ⟨by omega, by omega, k7⟩
       rw [hg, Bool.true_and, hr, List.drop_drop] at hv
       refine ⟨_, _, hin, by first | rfl | simp [noRoIf, noRoL, noRoV, noRoL_bys], ?_⟩
       conv => whnf
       repeat ((first | refine ifB_f ?_ | (refine fit_i64 ⟨by first | omega | rfl | (dsimp only; omega), by first | omega | rfl | (dsimp only; omega)⟩ ?_)); conv => whnf)
       refine ⟨i + 1 + k, ⟨by omega, hv⟩, by omega, weaker_of [] rfl rfl ⟨⟨rfl, rfl, pureL_bys _⟩, ⟨rfl, by omega⟩, trivial⟩ trivial⟩
    ·exact weaker_of [] rfl rfl ⟨⟨rfl, rfl, pureL_bys _⟩, ⟨rfl, rfl⟩, ⟨rfl, rfl⟩, ⟨rfl, rfl⟩, ⟨rfl, rfl⟩, ⟨rfl, rfl⟩, trivial⟩ trivial
  ·rw [List.drop_of_length_le (by omega), validR_nil] at hv
   rw [← hv]
   conv => whnf
   repeat ((refine ⟨rfl, ?_⟩); conv => whnf)
   rfl
 ·exact weaker_of [] rfl rfl ⟨⟨rfl, rfl, pureL_bys _⟩, ⟨rfl, rfl⟩, trivial⟩ trivial
end
section

attribute [local irreducible] ifB fitP Does Weaker
def PLwbX : Plan := .all [(7, takesTo [8, 9] (.all [(10, .done)]))]
def PLwb : Nat → Bool × Plan := plans [(10, (false, takesTo [0, 1, 2, 3, 5] (.all [(4, .all [(6, PLwbX)]), (6, .all [(4, PLwbX)])])))]
theorem wBytes_bad (u : List Int → Bool) (t : Tok) (at' : Nat) (out : List Int) : wBytes u t ⟨at', out, true⟩ = ⟨at', out, true⟩ := by simp [wBytes]
theorem wBytes_no (u : List Int → Bool) (t : Tok) (at' : Nat) (out : List Int) (h : (t.k = 4 ∧ u t.b = false) ∨ t.n ≠ 0 ∨ 32768 < (t.b.length : Int)) : wBytes u t ⟨at', out, false⟩ = ⟨at', out, true⟩ := by
 unfold wBytes
 rw [if_pos]
 rcases h with ⟨h1, h2⟩ | h | h <;> simp [*]
theorem wBytes_yes (u : List Int → Bool) (t : Tok) (at' : Nat) (out : List Int) (h1 : t.k = 4 → u t.b = true) (h2 : t.n = 0) (h3 : ¬ 32768 < (t.b.length : Int)) :
  wBytes u t ⟨at', out, false⟩ = ⟨at', (wHead (if t.k = 4 then 3 else 2) t.b.length ⟨at', out, false⟩).out ++ t.b, (wHead (if t.k = 4 then 3 else 2) t.b.length ⟨at', out, false⟩).bad⟩ := by
 unfold wBytes
 rw [if_neg]
 ·rfl
 ·simp only [h2, decide_eq_false h3]
  by_cases hk : t.k = 4
  ·simp [hk, h1 hk]
  ·simp [hk]
theorem wHead_out (major n : Int) (w : W) : (wHead major n w).out.length ≤ w.out.length + 9 := by
 unfold wHead putS
 split
 ·simp
 ·have := sizeR_le n (by omega)
  simp [putL]
  omega
theorem wbytes_ok (len : Nat) (L : List AV) (hL : pureL L = true) (w : W) (hb : w.out.length ≤ 1048576) (t : Tok) (ht : TokOk t) (hk : t.k = 3 ∨ t.k = 4) (hl : t.b.length ≤ 1099511627776) :
  ACall Tryz.prog 125 [.ref (wC len L w), .agg (tokC t)] (.tuple []) [.ref (wC len L (wBytes validR t w))] := by
 obtain ⟨at', out, bad⟩ := w
 obtain ⟨tk, tn, tb⟩ := t
 refine ACall.of_does TTok Tryz.func125 rfl Tryz.call125 rfl (wpc_sound (M := MC) (PL := PLwb) (CU := noCut) TTok mixed _ _ _ ?_)
 have hu := utf8_ok tb ht.2.2 hl
 obtain ⟨hk1, hn1, hb1⟩ := ht
 simp only at hk hn1 hb hl
 conv => whnf
 repeat ((first | refine ⟨rfl, ?_⟩ | refine ⟨_, rfl, ?_⟩); conv => whnf)
 rcases hk with rfl | rfl
 ·cases bad
  ·have hh := whead_ok len L hL ⟨at', out, false⟩ hb 2 tb.length (by omega)
   have ho := wHead_out 2 tb.length ⟨at', out, false⟩
   simp only at ho
   conv => whnf
   repeat ((first | refine ifB_t ?_ | refine ifB_f ?_ | refine ⟨_, rfl, ?_⟩); conv => whnf)
   refine ifB_dec (fun k1 => ?_) (fun k1 => ?_)
   ·rw [wBytes_no _ _ _ _ (.inr (.inl k1))]
    conv => whnf
    repeat ((first | refine ifB_t ?_ | refine ⟨rfl, ?_⟩ | refine ⟨_, rfl, ?_⟩ | refine ⟨⟨rfl, rfl⟩, ?_⟩ | (refine ⟨⟨rfl, rfl, rfl, ?_, pureL_bys _⟩, ?_⟩; (focus (simp; done))) | (refine ⟨⟨rfl, rfl, ?_⟩, ?_⟩; (focus (first | assumption | exact pureL_bys _ | exact pureL_toks _))) | (refine ⟨⟨rfl, rfl, ?_⟩, ?_⟩; (focus (first | exact Nat.le_of_ble_eq_true rfl | (simp; done))))); conv => whnf)
    rfl
   ·have k1' : tn = 0 := Classical.not_not.1 k1
    conv => whnf
    repeat ((first | refine ifB_f ?_ | refine ⟨_, rfl, ?_⟩ | (refine ⟨⟨rfl, rfl, ?_⟩, ?_⟩; (focus (first | exact Nat.le_of_ble_eq_true rfl | (simp; done))))); conv => whnf)
    refine ifB_dec (fun k2 => ?_) (fun k2 => ?_)
    ·rw [wBytes_no _ _ _ _ (.inr (.inr k2)), decide_eq_true k2]
     conv => whnf
     repeat ((first | refine ⟨rfl, ?_⟩ | refine ⟨⟨rfl, rfl⟩, ?_⟩ | (refine ⟨⟨rfl, rfl, rfl, ?_, pureL_bys _⟩, ?_⟩; (focus (simp; done))) | (refine ⟨⟨rfl, rfl, ?_⟩, ?_⟩; (focus (first | assumption | exact pureL_bys _ | exact pureL_toks _)))); conv => whnf)
     rfl
    ·rw [wBytes_yes _ _ _ _ (by simp) k1' k2, decide_eq_false k2]
     simp only at k2
     conv => whnf
     repeat ((first | refine ⟨rfl, ?_⟩ | refine ⟨_, rfl, ?_⟩ | (refine ⟨⟨rfl, rfl, ?_, pureL_bys _⟩, ?_⟩; (focus (simp; done))) | (refine And.intro (by first | omega | rfl | (dsimp only; omega)) ?_)); conv => whnf)
     refine ⟨_, _, hh, by first | rfl | simp [noRoIf, noRoL, noRoV, noRoL_bys], ?_⟩
     conv => whnf
     refine ⟨by kernel_rfl, ?_⟩
     conv => whnf
     refine ⟨?_, ?_⟩
     ·conv => whnf
      repeat ((refine ⟨_, rfl, ?_⟩); conv => whnf)
      refine ⟨by simp, ?_⟩
      conv => whnf
      repeat ((refine ⟨ones_bys _, ?_⟩); conv => whnf)
      refine ⟨⟨rfl, rfl, by simp, by simp [limB]; omega⟩, ?_⟩
      conv => whnf
      repeat ((first | refine ⟨⟨rfl, rfl⟩, ?_⟩ | (refine ⟨⟨rfl, rfl, ?_⟩, ?_⟩; (focus (first | assumption | exact pureL_bys _ | exact pureL_toks _))) | (refine ⟨⟨rfl, rfl, ?_⟩, ?_⟩; (focus (first | exact Nat.le_of_ble_eq_true rfl | (simp; done))))); conv => whnf)
      refine ⟨⟨by simp, rfl, bys_append _ _, by simp, pureL_bys _⟩, ?_⟩
      conv => whnf
      repeat ((refine ⟨rfl, ?_⟩); conv => whnf)
      rfl
     ·conv => whnf
      repeat ((refine ⟨_, rfl, ?_⟩); conv => whnf)
      refine ⟨by simp, ?_⟩
      conv => whnf
      repeat ((refine ⟨ones_bys _, ?_⟩); conv => whnf)
      refine ⟨⟨rfl, rfl, by simp, by simp [limB]; omega⟩, ?_⟩
      conv => whnf
      repeat ((first | refine ⟨⟨rfl, rfl⟩, ?_⟩ | (refine ⟨⟨rfl, rfl, ?_⟩, ?_⟩; (focus (first | assumption | exact pureL_bys _ | exact pureL_toks _))) | (refine ⟨⟨rfl, rfl, ?_⟩, ?_⟩; (focus (first | exact Nat.le_of_ble_eq_true rfl | (simp; done))))); conv => whnf)
      refine ⟨⟨by simp, rfl, bys_append _ _, by simp, pureL_bys _⟩, ?_⟩
      conv => whnf
      repeat ((refine ⟨rfl, ?_⟩); conv => whnf)
      rfl
  ·rw [wBytes_bad]
   conv => whnf
   repeat ((first | refine ifB_t ?_ | refine ifB_f ?_ | refine ⟨rfl, ?_⟩ | refine ⟨_, rfl, ?_⟩ | refine ⟨⟨rfl, rfl⟩, ?_⟩ | (refine ⟨⟨rfl, rfl, rfl, ?_, pureL_bys _⟩, ?_⟩; (focus (simp; done))) | (refine ⟨⟨rfl, rfl, ?_⟩, ?_⟩; (focus (first | assumption | exact pureL_bys _ | exact pureL_toks _))) | (refine ⟨⟨rfl, rfl, ?_⟩, ?_⟩; (focus (first | exact Nat.le_of_ble_eq_true rfl | (simp; done))))); conv => whnf)
   rfl
 ·cases bad
  ·have hh := whead_ok len L hL ⟨at', out, false⟩ hb 3 tb.length (by omega)
   have ho := wHead_out 3 tb.length ⟨at', out, false⟩
   simp only at ho
   conv => whnf
   repeat ((first | refine ifB_t ?_ | refine ifB_f ?_ | refine ⟨pureL_bys _, ?_⟩ | refine ⟨rfl, ?_⟩ | refine ⟨_, rfl, ?_⟩); conv => whnf)
   cases hv : validR tb
   ·rw [hv] at hu
    rw [wBytes_no _ _ _ _ (.inl ⟨rfl, hv⟩)]
    refine ⟨_, _, hu, by first | rfl | simp [noRoIf, noRoL, noRoV, noRoL_bys], ?_⟩
    conv => whnf
    repeat ((first | refine ifB_t ?_ | refine ifB_f ?_ | refine ⟨rfl, ?_⟩ | refine ⟨_, rfl, ?_⟩ | refine ⟨⟨rfl, rfl⟩, ?_⟩ | (refine ⟨⟨rfl, rfl, rfl, ?_, pureL_bys _⟩, ?_⟩; (focus (simp; done))) | (refine ⟨⟨rfl, rfl, ?_⟩, ?_⟩; (focus (first | assumption | exact pureL_bys _ | exact pureL_toks _))) | (refine ⟨⟨rfl, rfl, ?_⟩, ?_⟩; (focus (first | exact Nat.le_of_ble_eq_true rfl | (simp; done))))); conv => whnf)
    rfl
   ·rw [hv] at hu
    refine ⟨_, _, hu, by first | rfl | simp [noRoIf, noRoL, noRoV, noRoL_bys], ?_⟩
    conv => whnf
    repeat ((first | refine ifB_f ?_ | refine ⟨_, rfl, ?_⟩ | (refine ⟨⟨rfl, rfl, ?_⟩, ?_⟩; (focus (first | exact Nat.le_of_ble_eq_true rfl | (simp; done))))); conv => whnf)
    refine ifB_dec (fun k1 => ?_) (fun k1 => ?_)
    ·rw [wBytes_no _ _ _ _ (.inr (.inl k1))]
     conv => whnf
     repeat ((first | refine ifB_t ?_ | refine ⟨rfl, ?_⟩ | refine ⟨_, rfl, ?_⟩ | refine ⟨⟨rfl, rfl⟩, ?_⟩ | (refine ⟨⟨rfl, rfl, rfl, ?_, pureL_bys _⟩, ?_⟩; (focus (simp; done))) | (refine ⟨⟨rfl, rfl, ?_⟩, ?_⟩; (focus (first | assumption | exact pureL_bys _ | exact pureL_toks _))) | (refine ⟨⟨rfl, rfl, ?_⟩, ?_⟩; (focus (first | exact Nat.le_of_ble_eq_true rfl | (simp; done))))); conv => whnf)
     rfl
    ·have k1' : tn = 0 := Classical.not_not.1 k1
     conv => whnf
     repeat ((first | refine ifB_f ?_ | refine ⟨_, rfl, ?_⟩ | (refine ⟨⟨rfl, rfl, ?_⟩, ?_⟩; (focus (first | exact Nat.le_of_ble_eq_true rfl | (simp; done))))); conv => whnf)
     refine ifB_dec (fun k2 => ?_) (fun k2 => ?_)
     ·rw [wBytes_no _ _ _ _ (.inr (.inr k2)), decide_eq_true k2]
      conv => whnf
      repeat ((first | refine ⟨rfl, ?_⟩ | refine ⟨⟨rfl, rfl⟩, ?_⟩ | (refine ⟨⟨rfl, rfl, rfl, ?_, pureL_bys _⟩, ?_⟩; (focus (simp; done))) | (refine ⟨⟨rfl, rfl, ?_⟩, ?_⟩; (focus (first | assumption | exact pureL_bys _ | exact pureL_toks _)))); conv => whnf)
      rfl
     ·rw [wBytes_yes _ _ _ _ (fun _ => hv) k1' k2, decide_eq_false k2]
      simp only at k2
      conv => whnf
      repeat ((first | refine ⟨rfl, ?_⟩ | refine ⟨_, rfl, ?_⟩ | (refine ⟨⟨rfl, rfl, ?_, pureL_bys _⟩, ?_⟩; (focus (simp; done))) | (refine And.intro (by first | omega | rfl | (dsimp only; omega)) ?_)); conv => whnf)
      refine ⟨_, _, hh, by first | rfl | simp [noRoIf, noRoL, noRoV, noRoL_bys], ?_⟩
      conv => whnf
      refine ⟨by kernel_rfl, ?_⟩
      conv => whnf
      refine ⟨?_, ?_⟩
      ·conv => whnf
       repeat ((refine ⟨_, rfl, ?_⟩); conv => whnf)
       refine ⟨by simp, ?_⟩
       conv => whnf
       repeat ((refine ⟨ones_bys _, ?_⟩); conv => whnf)
       refine ⟨⟨rfl, rfl, by simp, by simp [limB]; omega⟩, ?_⟩
       conv => whnf
       repeat ((first | refine ⟨⟨rfl, rfl⟩, ?_⟩ | (refine ⟨⟨rfl, rfl, ?_⟩, ?_⟩; (focus (first | assumption | exact pureL_bys _ | exact pureL_toks _))) | (refine ⟨⟨rfl, rfl, ?_⟩, ?_⟩; (focus (first | exact Nat.le_of_ble_eq_true rfl | (simp; done))))); conv => whnf)
       refine ⟨⟨by simp, rfl, bys_append _ _, by simp, pureL_bys _⟩, ?_⟩
       conv => whnf
       repeat ((refine ⟨rfl, ?_⟩); conv => whnf)
       rfl
      ·conv => whnf
       repeat ((refine ⟨_, rfl, ?_⟩); conv => whnf)
       refine ⟨by simp, ?_⟩
       conv => whnf
       repeat ((refine ⟨ones_bys _, ?_⟩); conv => whnf)
       refine ⟨⟨rfl, rfl, by simp, by simp [limB]; omega⟩, ?_⟩
       conv => whnf
       repeat ((first | refine ⟨⟨rfl, rfl⟩, ?_⟩ | (refine ⟨⟨rfl, rfl, ?_⟩, ?_⟩; (focus (first | assumption | exact pureL_bys _ | exact pureL_toks _))) | (refine ⟨⟨rfl, rfl, ?_⟩, ?_⟩; (focus (first | exact Nat.le_of_ble_eq_true rfl | (simp; done))))); conv => whnf)
       refine ⟨⟨by simp, rfl, bys_append _ _, by simp, pureL_bys _⟩, ?_⟩
       conv => whnf
       repeat ((refine ⟨rfl, ?_⟩); conv => whnf)
       rfl
  ·rw [wBytes_bad]
   conv => whnf
   repeat ((first | refine ifB_t ?_ | refine ⟨rfl, ?_⟩ | refine ⟨_, rfl, ?_⟩ | refine ⟨⟨rfl, rfl⟩, ?_⟩ | (refine ⟨⟨rfl, rfl, rfl, ?_, pureL_bys _⟩, ?_⟩; (focus (simp; done))) | (refine ⟨⟨rfl, rfl, ?_⟩, ?_⟩; (focus (first | assumption | exact pureL_bys _ | exact pureL_toks _))) | (refine ⟨⟨rfl, rfl, ?_⟩, ?_⟩; (focus (first | exact Nat.le_of_ble_eq_true rfl | (simp; done))))); conv => whnf)
   rfl
end
section

theorem wNumber_out (major : Int) (t : Tok) (w : W) : (wNumber major t w).out.length ≤ w.out.length + 9 := by
 unfold wNumber
 exact wHead_out _ _ _
theorem wBytes_out (u : List Int → Bool) (t : Tok) (w : W) : (wBytes u t w).out.length ≤ w.out.length + 32777 := by
 unfold wBytes
 split
 ·simp
 ·rename_i h
  simp only [Bool.or_eq_true, decide_eq_true_eq, not_or] at h
  have := wHead_out (if t.k = 4 then 3 else 2) t.b.length w
  simp only [List.length_append]
  omega
theorem wArr_le (g : W → W) (B : Nat) (hg : ∀ w, w.out.length ≤ B → (g w).out.length ≤ B) : ∀ (n : Nat) (w : W), w.out.length ≤ B → (wArr g n w).out.length ≤ B
 | 0, w, h => h
 | n + 1, w, h => by
  unfold wArr
  split
  ·exact h
  ·exact wArr_le g B hg n _ (hg w h)
theorem wMap_le (g : W → W) (B : Nat) (hg : ∀ w, w.out.length ≤ B → (g w).out.length ≤ B) : ∀ (n i a b : Nat) (w : W), w.out.length ≤ B → (wMap g n i a b w).out.length ≤ B
 | 0, _, _, _, w, h => h
 | n + 1, i, a, b, w, h => by
  unfold wMap
  split
  ·exact h
  ·split
   ·exact hg w h
   ·exact wMap_le g B hg n _ _ _ _ (hg _ (hg w h))
theorem wItem_le (u : List Int → Bool) (l : List Tok) : ∀ (f : Nat) (w : W), w.out.length ≤ 65600 → (wItem u l f w).out.length ≤ 65600
 | f, w, hw => by
  unfold wItem
  split
  ·exact hw
  ·rename_i h
   have hat : w.at' < l.length := by omega
   have ho : w.out.length ≤ 32768 := by omega
   have h1 := fun m t => wNumber_out m t { w with at' := w.at' + 1 }
   have h2 := fun t => wBytes_out u t { w with at' := w.at' + 1 }
   have h3 := fun m n => wHead_out m n { w with at' := w.at' + 1 }
   simp only at h1 h2 h3 ⊢
   split
   ·have := h1 0 l[w.at']; omega
   split
   ·have := h1 1 l[w.at']; omega
   split
   ·have := h2 l[w.at']; omega
   split
   ·cases f with
    | zero => exact hw
    | succ f =>
     simp only
     split
     ·exact hw
     split
     ·exact wArr_le _ 65600 (fun w hw => wItem_le u l f w hw) _ _ (by have := h3 4 l[w.at'].n; omega)
     ·exact wMap_le _ 65600 (fun w hw => wItem_le u l f w hw) _ _ _ _ _ (by have := h3 5 l[w.at'].n; omega)
   ·exact hw
def Mono (g : W → W) : Prop := ∀ w, (g w).bad = false → w.bad = false ∧ w.out <+: (g w).out
theorem wHead_mono (major n : Int) : Mono (wHead major n) := by
 intro w h
 simp only [wHead, Bool.or_eq_false_iff, decide_eq_false_iff_not] at h ⊢
 refine ⟨h.1, ?_⟩
 have h2 := h.2
 unfold putS at h2 ⊢
 split at h2
 ·simp at h2
 ·rename_i hh
  rw [if_neg hh]
  exact List.prefix_append _ _
theorem wNumber_mono (major : Int) (t : Tok) : Mono (wNumber major t) := by
 intro w h
 obtain ⟨h1, h2⟩ := wHead_mono _ _ _ h
 simp only [Bool.or_eq_false_iff] at h1
 exact ⟨h1.1, h2⟩
theorem wBytes_mono (u : List Int → Bool) (t : Tok) : Mono (wBytes u t) := by
 intro w h
 unfold wBytes at h ⊢
 split at h
 ·simp at h
 ·rename_i hh
  rw [if_neg hh]
  obtain ⟨h1, h2⟩ := wHead_mono _ _ _ h
  exact ⟨h1, h2.trans (List.prefix_append _ _)⟩
theorem wArr_mono (g : W → W) (hg : Mono g) : ∀ n, Mono (wArr g n)
 | 0 => fun w h => ⟨h, List.prefix_refl _⟩
 | n + 1 => fun w h => by
  unfold wArr at h ⊢
  split at h
  ·rename_i hb; rw [hb] at h; cases h
  ·rename_i hb
   rw [if_neg hb]
   obtain ⟨h1, h2⟩ := wArr_mono g hg n _ h
   obtain ⟨h3, h4⟩ := hg _ h1
   exact ⟨h3, h4.trans h2⟩
theorem wMap_mono (g : W → W) (hg : Mono g) : ∀ n i a b, Mono (wMap g n i a b)
 | 0, _, _, _ => fun w h => ⟨h, List.prefix_refl _⟩
 | n + 1, i, a, b => fun w h => by
  unfold wMap at h ⊢
  split at h
  ·rename_i hb; rw [hb] at h; cases h
  ·rename_i hb
   rw [if_neg hb]
   split at h
   ·simp at h
   ·rename_i hc
    rw [if_neg hc]
    obtain ⟨h1, h2⟩ := wMap_mono g hg n _ _ _ _ h
    obtain ⟨h3, h4⟩ := hg _ h1
    obtain ⟨h5, h6⟩ := hg _ h3
    exact ⟨h5, h6.trans (h4.trans h2)⟩
theorem wItem_mono (u : List Int → Bool) (l : List Tok) : ∀ f, Mono (wItem u l f)
 | 0 => fun w h => by
  unfold wItem at h ⊢
  split at h
  ·simp at h
  ·rename_i hh
   rw [dif_neg hh]
   simp only at h ⊢
   split at h
   ·rename_i k; rw [if_pos k]; exact wNumber_mono _ _ _ h
   rename_i k1; rw [if_neg k1]
   split at h
   ·rename_i k; rw [if_pos k]; exact wNumber_mono _ _ _ h
   rename_i k2; rw [if_neg k2]
   split at h
   ·rename_i k; rw [if_pos k]; exact wBytes_mono _ _ _ h
   rename_i k3; rw [if_neg k3]
   split at h
   ·rename_i k; rw [if_pos k]
    cases h
   ·cases h
 | f + 1 => fun w h => by
  unfold wItem at h ⊢
  split at h
  ·simp at h
  ·rename_i hh
   rw [dif_neg hh]
   simp only at h ⊢
   split at h
   ·rename_i k; rw [if_pos k]; exact wNumber_mono _ _ _ h
   rename_i k1; rw [if_neg k1]
   split at h
   ·rename_i k; rw [if_pos k]; exact wNumber_mono _ _ _ h
   rename_i k2; rw [if_neg k2]
   split at h
   ·rename_i k; rw [if_pos k]; exact wBytes_mono _ _ _ h
   rename_i k3; rw [if_neg k3]
   split at h
   ·rename_i k; rw [if_pos k]
    split at h
    ·cases h
    ·rename_i k4; rw [if_neg k4]
     split at h
     ·rename_i k5; rw [if_pos k5]
      obtain ⟨h1, h2⟩ := wArr_mono _ (wItem_mono u l f) _ _ h
      obtain ⟨h3, h4⟩ := wHead_mono _ _ _ h1
      exact ⟨h3, h4.trans h2⟩
     ·rename_i k5; rw [if_neg k5]
      obtain ⟨h1, h2⟩ := wMap_mono _ (wItem_mono u l f) _ _ _ _ _ h
      obtain ⟨h3, h4⟩ := wHead_mono _ _ _ h1
      exact ⟨h3, h4.trans h2⟩
   ·cases h
theorem byt_putL' (M n : Int) (h0 : 0 ≤ M) (h1 : M < 8) (hn : 0 ≤ n) : Byt (putL M n) := by
 intro x hx
 have sn := sizeR_le n hn
 simp only [putL, List.mem_cons] at hx
 rcases hx with rfl | hx
 ·omega
 ·exact byt_beAcc _ _ _ x hx
theorem byt_append {a b : List Int} (ha : Byt a) (hb : Byt b) : Byt (a ++ b) := fun x hx => by
 rcases List.mem_append.1 hx with h | h
 ·exact ha x h
 ·exact hb x h
theorem wHead_byt (major n : Int) (h0 : 0 ≤ major ∧ major < 8) (w : W) (hw : Byt w.out) : Byt (wHead major n w).out := by
 unfold wHead putS
 split
 ·simp [Byt]
 ·exact byt_append hw (byt_putL' _ _ h0.1 h0.2 (by omega))
theorem wNumber_byt (major : Int) (h0 : 0 ≤ major ∧ major < 8) (t : Tok) (w : W) (hw : Byt w.out) : Byt (wNumber major t w).out := wHead_byt _ _ h0 _ hw
theorem wBytes_byt (u : List Int → Bool) (t : Tok) (ht : Byt t.b) (w : W) (hw : Byt w.out) : Byt (wBytes u t w).out := by
 unfold wBytes
 split
 ·exact hw
 ·exact byt_append (wHead_byt _ _ (by split <;> omega) _ hw) ht
theorem wArr_byt (g : W → W) (hg : ∀ w, Byt w.out → Byt (g w).out) : ∀ (n : Nat) (w : W), Byt w.out → Byt (wArr g n w).out
 | 0, w, h => h
 | n + 1, w, h => by
  unfold wArr
  split
  ·exact h
  ·exact wArr_byt g hg n _ (hg w h)
theorem wMap_byt (g : W → W) (hg : ∀ w, Byt w.out → Byt (g w).out) : ∀ (n i a b : Nat) (w : W), Byt w.out → Byt (wMap g n i a b w).out
 | 0, _, _, _, w, h => h
 | n + 1, i, a, b, w, h => by
  unfold wMap
  split
  ·exact h
  ·split
   ·exact hg w h
   ·exact wMap_byt g hg n _ _ _ _ (hg _ (hg w h))
theorem wItem_byt (u : List Int → Bool) (l : List Tok) (hl : ToksOk l) : ∀ (f : Nat) (w : W), Byt w.out → Byt (wItem u l f w).out
 | f, w, hw => by
  unfold wItem
  split
  ·exact hw
  ·rename_i h
   have hat : w.at' < l.length := by omega
   simp only
   split
   ·exact wNumber_byt _ (by omega) _ _ hw
   split
   ·exact wNumber_byt _ (by omega) _ _ hw
   split
   ·exact wBytes_byt _ _ (hl _ (List.getElem_mem hat)).2.2 _ hw
   split
   ·cases f with
    | zero => exact hw
    | succ f =>
     simp only
     split
     ·exact hw
     split
     ·exact wArr_byt _ (fun w hw => wItem_byt u l hl f w hw) _ _ (wHead_byt _ _ (by omega) _ hw)
     ·exact wMap_byt _ (fun w hw => wItem_byt u l hl f w hw) _ _ _ _ _ (wHead_byt _ _ (by omega) _ hw)
   ·exact hw
end
section

attribute [local irreducible] ifB fitP Does Weaker
def ItemOk (l : List Tok) (f : Nat) : Prop := ∀ w : W, w.out.length ≤ 65600 → Byt w.out →
 ACall Tryz.prog 105 [.ref (wC l.length (toksC l) w), .int .i64 (7 - (f : Int))] (.tuple []) [.ref (wC l.length (toksC l) (wItem validR l f w))]
theorem compare_ok (x y : List Int) (hx : Byt x) (hy : Byt y) : ACall Tryz.prog 77 [.ro x.length (bys x), .ro y.length (bys y)] (.int .i64 (cmpI x y)) [] := by
 refine ACall.of_does TTok Tryz.func77 rfl Tryz.call77 rfl (wpc_sound (M := MC) (PL := PL0) (CU := noCut) TTok mixed _ _ _ ?_)
 conv => whnf
 refine ⟨⟨_, Tryz.func99, by kernel_rfl, by kernel_rfl, by kernel_rfl, by kernel_rfl⟩, ?_⟩
 conv => whnf
 repeat ((first | refine ifB_t ?_ | refine ifB_f ?_); conv => whnf)
 refine ⟨x, ⟨rfl, rfl, hx⟩, ?_⟩
 conv => whnf
 repeat ((first | refine ifB_t ?_ | refine ifB_f ?_); conv => whnf)
 refine ⟨y, ⟨rfl, rfl, hy⟩, ?_⟩
 conv => whnf
 repeat ((refine ⟨⟨rfl, rfl⟩, ?_⟩); conv => whnf)
 rfl
theorem many_bad (len : Nat) (L : List AV) (hL : pureL L = true) (w : W) (t : Tok) (d : Int) (h : wManyBad t = true ∨ 6 < d) :
  ACall Tryz.prog 126 [.ref (wC len L w), .agg (tokC t), .int .i64 d] (.tuple []) [.ref (wC len L { w with bad := true })] := by
 obtain ⟨at', out, bad⟩ := w
 refine ACall.of_does TTok Tryz.func126 rfl Tryz.call126 rfl (wpc_sound (M := MC) (PL := PL0) (CU := noCut) TTok mixed _ _ _ ?_)
 obtain ⟨tk, tn, tb⟩ := t
 conv => whnf
 repeat ((first | refine ⟨rfl, ?_⟩ | refine ⟨_, rfl, ?_⟩); conv => whnf)
 refine ifB_dec (fun k1 => ?_) (fun k1 => ?_)
 ·conv => whnf
  repeat ((first | refine ifB_t ?_ | refine ⟨rfl, ?_⟩ | refine ⟨⟨rfl, rfl⟩, ?_⟩ | (refine ⟨⟨rfl, rfl, rfl, ?_, pureL_bys _⟩, ?_⟩; (focus (simp; done))) | (refine ⟨⟨rfl, rfl, ?_⟩, ?_⟩; (focus (first | assumption | exact pureL_bys _ | exact pureL_toks _))) | (refine ⟨⟨rfl, rfl, ?_⟩, ?_⟩; (focus (first | exact Nat.le_of_ble_eq_true rfl | (simp; done))))); conv => whnf)
  rfl
 conv => whnf
 repeat ((first | refine ifB_f ?_ | refine ⟨_, rfl, ?_⟩); conv => whnf)
 refine ifB_dec (fun k2 => ?_) (fun k2 => ?_)
 ·conv => whnf
  repeat ((first | refine ifB_t ?_ | refine ⟨rfl, ?_⟩ | refine ⟨⟨rfl, rfl⟩, ?_⟩ | (refine ⟨⟨rfl, rfl, rfl, ?_, pureL_bys _⟩, ?_⟩; (focus (simp; done))) | (refine ⟨⟨rfl, rfl, ?_⟩, ?_⟩; (focus (first | assumption | exact pureL_bys _ | exact pureL_toks _))) | (refine ⟨⟨rfl, rfl, ?_⟩, ?_⟩; (focus (first | exact Nat.le_of_ble_eq_true rfl | (simp; done))))); conv => whnf)
  rfl
 conv => whnf
 repeat ((first | refine ifB_f ?_ | refine ⟨_, rfl, ?_⟩); conv => whnf)
 refine ifB_dec (fun k3 => ?_) (fun k3 => ?_)
 ·conv => whnf
  repeat ((first | refine ifB_t ?_ | refine ⟨rfl, ?_⟩ | refine ⟨⟨rfl, rfl⟩, ?_⟩ | (refine ⟨⟨rfl, rfl, rfl, ?_, pureL_bys _⟩, ?_⟩; (focus (simp; done))) | (refine ⟨⟨rfl, rfl, ?_⟩, ?_⟩; (focus (first | assumption | exact pureL_bys _ | exact pureL_toks _))) | (refine ⟨⟨rfl, rfl, ?_⟩, ?_⟩; (focus (first | exact Nat.le_of_ble_eq_true rfl | (simp; done))))); conv => whnf)
  rfl
 conv => whnf
 repeat ((refine ifB_f ?_); conv => whnf)
 refine ifB_dec (fun k4 => ?_) (fun k4 => ?_)
 ·conv => whnf
  repeat ((first | refine ⟨rfl, ?_⟩ | refine ⟨⟨rfl, rfl⟩, ?_⟩ | (refine ⟨⟨rfl, rfl, rfl, ?_, pureL_bys _⟩, ?_⟩; (focus (simp; done))) | (refine ⟨⟨rfl, rfl, ?_⟩, ?_⟩; (focus (first | assumption | exact pureL_bys _ | exact pureL_toks _))) | (refine ⟨⟨rfl, rfl, ?_⟩, ?_⟩; (focus (first | exact Nat.le_of_ble_eq_true rfl | (simp; done))))); conv => whnf)
  rfl
 exfalso
 simp only at k1 k2 k3 k4
 rcases h with h | h
 ·simp [wManyBad] at h
  omega
 ·omega
theorem many_arr (l : List Tok) (f : Nat) (hl : ToksOk l) (hi : ItemOk l f) (hf : f ≤ 6) (w : W) (hw : w.out.length ≤ 32768) (t : Tok) (hwb : Byt w.out) (hk : t.k = 5) (hb : wManyBad t = false) :
  ACall Tryz.prog 126 [.ref (wC l.length (toksC l) w), .agg (tokC t), .int .i64 (6 - (f : Int))] (.tuple []) [.ref (wC l.length (toksC l) (wArr (wItem validR l f) t.n.toNat (wHead 4 t.n w)))] := by
 have hL := pureL_toks l
 obtain ⟨at', out, bad⟩ := w
 obtain ⟨tk, tn, tb⟩ := t
 simp only [wManyBad, Bool.or_eq_false_iff, decide_eq_false_iff_not] at hb hk hw hwb ⊢
 obtain ⟨⟨hb1, hb2⟩, hb3⟩ := hb
 subst hk
 obtain ⟨N, rfl⟩ : ∃ N : Nat, tn = N := ⟨tn.toNat, by omega⟩
 have hh := whead_ok l.length (toksC l) hL ⟨at', out, bad⟩ (show out.length ≤ 1048576 by omega) 4 (N : Int) (by omega)
 have ho := wHead_out 4 (N : Int) ⟨at', out, bad⟩
 simp only at ho
 obtain ⟨w0, hw0⟩ : ∃ w0, w0 = wHead 4 (N : Int) ⟨at', out, bad⟩ := ⟨_, rfl⟩
 rw [← hw0] at hh ho ⊢
 rw [Int.toNat_natCast]
 have hi' : ∀ w : W, w.out.length ≤ 65600 → Byt w.out → ACall Tryz.prog 105 [.ref (wC l.length (toksC l) w), .int .i64 (6 - (f : Int) + 1)] (.tuple []) [.ref (wC l.length (toksC l) (wItem validR l f w))] := by
  intro w hw hwb
  have := hi w hw hwb
  rwa [show 7 - (f : Int) = 6 - f + 1 by omega] at this
 have hw0b : Byt w0.out := by rw [hw0]; exact wHead_byt _ _ (by omega) _ hwb
 clear hw0 hwb
 refine ACall.of_does TTok Tryz.func126 rfl Tryz.call126 rfl (wpc_sound (M := MC) (PL := PL0) (CU := noCut) TTok mixed _ _ _ ?_)
 conv => whnf
 repeat ((first | refine ifB_t ?_ | refine ifB_f ?_ | (refine ifB_neg (decide_eq_false (by first | omega | rfl | (dsimp only; omega))) ?_) | refine ⟨rfl, ?_⟩ | refine ⟨_, rfl, ?_⟩ | (refine ⟨⟨rfl, rfl, ?_, pureL_bys _⟩, ?_⟩; (focus (simp; done))) | (refine And.intro (by first | omega | rfl | (dsimp only; omega)) ?_)); conv => whnf)
 refine ⟨_, _, hh, by first | rfl | simp [noRoIf, noRoL, noRoV, noRoL_bys], ?_⟩
 conv => whnf
 refine Does.loop (fun p : Nat × W => mkSt [(0, .ptr 1 0), (2, .int .i64 (6 - (f : Int))), (4, .ptr 2 0), (6, .int .i64 (p.1 : Int))]
   [(1, [.ro l.length (toksC l), .int .i64 (p.2.at' : Int), .sl 3 0 p.2.out.length 1 false, .bool p.2.bad]), (2, tokC ⟨5, N, tb⟩), (3, bys p.2.out)] 4 120)
  (fun p => p.1 ≤ N ∧ p.2.out.length ≤ 65600 ∧ Byt p.2.out ∧ wArr (wItem validR l f) (N - p.1) p.2 = wArr (wItem validR l f) N w0) (fun p => N - p.1) ?_ (0, w0) ⟨Nat.zero_le _, by simp only; omega, hw0b, rfl⟩ ?_
 ·rintro ⟨c, ⟨a, o, b⟩⟩ ⟨p1, p2, pb, p3⟩
  simp only at p1 p2 pb p3
  refine wpc_sound (M := MC) (PL := PL0) (CU := noCut) TTok mixed _ _ _ ?_
  conv => whnf
  repeat ((refine ⟨_, rfl, ?_⟩); conv => whnf)
  refine ifB_dec (fun k1 => ?_) (fun k1 => ?_)
  ·simp only at k1
   cases b
   ·conv => whnf
    repeat ((first | refine ifB_t ?_ | (refine fit_i64 ⟨by first | omega | rfl | (dsimp only; omega), by first | omega | rfl | (dsimp only; omega)⟩ ?_) | refine ⟨rfl, ?_⟩ | refine ⟨_, rfl, ?_⟩ | (refine ⟨⟨rfl, rfl, ?_, pureL_bys _⟩, ?_⟩; (focus (simp; done))) | (refine And.intro (by first | omega | rfl | (dsimp only; omega)) ?_)); conv => whnf)
    refine ⟨_, _, hi' ⟨a, o, false⟩ p2 pb, by first | rfl | simp [noRoIf, noRoL, noRoV, noRoL_bys], ?_⟩
    conv => whnf
    repeat ((refine fit_i64 ⟨by first | omega | rfl | (dsimp only; omega), by first | omega | rfl | (dsimp only; omega)⟩ ?_); conv => whnf)
    refine ⟨(c + 1, wItem validR l f ⟨a, o, false⟩), ⟨by simp only; omega, wItem_le validR l f _ p2, wItem_byt validR l hl f _ pb, ?_⟩, by simp only; omega, weaker_of [(2, 2), (3, 4)] rfl rfl ?_ ?_⟩
    ·rw [← p3]
     obtain ⟨m, hm⟩ : ∃ m, N - c = m + 1 := ⟨N - c - 1, by omega⟩
     simp only
     rw [hm, show N - (c + 1) = m by omega]
     simp [wArr]
    ·exact ⟨⟨rfl, rfl⟩, ⟨rfl, rfl⟩, ⟨rfl, rfl⟩, ⟨rfl, rfl⟩, trivial⟩
    ·refine ⟨⟨⟨rfl, rfl, hL⟩, ⟨rfl, rfl⟩, ⟨rfl, rfl, rfl, rfl, id⟩, rfl, trivial⟩, ⟨⟨rfl, rfl⟩, ⟨rfl, rfl⟩, ⟨rfl, rfl, pureL_bys _⟩, trivial⟩, lesP_bys rfl, trivial⟩
   ·have hfin : wArr (wItem validR l f) N w0 = ⟨a, o, true⟩ := by
     rw [← p3]
     obtain ⟨m, hm⟩ : ∃ m, N - c = m + 1 := ⟨N - c - 1, by omega⟩
     rw [hm]
     simp [wArr]
    rw [hfin]
    conv => whnf
    repeat ((first | refine ifB_t ?_ | refine ifB_f ?_ | refine ⟨rfl, ?_⟩ | refine ⟨_, rfl, ?_⟩ | refine ⟨⟨rfl, rfl⟩, ?_⟩ | (refine ⟨⟨rfl, rfl, rfl, ?_, pureL_bys _⟩, ?_⟩; (focus (simp; done))) | (refine ⟨⟨rfl, rfl, ?_⟩, ?_⟩; (focus (first | assumption | exact pureL_bys _ | exact pureL_toks _)))); conv => whnf)
    rfl
  ·simp only at k1
   have hfin : wArr (wItem validR l f) N w0 = ⟨a, o, b⟩ := by
    rw [← p3, show N - c = 0 by omega]
    rfl
   rw [hfin]
   conv => whnf
   repeat ((first | refine ifB_f ?_ | refine ⟨rfl, ?_⟩ | refine ⟨⟨rfl, rfl⟩, ?_⟩ | (refine ⟨⟨rfl, rfl, rfl, ?_, pureL_bys _⟩, ?_⟩; (focus (simp; done))) | (refine ⟨⟨rfl, rfl, ?_⟩, ?_⟩; (focus (first | assumption | exact pureL_bys _ | exact pureL_toks _)))); conv => whnf)
   rfl
 ·refine weaker_of [(2, 2), (3, 3)] rfl rfl ?_ ?_
  ·exact ⟨⟨rfl, rfl⟩, ⟨rfl, rfl⟩, ⟨rfl, rfl⟩, ⟨rfl, rfl⟩, trivial⟩
  ·refine ⟨⟨⟨rfl, rfl, hL⟩, ⟨rfl, rfl⟩, ⟨rfl, rfl, rfl, rfl, id⟩, rfl, trivial⟩, ⟨⟨rfl, rfl⟩, ⟨rfl, rfl⟩, ⟨rfl, rfl, pureL_bys _⟩, trivial⟩, lesP_bys rfl, trivial⟩
end
section

attribute [local irreducible] ifB fitP Does Weaker
def PLmapY : Plan := .all [(21, takes [22, 23, 24])]
def PLmap : Nat → Bool × Plan := plans [(16, (false, takesTo [0, 1, 2] (.all [(3, takesTo [4, 5, 6, 7, 8, 9, 10, 12, 13, 15, 16, 17, 19] (.all [(11, takesTo [14] (.all [(18, takesTo [20] PLmapY)])), (18, takesTo [20] (.all [(11, takesTo [14] PLmapY)]))]))]))),
 (18, (true, takes [0, 1, 2, 3, 4, 5, 6, 7]))]
theorem many_map (l : List Tok) (f : Nat) (hl : ToksOk l) (hi : ItemOk l f) (hf : f ≤ 6) (w : W) (hw : w.out.length ≤ 32768) (t : Tok) (hwb : Byt w.out) (hk : t.k = 6) (hb : wManyBad t = false) :
  ACall Tryz.prog 126 [.ref (wC l.length (toksC l) w), .agg (tokC t), .int .i64 (6 - (f : Int))] (.tuple []) [.ref (wC l.length (toksC l) (wMap (wItem validR l f) t.n.toNat 0 0 0 (wHead 5 t.n w)))] := by
 have hL := pureL_toks l
 obtain ⟨at', out, bad⟩ := w
 obtain ⟨tk, tn, tb⟩ := t
 simp only [wManyBad, Bool.or_eq_false_iff, decide_eq_false_iff_not] at hb hk hw hwb ⊢
 obtain ⟨⟨hb1, hb2⟩, hb3⟩ := hb
 subst hk
 obtain ⟨N, rfl⟩ : ∃ N : Nat, tn = N := ⟨tn.toNat, by omega⟩
 have hh := whead_ok l.length (toksC l) hL ⟨at', out, bad⟩ (show out.length ≤ 1048576 by omega) 5 (N : Int) (by omega)
 have ho := wHead_out 5 (N : Int) ⟨at', out, bad⟩
 simp only at ho
 obtain ⟨w0, hw0⟩ : ∃ w0, w0 = wHead 5 (N : Int) ⟨at', out, bad⟩ := ⟨_, rfl⟩
 rw [← hw0] at hh ho ⊢
 rw [Int.toNat_natCast]
 have hi' : ∀ w : W, w.out.length ≤ 65600 → Byt w.out → ACall Tryz.prog 105 [.ref (wC l.length (toksC l) w), .int .i64 (6 - (f : Int) + 1)] (.tuple []) [.ref (wC l.length (toksC l) (wItem validR l f w))] := by
  intro w hw hwb
  have := hi w hw hwb
  rwa [show 7 - (f : Int) = 6 - f + 1 by omega] at this
 have hw0b : Byt w0.out := by rw [hw0]; exact wHead_byt _ _ (by omega) _ hwb
 clear hw0 hwb
 refine ACall.of_does TTok Tryz.func126 rfl Tryz.call126 rfl (wpc_sound (M := MC) (PL := PLmap) (CU := cutAt [200016]) TTok mixed _ _ _ ?_)
 conv => whnf
 repeat ((first | refine ifB_f ?_ | (refine ifB_neg (decide_eq_false (by first | omega | rfl | (dsimp only; omega))) ?_) | refine ⟨rfl, ?_⟩ | refine ⟨_, rfl, ?_⟩ | (refine ⟨⟨rfl, rfl, ?_, pureL_bys _⟩, ?_⟩; (focus (simp; done))) | (refine And.intro (by first | omega | rfl | (dsimp only; omega)) ?_)); conv => whnf)
 refine ⟨_, _, hh, by first | rfl | simp [noRoIf, noRoL, noRoV, noRoL_bys], ?_⟩
 conv => whnf
 refine Does.loop (fun p : Nat × Nat × Nat × W => mkSt [(0, .ptr 1 0), (2, .int .i64 (6 - (f : Int))), (4, .ptr 2 0), (7, .int .i64 (p.2.1 : Int)), (8, .int .i64 (p.2.2.1 : Int)), (9, .int .i64 (p.1 : Int))]
   [(1, [.ro l.length (toksC l), .int .i64 (p.2.2.2.at' : Int), .sl 3 0 p.2.2.2.out.length 1 false, .bool p.2.2.2.bad]), (2, tokC ⟨6, N, tb⟩), (3, bys p.2.2.2.out)] 4 120)
  (fun p => p.1 ≤ N ∧ p.2.2.2.out.length ≤ 65600 ∧ Byt p.2.2.2.out ∧ (p.2.2.2.bad = false → p.2.1 ≤ p.2.2.1 ∧ p.2.2.1 ≤ p.2.2.2.out.length) ∧ wMap (wItem validR l f) (N - p.1) p.1 p.2.1 p.2.2.1 p.2.2.2 = wMap (wItem validR l f) N 0 0 0 w0)
  (fun p => N - p.1) ?_ (0, 0, 0, w0) ⟨Nat.zero_le _, by simp only; omega, hw0b, fun _ => ⟨by simp, by simp⟩, rfl⟩ ?_
 ·rintro ⟨c, x, y, ⟨a, o, b⟩⟩ ⟨p1, p2, pb, pxy, p3⟩
  simp only at p1 p2 pb pxy p3
  refine wpc_sound (M := MC) (PL := PLmap) (CU := cutAt [200016]) TTok mixed _ _ _ ?_
  conv => whnf
  repeat ((refine ⟨_, rfl, ?_⟩); conv => whnf)
  refine ifB_dec (fun k1 => ?_) (fun k1 => ?_)
  ·simp only at k1
   cases b
   ·obtain ⟨pxy1, pxy2⟩ := pxy rfl
    conv => whnf
    repeat ((first | refine ifB_t ?_ | (refine fit_i64 ⟨by first | omega | rfl | (dsimp only; omega), by first | omega | rfl | (dsimp only; omega)⟩ ?_) | refine ⟨rfl, ?_⟩ | refine ⟨_, rfl, ?_⟩ | (refine ⟨⟨rfl, rfl, ?_, pureL_bys _⟩, ?_⟩; (focus (simp; done))) | (refine And.intro (by first | omega | rfl | (dsimp only; omega)) ?_)); conv => whnf)
    refine ⟨_, _, hi' ⟨a, o, false⟩ p2 pb, by first | rfl | simp [noRoIf, noRoL, noRoV, noRoL_bys], ?_⟩
    conv => whnf
    obtain ⟨v, hv⟩ : ∃ v, v = wItem validR l f ⟨a, o, false⟩ := ⟨_, rfl⟩
    have hvm : v.bad = false → o.length ≤ v.out.length := fun h => by
     rw [hv] at h ⊢
     exact (wItem_mono validR l f _ h).2.length_le
    have hvb : Byt v.out := by rw [hv]; exact wItem_byt validR l hl f _ pb
    have hvl : v.out.length ≤ 65600 := by rw [hv]; exact wItem_le validR l f _ p2
    rw [← hv]
    refine Does.seqCut (α := Unit) (fun _ => mkSt [(0, .ptr 1 0), (2, .int .i64 (6 - (f : Int))), (4, .ptr 2 0), (7, .int .i64 (x : Int)), (8, .int .i64 (y : Int)), (9, .int .i64 (c : Int)), (10, .int .i64 (o.length : Int)),
      (106, .bool (v.bad || (decide (0 < c) && decide (0 ≤ cmpI ((v.out.drop x).take (y - x)) (v.out.drop o.length)))))]
     [(1, [.ro l.length (toksC l), .int .i64 (v.at' : Int), .sl 3 0 v.out.length 1 false, .bool v.bad]), (2, tokC ⟨6, N, tb⟩), (3, bys v.out)] 4 120) (fun _ => True) ?_ (fun _ _ => ?_)
    ·refine wpc_sound (M := MC) (PL := PLmap) (CU := noCut) TTok mixed _ _ _ ?_
     conv => whnf
     refine ⟨by kernel_rfl, ?_⟩
     conv => whnf
     repeat ((refine ⟨_, rfl, ?_⟩); conv => whnf)
     obtain ⟨va, vo, vb⟩ := v
     cases vb
     ·have hvm := hvm rfl
      simp only at hvm hvb hvl
      conv => whnf
      repeat ((refine ifB_f ?_); conv => whnf)
      refine ifB_dec (fun k2 => ?_) (fun k2 => ?_)
      ·have k2' : 0 < c := by simp only at k2; omega
       conv => whnf
       repeat ((refine ifB_t ?_); conv => whnf)
       refine ⟨?_, ?_⟩
       ·conv => whnf
        repeat ((first | refine ifB_t ?_ | refine ifB_f ?_); conv => whnf)
        conv => whnf
        repeat ((first | refine ifB_t ?_ | refine ⟨pureL_bys _, ?_⟩ | refine ⟨_, rfl, ?_⟩ | (refine ⟨⟨rfl, ?_⟩, ?_⟩; (focus (first | (simp only [okB]; omega) | (simp [okB]; omega))))); conv => whnf)
        refine Or.inr ?_
        conv => whnf
        repeat ((refine ⟨pureL_bys _, ?_⟩); conv => whnf)
        refine Or.inr ?_
        conv => whnf
        repeat ((refine ⟨rfl, ?_⟩); conv => whnf)
        refine ⟨_, _, ACall.arg2 (compare_ok ((vo.drop x).take (y - x)) (vo.drop o.length) (fun z hz => hvb z (List.mem_of_mem_drop (List.mem_of_mem_take hz))) (fun z hz => hvb z (List.mem_of_mem_drop hz))) (by simp [lenB]; omega) (by rw [part_bys (a := x) (b := y)] <;> simp [offB, lenB] <;> omega) (by simp [lenB]) (by rw [part_bys (a := o.length) (b := vo.length)] <;> simp [offB, lenB]; rw [List.take_of_length_le (by simp)]), by first | rfl | simp [noRoIf, noRoL, noRoV, noRoL_bys], ?_⟩
        conv => whnf
        repeat ((first | refine ifB_t ?_ | refine ifB_f ?_); conv => whnf)
        refine ⟨(), trivial, weaker_of [(2, 2), (3, 4)] rfl rfl ?_ ?_⟩
        ·exact ⟨⟨rfl, rfl⟩, ⟨rfl, rfl⟩, ⟨rfl, rfl⟩, ⟨rfl, rfl⟩, ⟨rfl, rfl⟩, ⟨rfl, rfl⟩, ⟨rfl, rfl⟩, leP_bool (by simp [k2']), trivial⟩
        ·exact ⟨⟨⟨rfl, rfl, hL⟩, ⟨rfl, rfl⟩, ⟨rfl, rfl, rfl, rfl, id⟩, rfl, trivial⟩, ⟨⟨rfl, rfl⟩, ⟨rfl, rfl⟩, ⟨rfl, rfl, pureL_bys _⟩, trivial⟩, lesP_bys rfl, trivial⟩
       ·conv => whnf
        repeat ((first | refine ifB_t ?_ | refine ifB_f ?_); conv => whnf)
        conv => whnf
        repeat ((first | refine ifB_t ?_ | refine ⟨pureL_bys _, ?_⟩ | refine ⟨_, rfl, ?_⟩ | (refine ⟨⟨rfl, ?_⟩, ?_⟩; (focus (first | (simp only [okB]; omega) | (simp [okB]; omega))))); conv => whnf)
        refine Or.inr ?_
        conv => whnf
        repeat ((refine ⟨pureL_bys _, ?_⟩); conv => whnf)
        refine Or.inr ?_
        conv => whnf
        repeat ((refine ⟨rfl, ?_⟩); conv => whnf)
        refine ⟨_, _, ACall.arg2 (compare_ok ((vo.drop x).take (y - x)) (vo.drop o.length) (fun z hz => hvb z (List.mem_of_mem_drop (List.mem_of_mem_take hz))) (fun z hz => hvb z (List.mem_of_mem_drop hz))) (by simp [lenB]; omega) (by rw [part_bys (a := x) (b := y)] <;> simp [offB, lenB] <;> omega) (by simp [lenB]) (by rw [part_bys (a := o.length) (b := vo.length)] <;> simp [offB, lenB]; rw [List.take_of_length_le (by simp)]), by first | rfl | simp [noRoIf, noRoL, noRoV, noRoL_bys], ?_⟩
        conv => whnf
        repeat ((first | refine ifB_t ?_ | refine ifB_f ?_); conv => whnf)
        refine ⟨(), trivial, weaker_of [(2, 2), (3, 4)] rfl rfl ?_ ?_⟩
        ·exact ⟨⟨rfl, rfl⟩, ⟨rfl, rfl⟩, ⟨rfl, rfl⟩, ⟨rfl, rfl⟩, ⟨rfl, rfl⟩, ⟨rfl, rfl⟩, ⟨rfl, rfl⟩, leP_bool (by simp [k2']), trivial⟩
        ·exact ⟨⟨⟨rfl, rfl, hL⟩, ⟨rfl, rfl⟩, ⟨rfl, rfl, rfl, rfl, id⟩, rfl, trivial⟩, ⟨⟨rfl, rfl⟩, ⟨rfl, rfl⟩, ⟨rfl, rfl, pureL_bys _⟩, trivial⟩, lesP_bys rfl, trivial⟩
      ·have k2' : ¬ 0 < c := by simp only at k2; omega
       conv => whnf
       repeat ((refine ifB_f ?_); conv => whnf)
       refine ⟨?_, ?_⟩
       ·conv => whnf
        repeat ((first | refine ifB_t ?_ | refine ifB_f ?_); conv => whnf)
        conv => whnf
        refine ⟨(), trivial, weaker_of [(2, 2), (3, 4)] rfl rfl ?_ ?_⟩
        ·exact ⟨⟨rfl, rfl⟩, ⟨rfl, rfl⟩, ⟨rfl, rfl⟩, ⟨rfl, rfl⟩, ⟨rfl, rfl⟩, ⟨rfl, rfl⟩, ⟨rfl, rfl⟩, leP_bool (by simp [k2']), trivial⟩
        ·exact ⟨⟨⟨rfl, rfl, hL⟩, ⟨rfl, rfl⟩, ⟨rfl, rfl, rfl, rfl, id⟩, rfl, trivial⟩, ⟨⟨rfl, rfl⟩, ⟨rfl, rfl⟩, ⟨rfl, rfl, pureL_bys _⟩, trivial⟩, lesP_bys rfl, trivial⟩
       ·conv => whnf
        repeat ((first | refine ifB_t ?_ | refine ifB_f ?_); conv => whnf)
        conv => whnf
        refine ⟨(), trivial, weaker_of [(2, 2), (3, 4)] rfl rfl ?_ ?_⟩
        ·exact ⟨⟨rfl, rfl⟩, ⟨rfl, rfl⟩, ⟨rfl, rfl⟩, ⟨rfl, rfl⟩, ⟨rfl, rfl⟩, ⟨rfl, rfl⟩, ⟨rfl, rfl⟩, leP_bool (by simp [k2']), trivial⟩
        ·exact ⟨⟨⟨rfl, rfl, hL⟩, ⟨rfl, rfl⟩, ⟨rfl, rfl, rfl, rfl, id⟩, rfl, trivial⟩, ⟨⟨rfl, rfl⟩, ⟨rfl, rfl⟩, ⟨rfl, rfl, pureL_bys _⟩, trivial⟩, lesP_bys rfl, trivial⟩
     ·conv => whnf
      repeat ((refine ifB_t ?_); conv => whnf)
      refine ⟨?_, ?_⟩
      ·conv => whnf
       repeat ((first | refine ifB_t ?_ | refine ifB_f ?_); conv => whnf)
       conv => whnf
       refine ⟨(), trivial, weaker_of [(2, 2), (3, 4)] rfl rfl ?_ ?_⟩
       ·exact ⟨⟨rfl, rfl⟩, ⟨rfl, rfl⟩, ⟨rfl, rfl⟩, ⟨rfl, rfl⟩, ⟨rfl, rfl⟩, ⟨rfl, rfl⟩, ⟨rfl, rfl⟩, leP_bool (by simp), trivial⟩
       ·exact ⟨⟨⟨rfl, rfl, hL⟩, ⟨rfl, rfl⟩, ⟨rfl, rfl, rfl, rfl, id⟩, rfl, trivial⟩, ⟨⟨rfl, rfl⟩, ⟨rfl, rfl⟩, ⟨rfl, rfl, pureL_bys _⟩, trivial⟩, lesP_bys rfl, trivial⟩
      ·conv => whnf
       repeat ((first | refine ifB_t ?_ | refine ifB_f ?_); conv => whnf)
       conv => whnf
       refine ⟨(), trivial, weaker_of [(2, 2), (3, 4)] rfl rfl ?_ ?_⟩
       ·exact ⟨⟨rfl, rfl⟩, ⟨rfl, rfl⟩, ⟨rfl, rfl⟩, ⟨rfl, rfl⟩, ⟨rfl, rfl⟩, ⟨rfl, rfl⟩, ⟨rfl, rfl⟩, leP_bool (by simp), trivial⟩
       ·exact ⟨⟨⟨rfl, rfl, hL⟩, ⟨rfl, rfl⟩, ⟨rfl, rfl, rfl, rfl, id⟩, rfl, trivial⟩, ⟨⟨rfl, rfl⟩, ⟨rfl, rfl⟩, ⟨rfl, rfl, pureL_bys _⟩, trivial⟩, lesP_bys rfl, trivial⟩
    ·refine wpc_sound (M := MC) (PL := PLmap) (CU := noCut) TTok mixed _ _ _ ?_
     conv => whnf
     obtain ⟨m, hm⟩ : ∃ m, N - c = m + 1 := ⟨N - c - 1, by omega⟩
     rw [hm] at p3
     simp only [wMap, ← hv, Bool.false_eq_true, if_false] at p3
     refine ifB_bool (fun hC => ?_) (fun hC => ?_)
     ·rw [if_pos hC] at p3
      rw [← p3]
      conv => whnf
      repeat ((first | refine ⟨rfl, ?_⟩ | refine ⟨⟨rfl, rfl⟩, ?_⟩ | (refine ⟨⟨rfl, rfl, rfl, ?_, pureL_bys _⟩, ?_⟩; (focus (simp; done))) | (refine ⟨⟨rfl, rfl, ?_⟩, ?_⟩; (focus (first | assumption | exact pureL_bys _ | exact pureL_toks _))) | (refine ⟨⟨rfl, rfl, ?_⟩, ?_⟩; (focus (first | exact Nat.le_of_ble_eq_true rfl | (simp; done))))); conv => whnf)
      rfl
     ·rw [if_neg (by rw [hC]; simp)] at p3
      have hvf : v.bad = false := by
       cases hh : v.bad
       ·rfl
       ·rw [hh] at hC; simp at hC
      have hvm2 := hvm hvf
      clear hvm
      obtain ⟨va, vo, vb⟩ := v
      simp only at hvf hvm2 hvl hvb
      subst hvf
      conv => whnf
      refine ⟨by kernel_rfl, ?_⟩
      conv => whnf
      repeat ((first | (refine fit_i64 ⟨by first | omega | rfl | (dsimp only; omega), by first | omega | rfl | (dsimp only; omega)⟩ ?_) | refine ⟨rfl, ?_⟩ | refine ⟨_, rfl, ?_⟩ | (refine ⟨⟨rfl, rfl, ?_, pureL_bys _⟩, ?_⟩; (focus (simp; done))) | (refine And.intro (by first | omega | rfl | (dsimp only; omega)) ?_)); conv => whnf)
      refine ⟨_, _, hi' ⟨va, vo, false⟩ hvl hvb, by first | rfl | simp [noRoIf, noRoL, noRoV, noRoL_bys], ?_⟩
      conv => whnf
      repeat ((refine fit_i64 ⟨by first | omega | rfl | (dsimp only; omega), by first | omega | rfl | (dsimp only; omega)⟩ ?_); conv => whnf)
      refine ⟨(c + 1, o.length, vo.length, wItem validR l f ⟨va, vo, false⟩), ⟨by simp only; omega, wItem_le validR l f _ hvl, wItem_byt validR l hl f _ hvb, fun hh => ⟨hvm2, ?_⟩, ?_⟩, by simp only; omega, weaker_of [(2, 2), (3, 4)] rfl rfl ?_ ?_⟩
      ·exact (wItem_mono validR l f _ hh).2.length_le
      ·rw [← p3]
       simp only
       rw [show N - (c + 1) = m by omega]
      ·exact ⟨⟨rfl, rfl⟩, ⟨rfl, rfl⟩, ⟨rfl, rfl⟩, ⟨rfl, rfl⟩, ⟨rfl, rfl⟩, ⟨rfl, rfl⟩, trivial⟩
      ·exact ⟨⟨⟨rfl, rfl, hL⟩, ⟨rfl, rfl⟩, ⟨rfl, rfl, rfl, rfl, id⟩, rfl, trivial⟩, ⟨⟨rfl, rfl⟩, ⟨rfl, rfl⟩, ⟨rfl, rfl, pureL_bys _⟩, trivial⟩, lesP_bys rfl, trivial⟩
   ·have hfin : wMap (wItem validR l f) N 0 0 0 w0 = ⟨a, o, true⟩ := by
     rw [← p3]
     obtain ⟨m, hm⟩ : ∃ m, N - c = m + 1 := ⟨N - c - 1, by omega⟩
     rw [hm]
     simp [wMap]
    rw [hfin]
    conv => whnf
    repeat ((first | refine ifB_t ?_ | refine ifB_f ?_ | refine ⟨rfl, ?_⟩ | refine ⟨_, rfl, ?_⟩ | refine ⟨⟨rfl, rfl⟩, ?_⟩ | (refine ⟨⟨rfl, rfl, rfl, ?_, pureL_bys _⟩, ?_⟩; (focus (simp; done))) | (refine ⟨⟨rfl, rfl, ?_⟩, ?_⟩; (focus (first | assumption | exact pureL_bys _ | exact pureL_toks _)))); conv => whnf)
    rfl
  ·simp only at k1
   have hfin : wMap (wItem validR l f) N 0 0 0 w0 = ⟨a, o, b⟩ := by
    rw [← p3, show N - c = 0 by omega]
    rfl
   rw [hfin]
   conv => whnf
   repeat ((first | refine ifB_f ?_ | refine ⟨rfl, ?_⟩ | refine ⟨⟨rfl, rfl⟩, ?_⟩ | (refine ⟨⟨rfl, rfl, rfl, ?_, pureL_bys _⟩, ?_⟩; (focus (simp; done))) | (refine ⟨⟨rfl, rfl, ?_⟩, ?_⟩; (focus (first | assumption | exact pureL_bys _ | exact pureL_toks _)))); conv => whnf)
   rfl
 ·refine weaker_of [(2, 2), (3, 3)] rfl rfl ?_ ?_
  ·exact ⟨⟨rfl, rfl⟩, ⟨rfl, rfl⟩, ⟨rfl, rfl⟩, ⟨rfl, rfl⟩, ⟨rfl, rfl⟩, ⟨rfl, rfl⟩, trivial⟩
  ·refine ⟨⟨⟨rfl, rfl, hL⟩, ⟨rfl, rfl⟩, ⟨rfl, rfl, rfl, rfl, id⟩, rfl, trivial⟩, ⟨⟨rfl, rfl⟩, ⟨rfl, rfl⟩, ⟨rfl, rfl, pureL_bys _⟩, trivial⟩, lesP_bys rfl, trivial⟩
end
section

attribute [local irreducible] ifB fitP Does Weaker
def PLitA : Plan := .all [(11, .done)]
def PLitB : Plan := takesTo [8, 9] (.all [(10, PLitA)])
def PLitC : Plan := takesTo [8, 9] PLitA
def PLit : Nat → Bool × Plan := plans [(0, (true, takes [0, 1, 2, 3, 4, 5, 6, 7, 8, 9, 10, 11, 12, 13, 14, 15, 16, 17])),
 (2, (false, takesTo [0, 1, 2, 4, 5, 6] (.all [(3, .all [(7, PLitB), (10, .all [(7, PLitC)])]), (7, .all [(3, PLitB), (10, .all [(3, PLitC)])]), (10, .all [(3, .all [(7, PLitC)]), (7, .all [(3, PLitC)])])])))]
theorem item_bad (l : List Tok) (w : W) (hw : w.out.length ≤ 65600) (h : l.length ≤ w.at' ∨ 32768 < w.out.length) (d : Int) :
  ACall Tryz.prog 105 [.ref (wC l.length (toksC l) w), .int .i64 d] (.tuple []) [.ref (wC l.length (toksC l) { w with bad := true })] := by
 have hL := pureL_toks l
 obtain ⟨at', out, bad⟩ := w
 refine ACall.of_does TTok Tryz.func105 rfl Tryz.call105 rfl (wpc_sound (M := MC) (PL := PLit) (CU := noCut) TTok mixed _ _ _ ?_)
 conv => whnf
 refine ⟨by kernel_rfl, ?_⟩
 conv => whnf
 repeat ((refine ⟨_, rfl, ?_⟩); conv => whnf)
 simp only at h hw
 refine ifB_dec (fun k1 => ?_) (fun k1 => ?_)
 ·simp only at k1
  conv => whnf
  repeat ((first | refine ifB_t ?_ | refine ⟨rfl, ?_⟩ | refine ⟨⟨rfl, rfl⟩, ?_⟩ | (refine ⟨⟨rfl, rfl, rfl, ?_, pureL_bys _⟩, ?_⟩; (focus (simp; done))) | (refine ⟨⟨rfl, rfl, ?_⟩, ?_⟩; (focus (first | assumption | exact pureL_bys _ | exact pureL_toks _))) | (refine ⟨⟨rfl, rfl, ?_⟩, ?_⟩; (focus (first | exact Nat.le_of_ble_eq_true rfl | (simp; done))))); conv => whnf)
  rfl
 ·simp only at k1
  have k2 : (32768 : Int) < out.length := by omega
  conv => whnf
  repeat ((first | refine ifB_f ?_ | (refine ifB_pos (decide_eq_true (by first | omega | rfl | (dsimp only; omega))) ?_) | refine ⟨rfl, ?_⟩ | refine ⟨_, rfl, ?_⟩ | refine ⟨⟨rfl, rfl⟩, ?_⟩ | (refine ⟨⟨rfl, rfl, rfl, ?_, pureL_bys _⟩, ?_⟩; (focus (simp; done))) | (refine ⟨⟨rfl, rfl, ?_⟩, ?_⟩; (focus (first | assumption | exact pureL_bys _ | exact pureL_toks _))) | (refine ⟨⟨rfl, rfl, ?_⟩, ?_⟩; (focus (first | exact Nat.le_of_ble_eq_true rfl | (simp; done))))); conv => whnf)
  rfl
theorem item_at (l : List Tok) (hl : ToksOk l) (hlb : ∀ t ∈ l, t.b.length ≤ 1099511627776) (hll : l.length ≤ 1000000) (w : W) (hw : w.out.length ≤ 32768) (ha : w.at' < l.length) (d : Int) (R : W → Tok → W)
  (hm : (l[w.at'].k = 5 ∨ l[w.at'].k = 6) → ACall Tryz.prog 126 [.ref (wC l.length (toksC l) { w with at' := w.at' + 1 }), .agg (tokC l[w.at']), .int .i64 d] (.tuple []) [.ref (wC l.length (toksC l) (R { w with at' := w.at' + 1 } l[w.at']))]) :
  ACall Tryz.prog 105 [.ref (wC l.length (toksC l) w), .int .i64 d] (.tuple [])
   [.ref (wC l.length (toksC l) (if l[w.at'].k = 1 then wNumber 0 l[w.at'] { w with at' := w.at' + 1 } else if l[w.at'].k = 2 then wNumber 1 l[w.at'] { w with at' := w.at' + 1 }
    else if l[w.at'].k = 3 ∨ l[w.at'].k = 4 then wBytes validR l[w.at'] { w with at' := w.at' + 1 } else if l[w.at'].k = 5 ∨ l[w.at'].k = 6 then R { w with at' := w.at' + 1 } l[w.at'] else { w with at' := w.at' + 1, bad := true }))] := by
 have hL := pureL_toks l
 obtain ⟨at', out, bad⟩ := w
 simp only at ha hw hm ⊢
 obtain ⟨t, ht⟩ : ∃ t, t = l[at'] := ⟨_, rfl⟩
 have hto : TokOk t := by rw [ht]; exact hl _ (List.getElem_mem ha)
 have htb : t.b.length ≤ 1099511627776 := by rw [ht]; exact hlb _ (List.getElem_mem ha)
 have hld : ∀ m s : Nat, m = 3 * at' → s = 3 → takeN s ((toksC l).drop m) = some (tokC t) := by
  intro m s hm hs
  rw [takeN_tok ha hm hs, ht]
 rw [← ht] at hm ⊢
 refine ACall.of_does TTok Tryz.func105 rfl Tryz.call105 rfl (wpc_sound (M := MC) (PL := PLit) (CU := cutAt [200002]) TTok mixed _ _ _ ?_)
 conv => whnf
 refine ⟨by kernel_rfl, ?_⟩
 conv => whnf
 repeat ((first | refine ifB_f ?_ | (refine ifB_neg (decide_eq_false (by first | omega | rfl | (dsimp only; omega))) ?_) | refine ⟨_, rfl, ?_⟩); conv => whnf)
 refine Does.seqCut (α := Unit) (fun _ => mkSt [(0, .ptr 1 0), (1, .int .i64 d), (4, .ptr 2 0)]
  [(0, bys out), (1, [.ro l.length (toksC l), .int .i64 (at' : Int), .sl 0 0 out.length 1 false, .bool bad]), (2, tokC t)] 3 71) (fun _ => True) ?_ (fun _ _ => ?_)
 ·refine wpc_sound (M := MC) (PL := PLit) (CU := noCut) TTok mixed _ _ _ ?_
  conv => whnf
  refine ⟨by kernel_rfl, ?_⟩
  conv => whnf
  refine ⟨?_, ?_, ?_⟩
  ·conv => whnf
   repeat ((refine ⟨_, rfl, ?_⟩); conv => whnf)
   refine ⟨?_, ?_⟩
   ·conv => whnf
    repeat ((first | refine ⟨_, rfl, ?_⟩ | (refine ⟨⟨?_, ?_, ?_⟩, ?_⟩; (focus omega); (focus (first | omega | (simp; done) | (simp; omega))); (focus (first | (simp; done) | (simp; omega) | (rw [toksC_length]; simp; omega)))) | (refine ⟨roLoad_ok rfl ?_, ?_⟩; (focus (simp [toksC_length]; omega)))); conv => whnf)
    refine ⟨_, hld _ _ (by simp; omega) rfl, ?_⟩
    conv => whnf
    repeat ((first | refine ⟨rfl, ?_⟩ | (refine ⟨⟨rfl, rfl, ?_⟩, ?_⟩; (focus (first | exact Nat.le_of_ble_eq_true rfl | (simp; done))))); conv => whnf)
    refine ⟨(), trivial, weaker_of [(2, 2)] rfl rfl ?_ ?_⟩
    ·exact ⟨⟨rfl, rfl⟩, ⟨rfl, rfl⟩, ⟨rfl, rfl⟩, trivial⟩
    ·exact ⟨lesP_bys rfl, ⟨⟨rfl, rfl, hL⟩, ⟨rfl, rfl⟩, ⟨rfl, rfl, rfl, rfl, id⟩, rfl, trivial⟩, ⟨⟨rfl, rfl⟩, ⟨rfl, rfl⟩, ⟨rfl, rfl, pureL_bys _⟩, trivial⟩, trivial⟩
   ·conv => whnf
    repeat ((first | refine ⟨rfl, ?_⟩ | refine ⟨_, rfl, ?_⟩ | (refine ⟨⟨?_, ?_, ?_⟩, ?_⟩; (focus omega); (focus (first | omega | (simp; done) | (simp; omega))); (focus (first | (simp; done) | (simp; omega) | (rw [toksC_length]; simp; omega)))) | (refine ⟨roLoad_ok rfl ?_, ?_⟩; (focus (simp [toksC_length]; omega)))); conv => whnf)
    refine ⟨_, hld _ _ (by simp; omega) rfl, ?_⟩
    conv => whnf
    repeat ((refine ⟨⟨rfl, rfl, ?_⟩, ?_⟩; (focus (first | exact Nat.le_of_ble_eq_true rfl | (simp; done)))); conv => whnf)
    refine ⟨(), trivial, weaker_of [(2, 2)] rfl rfl ?_ ?_⟩
    ·exact ⟨⟨rfl, rfl⟩, ⟨rfl, rfl⟩, ⟨rfl, rfl⟩, trivial⟩
    ·exact ⟨lesP_bys rfl, ⟨⟨rfl, rfl, hL⟩, ⟨rfl, rfl⟩, ⟨rfl, rfl, rfl, rfl, id⟩, rfl, trivial⟩, ⟨⟨rfl, rfl⟩, ⟨rfl, rfl⟩, ⟨rfl, rfl, pureL_bys _⟩, trivial⟩, trivial⟩
  ·conv => whnf
   repeat ((refine ⟨_, rfl, ?_⟩); conv => whnf)
   refine ⟨?_, ?_⟩
   ·conv => whnf
    repeat ((first | refine ⟨_, rfl, ?_⟩ | (refine ⟨⟨?_, ?_, ?_⟩, ?_⟩; (focus omega); (focus (first | omega | (simp; done) | (simp; omega))); (focus (first | (simp; done) | (simp; omega) | (rw [toksC_length]; simp; omega)))) | (refine ⟨roLoad_ok rfl ?_, ?_⟩; (focus (simp [toksC_length]; omega)))); conv => whnf)
    refine ⟨_, hld _ _ (by simp; omega) rfl, ?_⟩
    conv => whnf
    repeat ((first | refine ⟨rfl, ?_⟩ | (refine ⟨⟨rfl, rfl, ?_⟩, ?_⟩; (focus (first | exact Nat.le_of_ble_eq_true rfl | (simp; done))))); conv => whnf)
    refine ⟨(), trivial, weaker_of [(2, 2)] rfl rfl ?_ ?_⟩
    ·exact ⟨⟨rfl, rfl⟩, ⟨rfl, rfl⟩, ⟨rfl, rfl⟩, trivial⟩
    ·exact ⟨lesP_bys rfl, ⟨⟨rfl, rfl, hL⟩, ⟨rfl, rfl⟩, ⟨rfl, rfl, rfl, rfl, id⟩, rfl, trivial⟩, ⟨⟨rfl, rfl⟩, ⟨rfl, rfl⟩, ⟨rfl, rfl, pureL_bys _⟩, trivial⟩, trivial⟩
   ·conv => whnf
    repeat ((first | refine ⟨rfl, ?_⟩ | refine ⟨_, rfl, ?_⟩ | (refine ⟨⟨?_, ?_, ?_⟩, ?_⟩; (focus omega); (focus (first | omega | (simp; done) | (simp; omega))); (focus (first | (simp; done) | (simp; omega) | (rw [toksC_length]; simp; omega)))) | (refine ⟨roLoad_ok rfl ?_, ?_⟩; (focus (simp [toksC_length]; omega)))); conv => whnf)
    refine ⟨_, hld _ _ (by simp; omega) rfl, ?_⟩
    conv => whnf
    repeat ((refine ⟨⟨rfl, rfl, ?_⟩, ?_⟩; (focus (first | exact Nat.le_of_ble_eq_true rfl | (simp; done)))); conv => whnf)
    refine ⟨(), trivial, weaker_of [(2, 2)] rfl rfl ?_ ?_⟩
    ·exact ⟨⟨rfl, rfl⟩, ⟨rfl, rfl⟩, ⟨rfl, rfl⟩, trivial⟩
    ·exact ⟨lesP_bys rfl, ⟨⟨rfl, rfl, hL⟩, ⟨rfl, rfl⟩, ⟨rfl, rfl, rfl, rfl, id⟩, rfl, trivial⟩, ⟨⟨rfl, rfl⟩, ⟨rfl, rfl⟩, ⟨rfl, rfl, pureL_bys _⟩, trivial⟩, trivial⟩
  ·conv => whnf
   repeat ((refine ⟨rfl, ?_⟩); conv => whnf)
   refine ⟨?_, ?_⟩
   ·conv => whnf
    repeat ((first | refine ⟨_, rfl, ?_⟩ | (refine ⟨⟨?_, ?_, ?_⟩, ?_⟩; (focus omega); (focus (first | omega | (simp; done) | (simp; omega))); (focus (first | (simp; done) | (simp; omega) | (rw [toksC_length]; simp; omega)))) | (refine ⟨roLoad_ok rfl ?_, ?_⟩; (focus (simp [toksC_length]; omega)))); conv => whnf)
    refine ⟨_, hld _ _ (by simp; omega) rfl, ?_⟩
    conv => whnf
    repeat ((refine ⟨⟨rfl, rfl, ?_⟩, ?_⟩; (focus (first | exact Nat.le_of_ble_eq_true rfl | (simp; done)))); conv => whnf)
    refine ⟨(), trivial, weaker_of [(2, 2)] rfl rfl ?_ ?_⟩
    ·exact ⟨⟨rfl, rfl⟩, ⟨rfl, rfl⟩, ⟨rfl, rfl⟩, trivial⟩
    ·exact ⟨lesP_bys rfl, ⟨⟨rfl, rfl, hL⟩, ⟨rfl, rfl⟩, ⟨rfl, rfl, rfl, rfl, id⟩, rfl, trivial⟩, ⟨⟨rfl, rfl⟩, ⟨rfl, rfl⟩, ⟨rfl, rfl, pureL_bys _⟩, trivial⟩, trivial⟩
   ·conv => whnf
    repeat ((first | refine ⟨_, rfl, ?_⟩ | (refine ⟨⟨?_, ?_, ?_⟩, ?_⟩; (focus omega); (focus (first | omega | (simp; done) | (simp; omega))); (focus (first | (simp; done) | (simp; omega) | (rw [toksC_length]; simp; omega)))) | (refine ⟨roLoad_ok rfl ?_, ?_⟩; (focus (simp [toksC_length]; omega)))); conv => whnf)
    refine ⟨_, hld _ _ (by simp; omega) rfl, ?_⟩
    conv => whnf
    repeat ((refine ⟨⟨rfl, rfl, ?_⟩, ?_⟩; (focus (first | exact Nat.le_of_ble_eq_true rfl | (simp; done)))); conv => whnf)
    refine ⟨(), trivial, weaker_of [(2, 2)] rfl rfl ?_ ?_⟩
    ·exact ⟨⟨rfl, rfl⟩, ⟨rfl, rfl⟩, ⟨rfl, rfl⟩, trivial⟩
    ·exact ⟨lesP_bys rfl, ⟨⟨rfl, rfl, hL⟩, ⟨rfl, rfl⟩, ⟨rfl, rfl, rfl, rfl, id⟩, rfl, trivial⟩, ⟨⟨rfl, rfl⟩, ⟨rfl, rfl⟩, ⟨rfl, rfl, pureL_bys _⟩, trivial⟩, trivial⟩
 ·refine wpc_sound (M := MC) (PL := PLit) (CU := noCut) TTok mixed _ _ _ ?_
  conv => whnf
  repeat ((first | (refine fit_i64 ⟨by first | omega | rfl | (dsimp only; omega), by first | omega | rfl | (dsimp only; omega)⟩ ?_) | refine ⟨_, rfl, ?_⟩ | (refine ⟨⟨rfl, rfl, ?_⟩, ?_⟩; (focus (first | exact Nat.le_of_ble_eq_true rfl | (simp; done))))); conv => whnf)
  have hcast : ((at' + 1 : Nat) : Int) = (at' : Int) + 1 := by omega
  have hn1 := wnumber_ok l.length (toksC l) hL ⟨at' + 1, out, bad⟩ (show out.length ≤ 1048576 by omega)
  have hnb := wbytes_ok l.length (toksC l) hL ⟨at' + 1, out, bad⟩ (show out.length ≤ 1048576 by omega) t hto
  refine ifB_dec (fun k1 => ?_) (fun k1 => ?_)
  ·rw [if_pos k1]
   conv => whnf
   repeat ((first | refine ⟨rfl, ?_⟩ | refine ⟨_, rfl, ?_⟩ | (refine ⟨⟨rfl, rfl, ?_, pureL_bys _⟩, ?_⟩; (focus (simp; done))) | (refine And.intro (by first | omega | rfl | (dsimp only; omega)) ?_) | (refine And.intro ?_ ?_; (focus (first | (simp only [pureL, pureV, pureL_bys, Bool.and_true, Bool.and_self]; done) | (simp only [pureL, pureV, pureL_bys, pureL_toks, Bool.and_true, Bool.and_self]; done))))); conv => whnf)
   refine ⟨_, _, hn1 0 t hto.2.1.2, by first | rfl | simp [noRoIf, noRoL, noRoV, noRoL_bys], ?_⟩
   conv => whnf
   repeat ((first | refine ⟨rfl, ?_⟩ | refine ⟨⟨rfl, rfl⟩, ?_⟩ | (refine ⟨⟨rfl, rfl, rfl, ?_, pureL_bys _⟩, ?_⟩; (focus (simp; done))) | (refine ⟨⟨rfl, rfl, ?_⟩, ?_⟩; (focus (first | assumption | exact pureL_bys _ | exact pureL_toks _)))); conv => whnf)
   rfl
  rw [if_neg k1]
  conv => whnf
  refine ifB_dec (fun k2 => ?_) (fun k2 => ?_)
  ·rw [if_pos k2]
   conv => whnf
   repeat ((first | refine ⟨rfl, ?_⟩ | refine ⟨_, rfl, ?_⟩ | (refine ⟨⟨rfl, rfl, ?_, pureL_bys _⟩, ?_⟩; (focus (simp; done))) | (refine And.intro (by first | omega | rfl | (dsimp only; omega)) ?_) | (refine And.intro ?_ ?_; (focus (first | (simp only [pureL, pureV, pureL_bys, Bool.and_true, Bool.and_self]; done) | (simp only [pureL, pureV, pureL_bys, pureL_toks, Bool.and_true, Bool.and_self]; done))))); conv => whnf)
   refine ⟨_, _, hn1 1 t hto.2.1.2, by first | rfl | simp [noRoIf, noRoL, noRoV, noRoL_bys], ?_⟩
   conv => whnf
   repeat ((first | refine ⟨rfl, ?_⟩ | refine ⟨⟨rfl, rfl⟩, ?_⟩ | (refine ⟨⟨rfl, rfl, rfl, ?_, pureL_bys _⟩, ?_⟩; (focus (simp; done))) | (refine ⟨⟨rfl, rfl, ?_⟩, ?_⟩; (focus (first | assumption | exact pureL_bys _ | exact pureL_toks _)))); conv => whnf)
   rfl
  rw [if_neg k2]
  conv => whnf
  refine ifB_dec (fun k3 => ?_) (fun k3 => ?_)
  ·rw [if_pos (Or.inl k3)]
   conv => whnf
   repeat ((first | refine ifB_t ?_ | refine ⟨rfl, ?_⟩ | refine ⟨_, rfl, ?_⟩ | (refine ⟨⟨rfl, rfl, ?_, pureL_bys _⟩, ?_⟩; (focus (simp; done))) | (refine And.intro (by first | omega | rfl | (dsimp only; omega)) ?_) | (refine And.intro ?_ ?_; (focus (first | (simp only [pureL, pureV, pureL_bys, Bool.and_true, Bool.and_self]; done) | (simp only [pureL, pureV, pureL_bys, pureL_toks, Bool.and_true, Bool.and_self]; done))))); conv => whnf)
   refine ⟨_, _, hnb (Or.inl k3) htb, by first | rfl | simp [noRoIf, noRoL, noRoV, noRoL_bys], ?_⟩
   conv => whnf
   repeat ((first | refine ⟨rfl, ?_⟩ | refine ⟨⟨rfl, rfl⟩, ?_⟩ | (refine ⟨⟨rfl, rfl, rfl, ?_, pureL_bys _⟩, ?_⟩; (focus (simp; done))) | (refine ⟨⟨rfl, rfl, ?_⟩, ?_⟩; (focus (first | assumption | exact pureL_bys _ | exact pureL_toks _)))); conv => whnf)
   rfl
  conv => whnf
  refine ifB_dec (fun k4 => ?_) (fun k4 => ?_)
  ·rw [if_pos (Or.inr k4)]
   conv => whnf
   repeat ((first | refine ⟨rfl, ?_⟩ | refine ⟨_, rfl, ?_⟩ | (refine ⟨⟨rfl, rfl, ?_, pureL_bys _⟩, ?_⟩; (focus (simp; done))) | (refine And.intro (by first | omega | rfl | (dsimp only; omega)) ?_) | (refine And.intro ?_ ?_; (focus (first | (simp only [pureL, pureV, pureL_bys, Bool.and_true, Bool.and_self]; done) | (simp only [pureL, pureV, pureL_bys, pureL_toks, Bool.and_true, Bool.and_self]; done))))); conv => whnf)
   refine ⟨_, _, hnb (Or.inr k4) htb, by first | rfl | simp [noRoIf, noRoL, noRoV, noRoL_bys], ?_⟩
   conv => whnf
   repeat ((first | refine ⟨rfl, ?_⟩ | refine ⟨⟨rfl, rfl⟩, ?_⟩ | (refine ⟨⟨rfl, rfl, rfl, ?_, pureL_bys _⟩, ?_⟩; (focus (simp; done))) | (refine ⟨⟨rfl, rfl, ?_⟩, ?_⟩; (focus (first | assumption | exact pureL_bys _ | exact pureL_toks _)))); conv => whnf)
   rfl
  rw [if_neg (by omega)]
  conv => whnf
  refine ifB_dec (fun k5 => ?_) (fun k5 => ?_)
  ·rw [if_pos (Or.inl k5)]
   conv => whnf
   repeat ((first | refine ifB_t ?_ | refine ⟨rfl, ?_⟩ | refine ⟨_, rfl, ?_⟩ | (refine ⟨⟨rfl, rfl, ?_, pureL_bys _⟩, ?_⟩; (focus (simp; done))) | (refine And.intro (by first | omega | rfl | (dsimp only; omega)) ?_) | (refine And.intro ?_ ?_; (focus (first | (simp only [pureL, pureV, pureL_bys, Bool.and_true, Bool.and_self]; done) | (simp only [pureL, pureV, pureL_bys, pureL_toks, Bool.and_true, Bool.and_self]; done))))); conv => whnf)
   refine ⟨_, _, hm (Or.inl k5), by first | rfl | simp [noRoIf, noRoL, noRoV, noRoL_bys], ?_⟩
   conv => whnf
   repeat ((first | refine ⟨rfl, ?_⟩ | refine ⟨⟨rfl, rfl⟩, ?_⟩ | (refine ⟨⟨rfl, rfl, rfl, ?_, pureL_bys _⟩, ?_⟩; (focus (simp; done))) | (refine ⟨⟨rfl, rfl, ?_⟩, ?_⟩; (focus (first | assumption | exact pureL_bys _ | exact pureL_toks _)))); conv => whnf)
   rfl
  conv => whnf
  refine ifB_dec (fun k6 => ?_) (fun k6 => ?_)
  ·rw [if_pos (Or.inr k6)]
   conv => whnf
   repeat ((first | refine ⟨rfl, ?_⟩ | refine ⟨_, rfl, ?_⟩ | (refine ⟨⟨rfl, rfl, ?_, pureL_bys _⟩, ?_⟩; (focus (simp; done))) | (refine And.intro (by first | omega | rfl | (dsimp only; omega)) ?_) | (refine And.intro ?_ ?_; (focus (first | (simp only [pureL, pureV, pureL_bys, Bool.and_true, Bool.and_self]; done) | (simp only [pureL, pureV, pureL_bys, pureL_toks, Bool.and_true, Bool.and_self]; done))))); conv => whnf)
   refine ⟨_, _, hm (Or.inr k6), by first | rfl | simp [noRoIf, noRoL, noRoV, noRoL_bys], ?_⟩
   conv => whnf
   repeat ((first | refine ⟨rfl, ?_⟩ | refine ⟨⟨rfl, rfl⟩, ?_⟩ | (refine ⟨⟨rfl, rfl, rfl, ?_, pureL_bys _⟩, ?_⟩; (focus (simp; done))) | (refine ⟨⟨rfl, rfl, ?_⟩, ?_⟩; (focus (first | assumption | exact pureL_bys _ | exact pureL_toks _)))); conv => whnf)
   rfl
  rw [if_neg (by omega)]
  conv => whnf
  repeat ((first | refine ⟨rfl, ?_⟩ | refine ⟨⟨rfl, rfl⟩, ?_⟩ | (refine ⟨⟨rfl, rfl, rfl, ?_, pureL_bys _⟩, ?_⟩; (focus (simp; done))) | (refine ⟨⟨rfl, rfl, ?_⟩, ?_⟩; (focus (first | assumption | exact pureL_bys _ | exact pureL_toks _))) | (refine ⟨⟨rfl, rfl, ?_⟩, ?_⟩; (focus (first | exact Nat.le_of_ble_eq_true rfl | (simp; done))))); conv => whnf)
  rfl
theorem item_ok (l : List Tok) (hl : ToksOk l) (hlb : ∀ t ∈ l, t.b.length ≤ 1099511627776) (hll : l.length ≤ 1000000) : ∀ f : Nat, f ≤ 6 → ItemOk l f
 | 0, _ => by
  intro w hw hwb
  unfold wItem
  by_cases h : l.length ≤ w.at' ∨ 32768 < w.out.length
  ·rw [dif_pos h]
   exact item_bad l w hw h _
  ·rw [dif_neg h]
   exact item_at l hl hlb hll w (by omega) (by omega) _ (fun w t => { w with bad := true }) (fun hk => many_bad _ _ (pureL_toks l) _ _ _ (.inr (by simp)))
 | f + 1, hf => by
  have ih := item_ok l hl hlb hll f (by omega)
  intro w hw hwb
  unfold wItem
  by_cases h : l.length ≤ w.at' ∨ 32768 < w.out.length
  ·rw [dif_pos h]
   exact item_bad l w hw h _
  ·rw [dif_neg h]
   have e : 7 - ((f + 1 : Nat) : Int) = 6 - f := by omega
   rw [e]
   refine item_at l hl hlb hll w (by omega) (by omega) _ (fun w t => if wManyBad t then { w with bad := true } else if t.k = 5 then wArr (wItem validR l f) t.n.toNat (wHead 4 t.n w) else wMap (wItem validR l f) t.n.toNat 0 0 0 (wHead 5 t.n w)) (fun hk => ?_)
   simp only
   by_cases hb : wManyBad l[w.at'] = true
   ·rw [if_pos hb]
    exact many_bad _ _ (pureL_toks l) _ _ _ (.inl hb)
   ·rw [if_neg hb]
    have hb : wManyBad l[w.at'] = false := by simpa using hb
    by_cases h5 : l[w.at'].k = 5
    ·rw [if_pos h5]
     exact many_arr l f hl ih (by omega) { w with at' := w.at' + 1 } (show w.out.length ≤ 32768 by omega) _ hwb h5 hb
    ·rw [if_neg h5]
     exact many_map l f hl ih (by omega) { w with at' := w.at' + 1 } (show w.out.length ≤ 32768 by omega) _ hwb (by omega) hb
theorem encode_ok (l : List Tok) (hl : ToksOk l) (hlb : ∀ t ∈ l, t.b.length ≤ 1099511627776) : ACall Tryz.prog 81 [.ro l.length (toksC l)]
  (.tuple [.own (encR validR l).1.length 1 (bys (encR validR l).1), .int .i64 (encR validR l).2]) [] := by
 have hL := pureL_toks l
 refine ACall.of_does TTok Tryz.func81 rfl Tryz.call81 rfl (wpc_sound (M := MC) (PL := PL0) (CU := noCut) TTok mixed _ _ _ ?_)
 conv => whnf
 unfold encR
 refine ifB_dec (fun k1 => ?_) (fun k1 => ?_)
 ·rw [if_pos (by omega)]
  conv => whnf
  repeat ((refine ⟨⟨rfl, rfl⟩, ?_⟩); conv => whnf)
  rfl
 rw [if_neg (by omega)]
 have hi := item_ok l hl hlb (by omega) 6 (by omega) ⟨0, [], false⟩ (by simp) (by simp [Byt])
 have hle := wItem_le validR l 6 ⟨0, [], false⟩ (by simp)
 obtain ⟨w, hw⟩ : ∃ w, w = wItem validR l 6 ⟨0, [], false⟩ := ⟨_, rfl⟩
 rw [← hw] at hi hle ⊢
 rw [show (7 : Int) - ((6 : Nat) : Int) = 1 from rfl] at hi
 obtain ⟨wa, wo, wb⟩ := w
 conv => whnf
 repeat ((first | refine ⟨rfl, ?_⟩ | (refine And.intro (by first | omega | rfl | (dsimp only; omega)) ?_)); conv => whnf)
 refine ⟨_, _, hi, by first | rfl | simp [noRoIf, noRoL, noRoV, noRoL_bys], ?_⟩
 conv => whnf
 repeat ((refine ⟨_, rfl, ?_⟩); conv => whnf)
 cases wb
 ·conv => whnf
  repeat ((first | refine ifB_f ?_ | refine ⟨_, rfl, ?_⟩); conv => whnf)
  refine ifB_dec (fun k2 => ?_) (fun k2 => ?_)
  ·simp only at k2
   rw [if_pos (by simp; omega)]
   conv => whnf
   repeat ((first | refine ifB_t ?_ | refine ⟨⟨rfl, rfl⟩, ?_⟩); conv => whnf)
   rfl
  ·simp only at k2
   conv => whnf
   repeat ((first | refine ifB_f ?_ | refine ⟨_, rfl, ?_⟩); conv => whnf)
   refine ifB_dec (fun k3 => ?_) (fun k3 => ?_)
   ·simp only at k3
    rw [if_pos (by simp; omega)]
    conv => whnf
    repeat ((refine ⟨⟨rfl, rfl⟩, ?_⟩); conv => whnf)
    rfl
   ·simp only at k3
    rw [if_neg (by simp; omega)]
    conv => whnf
    repeat ((first | refine ⟨_, rfl, ?_⟩ | refine ⟨⟨rfl, rfl⟩, ?_⟩ | (refine ⟨⟨rfl, rfl, rfl, ?_, pureL_bys _⟩, ?_⟩; (focus (simp; done)))); conv => whnf)
    rfl
 ·rw [if_pos (by simp)]
  conv => whnf
  repeat ((first | refine ifB_t ?_ | refine ⟨⟨rfl, rfl⟩, ?_⟩); conv => whnf)
  rfl
end
section

attribute [local irreducible] ifB fitP Does Weaker
theorem bclone_ok (l : List Int) (hl : l.length ≤ 17592186044416) : ACall Tryz.prog 63 [.ro l.length (bys l)] (.own l.length 1 (bys l)) [] := by
 refine ACall.of_does TTok Tryz.func63 rfl Tryz.call63 rfl (wpc_sound (M := MC) (PL := PL0) (CU := noCut) TTok mixed _ _ _ ?_)
 conv => whnf
 repeat ((first | refine ifB_t ?_ | refine ifB_f ?_); conv => whnf)
 refine ⟨fun h => ?_, ?_⟩
 ·conv => whnf
  repeat ((first | refine ifB_t ?_ | refine ifB_f ?_); conv => whnf)
  have h0 : l = [] := bys_nil h
  subst h0
  exact ⟨⟨rfl, rfl⟩, rfl⟩
 ·conv => whnf
  repeat ((first | refine ifB_t ?_ | refine ifB_f ?_); conv => whnf)
  refine ⟨by simp, ?_⟩
  conv => whnf
  repeat ((first | refine ifB_t ?_ | refine ifB_f ?_); conv => whnf)
  refine ⟨ones_bys l, ?_⟩
  conv => whnf
  repeat ((first | refine ifB_t ?_ | refine ifB_f ?_); conv => whnf)
  refine ⟨⟨rfl, by simp, Or.inl rfl, by simp [limB]; omega⟩, ?_⟩
  conv => whnf
  repeat ((first | refine ifB_t ?_ | refine ifB_f ?_); conv => whnf)
  exact ⟨⟨by simp, rfl, rfl, by simp, pureL_bys _⟩, rfl⟩
end
section

attribute [local irreducible] ifB fitP Does Weaker
structure Pa where
 at' : Nat
 l : List Tok
 bad : Bool
def pMany (g : Pa → Pa) : Nat → Pa → Pa
 | 0, p => p
 | n + 1, p => if p.bad then p else pMany g n (g p)
def pPart (b : List Int) (k n : Int) (next : Nat) (l : List Tok) : Pa :=
 if (b.length : Int) < next + n then ⟨next, l ++ [⟨k, 0, []⟩], true⟩ else ⟨next + n.toNat, l ++ [⟨k, 0, (b.drop next).take n.toNat⟩], false⟩
def pGo (b : List Int) (g : Pa → Pa) (m n : Int) (next : Nat) (l : List Tok) : Pa :=
 if m = 0 then ⟨next, l ++ [⟨1, n, []⟩], false⟩
 else if m = 1 then ⟨next, l ++ [⟨2, n, []⟩], false⟩
 else if m = 2 then pPart b 3 n next l
 else if m = 3 then pPart b 4 n next l
 else if m = 4 then pMany g n.toNat ⟨next, l ++ [⟨5, n, []⟩], false⟩
 else if m = 5 then pMany g (2 * min n 65).toNat ⟨next, l ++ [⟨6, n, []⟩], false⟩
 else ⟨next, l, true⟩
def pBad (b : List Int) (p : Pa) : Prop := p.bad = true ∨ (getR b p.at').2.2.2 ≠ 0 ∨ 600 ≤ p.l.length
instance (b : List Int) (p : Pa) : Decidable (pBad b p) := by unfold pBad; infer_instance
def pItem (b : List Int) : Nat → Pa → Pa
 | 0, p => { p with bad := true }
 | f + 1, p => if pBad b p then { p with bad := true } else pGo b (pItem b f) (getR b p.at').1 (getR b p.at').2.1 (getR b p.at').2.2.1.toNat p.l
end
section

attribute [local irreducible] ifB fitP Does Weaker
theorem encR_byt (l : List Tok) (hl : ToksOk l) : Byt (encR validR l).1 := by
 unfold encR
 split
 ·simp [Byt]
 split
 ·simp [Byt]
 ·exact wItem_byt _ _ hl _ _ (by simp [Byt])
def decR (u : List Int → Bool) (b : List Int) : List Tok × Int :=
 if 32768 < b.length then ([], 3)
 else if (pItem b 7 ⟨0, [], false⟩).bad || decide ((pItem b 7 ⟨0, [], false⟩).at' ≠ b.length) then ([], 3)
 else if (encR u (pItem b 7 ⟨0, [], false⟩).l).2 ≠ 0 ∨ (encR u (pItem b 7 ⟨0, [], false⟩).l).1 ≠ b then ([], 3)
 else ((pItem b 7 ⟨0, [], false⟩).l, 0)
end
section

attribute [local irreducible] ifB fitP Does Weaker
end
section

attribute [local irreducible] ifB fitP Does Weaker
end
section

theorem putL_short (M : Int) {n : Int} (h : 0 ≤ n) : (putL M n).length ≤ 9 := by
 rw [putL_length]; have := (sizeR_le n h).1; omega
end
section

def phi (l : List Tok) (w : W) : Pa := ⟨w.out.length, l.take w.at', w.bad⟩
theorem wHead_ok {M n : Int} {w : W} (h : (wHead M n w).bad = false) (hM : 0 ≤ M ∧ M < 8) : 0 ≤ n ∧ wHead M n w = ⟨w.at', w.out ++ putL M n, false⟩ ∧ w.bad = false := by
 unfold wHead putS at h ⊢
 simp only [Bool.or_eq_false_iff, decide_eq_false_iff_not] at h
 obtain ⟨h1, h2⟩ := h
 split at h2
 ·exact absurd (by decide) h2
 ·rename_i h3
  refine ⟨by omega, ?_, h1⟩
  rw [if_neg h3]
  simp [h1]
theorem pItem_at {s : List Int} {w : W} {M n : Int} {L : List Tok} (f : Nat) (hM : 0 ≤ M) (hn : 0 ≤ n) (hn2 : n < 9223372036854775808) (hp : w.out ++ putL M n <+: s) (hL : L.length < 600) :
  pItem s (f + 1) ⟨w.out.length, L, false⟩ = pGo s (pItem s f) M n (w.out ++ putL M n).length L := by
 obtain ⟨q, rfl⟩ := hp
 have hg := getR_put w.out q M n hM hn hn2
 have hb : ¬ pBad (w.out ++ putL M n ++ q) ⟨w.out.length, L, false⟩ := by
  rintro (h | h | h)
  ·cases h
  ·exact h (congrArg (fun r => r.2.2.2) hg)
  ·simp at h; omega
 show (if pBad _ _ then _ else pGo (w.out ++ putL M n ++ q) (pItem _ f) (getR (w.out ++ putL M n ++ q) w.out.length).1 (getR (w.out ++ putL M n ++ q) w.out.length).2.1 (getR (w.out ++ putL M n ++ q) w.out.length).2.2.1.toNat L) = _
 rw [if_neg hb, hg]
 simp only [Int.toNat_natCast]
theorem take_tok {l : List Tok} {i : Nat} (h : i < l.length) : l.take (i + 1) = l.take i ++ [l[i]] := by
 rw [List.take_succ_eq_append_getElem h]
def Goes (l : List Tok) (s : List Int) (g : W → W) (h : Pa → Pa) : Prop := ∀ w, (g w).bad = false → (g w).out <+: s → h (phi l w) = phi l (g w)
theorem pMany_arr {l : List Tok} {s : List Int} {g : W → W} {h : Pa → Pa} (hg : Mono g) (H : Goes l s g h) : ∀ (n : Nat) (w : W), (wArr g n w).bad = false → (wArr g n w).out <+: s → pMany h n (phi l w) = phi l (wArr g n w)
 | 0, w, h1, h2 => rfl
 | n + 1, w, h1, h2 => by
  have hb := (wArr_mono g hg (n + 1) w h1).1
  have e : wArr g (n + 1) w = wArr g n (g w) := by rw [wArr, if_neg (by simp [hb])]
  rw [e] at h1 h2 ⊢
  obtain ⟨k1, k2⟩ := wArr_mono g hg n _ h1
  have e2 : pMany h (n + 1) (phi l w) = pMany h n (h (phi l w)) := by rw [pMany, if_neg (by simp [phi, hb])]
  rw [e2, H w k1 (k2.trans h2)]
  exact pMany_arr hg H n _ h1 h2
theorem pMany_map {l : List Tok} {s : List Int} {g : W → W} {h : Pa → Pa} (hg : Mono g) (H : Goes l s g h) : ∀ (n i a b : Nat) (w : W), (wMap g n i a b w).bad = false → (wMap g n i a b w).out <+: s → pMany h (2 * n) (phi l w) = phi l (wMap g n i a b w)
 | 0, _, _, _, w, h1, h2 => rfl
 | n + 1, i, a, b, w, h1, h2 => by
  have hb := (wMap_mono g hg (n + 1) i a b w h1).1
  have e : ∃ x y, wMap g (n + 1) i a b w = wMap g n (i + 1) x y (g (g w)) := by
   rw [wMap] at h1 ⊢
   rw [if_neg (by simp [hb])] at h1 ⊢
   split at h1
   ·simp at h1
   ·rename_i hc
    rw [if_neg hc]
    exact ⟨_, _, rfl⟩
  obtain ⟨x, y, e⟩ := e
  rw [e] at h1 h2 ⊢
  obtain ⟨k1, k2⟩ := wMap_mono g hg n _ _ _ _ h1
  obtain ⟨k3, k4⟩ := hg _ k1
  have e2 : pMany h (2 * (n + 1)) (phi l w) = pMany h (2 * n) (h (h (phi l w))) := by
   rw [show 2 * (n + 1) = 2 * n + 1 + 1 by omega, pMany, if_neg (by simp [phi, hb]), H w k3 (k4.trans (k2.trans h2)), pMany, if_neg (by simp [phi, k3])]
  rw [e2, H w k3 (k4.trans (k2.trans h2)), H (g w) k1 (k2.trans h2)]
  exact pMany_map hg H n _ _ _ _ h1 h2
theorem wBytes_ok {u : List Int → Bool} {t : Tok} {w : W} (h : (wBytes u t w).bad = false) : t.n = 0 ∧ (t.b.length : Int) ≤ 32768 ∧ (t.k = 4 → u t.b = true) ∧
  wBytes u t w = ⟨w.at', w.out ++ putL (if t.k = 4 then 3 else 2) t.b.length ++ t.b, false⟩ := by
 unfold wBytes at h ⊢
 split at h
 ·simp at h
 ·rename_i hh
  rw [if_neg hh]
  simp only [Bool.or_eq_true, not_or, decide_eq_true_eq, Bool.and_eq_true, not_and, Bool.not_eq_true'] at hh
  obtain ⟨⟨⟨h1, h2⟩, h3⟩, h4⟩ := hh
  obtain ⟨k1, k2, k3⟩ := wHead_ok h (by split <;> omega)
  rw [k2]
  refine ⟨by omega, by omega, fun e => ?_, by simp⟩
  have := h2 e
  simpa using this
theorem pItem_of_wItem (u : List Int → Bool) (l : List Tok) (hl : ToksOk l) (hn : l.length ≤ 600) (s : List Int) (f : Nat) : Goes l s (wItem u l f) (pItem s (f + 1)) := by
  intro w h hs
  have hw := (wItem_mono u l f w h).1
  obtain ⟨at', out, bad⟩ := w
  simp only at hw
  subst hw
  unfold wItem at h hs ⊢
  split at h
  ·simp at h
  rename_i hh
  rw [dif_neg hh] at hs ⊢
  simp only at hh h hs ⊢
  have hat : at' < l.length := by omega
  have hL : (l.take at').length < 600 := by rw [List.length_take]; omega
  obtain ⟨t, ht⟩ : ∃ t, t = l[at'] := ⟨_, rfl⟩
  have htk := hl _ (List.getElem_mem hat)
  have htt := take_tok hat
  rw [← ht] at h hs htk htt ⊢
  have num : ∀ (M : Int) (hM : 0 ≤ M ∧ M < 8), (wNumber M t ⟨at' + 1, out, false⟩).bad = false → (wNumber M t ⟨at' + 1, out, false⟩).out <+: s → t.b = [] ∧
    wNumber M t ⟨at' + 1, out, false⟩ = ⟨at' + 1, out ++ putL M t.n, false⟩ ∧ pItem s (f + 1) (phi l ⟨at', out, false⟩) = pGo s (pItem s f) M t.n (out ++ putL M t.n).length (l.take at') := by
   intro M hM h1 h2
   unfold wNumber at h1 h2 ⊢
   obtain ⟨k1, k2, k3⟩ := wHead_ok h1 hM
   rw [k2] at h2 ⊢
   simp only [Bool.false_or, decide_eq_false_iff_not] at k3
   refine ⟨List.length_eq_zero_iff.1 (by omega), rfl, ?_⟩
   exact pItem_at (w := ⟨at', out, false⟩) f hM.1 k1 htk.2.1.2 h2 hL
  have tok : ∀ k : Int, t.k = k → t.b = [] → t = ⟨k, t.n, []⟩ := by
   intro k h1 h2
   obtain ⟨a, b, c⟩ := t
   simp only at h1 h2
   rw [h1, h2]
  split at h
  ·rename_i k
   rw [if_pos k] at hs ⊢
   obtain ⟨e1, e2, e3⟩ := num 0 (by omega) h hs
   rw [e2, e3]
   unfold pGo
   rw [if_pos rfl]
   simp only [phi, htt]
   rw [tok 1 k e1]
  rename_i k1; rw [if_neg k1] at hs ⊢
  split at h
  ·rename_i k
   rw [if_pos k] at hs ⊢
   obtain ⟨e1, e2, e3⟩ := num 1 (by omega) h hs
   rw [e2, e3]
   unfold pGo
   rw [if_neg (by omega), if_pos rfl]
   simp only [phi, htt]
   rw [tok 2 k e1]
  rename_i k2; rw [if_neg k2] at hs ⊢
  split at h
  ·rename_i k
   rw [if_pos k] at hs ⊢
   obtain ⟨e1, e2, e3, e4⟩ := wBytes_ok h
   rw [e4] at hs ⊢
   simp only at hs
   have hp := pItem_at (w := ⟨at', out, false⟩) f (M := if t.k = 4 then 3 else 2) (n := t.b.length) (L := l.take at') (by split <;> omega) (by omega) (by omega) ((List.prefix_append _ _).trans hs) hL
   have hp' : pItem s (f + 1) (phi l ⟨at', out, false⟩) = _ := hp
   rw [hp']
   obtain ⟨q, hq⟩ := hs
   have part : ∀ M : Int, t.k = M → pPart s M t.b.length (out ++ putL (if t.k = 4 then 3 else 2) t.b.length).length (l.take at') = phi l ⟨at' + 1, out ++ putL (if t.k = 4 then 3 else 2) t.b.length ++ t.b, false⟩ := by
    intro M hM
    unfold pPart
    rw [if_neg (by rw [← hq]; simp only [List.length_append]; omega)]
    simp only [phi, htt]
    have : (s.drop (out ++ putL (if t.k = 4 then 3 else 2) t.b.length).length).take (t.b.length : Int).toNat = t.b := by
     rw [← hq, List.append_assoc _ t.b q, List.drop_left, Int.toNat_natCast, List.take_left]
    rw [this]
    have et : (⟨M, 0, t.b⟩ : Tok) = t := by
     obtain ⟨a, b, c⟩ := t
     simp only at e1 hM ⊢
     rw [e1, hM]
    rw [et]
    congr 1
    simp
    omega
   rcases k with k | k
   ·have e : (if t.k = 4 then (3 : Int) else 2) = 2 := by rw [if_neg (by omega)]
    rw [← part 3 k]
    simp only [e]
    unfold pGo
    rw [if_neg (by omega), if_neg (by omega), if_pos rfl]
   ·have e : (if t.k = 4 then (3 : Int) else 2) = 3 := by rw [if_pos k]
    rw [← part 4 k]
    simp only [e]
    unfold pGo
    rw [if_neg (by omega), if_neg (by omega), if_neg (by omega), if_pos rfl]
  rename_i k3; rw [if_neg k3] at hs ⊢
  split at h
  ·rename_i k
   rw [if_pos k] at hs ⊢
   cases f with
   | zero => simp at h
   | succ f =>
    simp only at h hs ⊢
    split at h
    ·simp at h
    rename_i k4
    rw [if_neg k4] at hs ⊢
    have ih := pItem_of_wItem u l hl hn s f
    have hm : t.b = [] ∧ 0 ≤ t.n ∧ t.n ≤ 64 := by
     simp only [wManyBad, Bool.or_eq_true, not_or, decide_eq_true_eq] at k4
     exact ⟨List.length_eq_zero_iff.1 (by omega), by omega, by omega⟩
    split at h
    ·rename_i k5
     rw [if_pos k5] at hs ⊢
     obtain ⟨j1, j2⟩ := wArr_mono _ (wItem_mono u l f) _ _ h
     obtain ⟨i1, i2, i3⟩ := wHead_ok j1 (by omega)
     have hp := pItem_at (w := ⟨at', out, false⟩) (f + 1) (M := 4) (n := t.n) (L := l.take at') (by omega) i1 htk.2.1.2 (by have := j2.trans hs; rw [i2] at this; exact this) hL
     have hp' : pItem s (f + 1 + 1) (phi l ⟨at', out, false⟩) = _ := hp
     rw [hp', ← pMany_arr (wItem_mono u l f) ih _ _ h hs, i2]
     unfold pGo
     rw [if_neg (by omega), if_neg (by omega), if_neg (by omega), if_neg (by omega), if_pos rfl]
     simp only [phi, htt]
     rw [tok 5 k5 hm.1]
    ·rename_i k5
     rw [if_neg k5] at hs ⊢
     have k6 : t.k = 6 := by omega
     obtain ⟨j1, j2⟩ := wMap_mono _ (wItem_mono u l f) _ _ _ _ _ h
     obtain ⟨i1, i2, i3⟩ := wHead_ok j1 (by omega)
     have hp := pItem_at (w := ⟨at', out, false⟩) (f + 1) (M := 5) (n := t.n) (L := l.take at') (by omega) i1 htk.2.1.2 (by have := j2.trans hs; rw [i2] at this; exact this) hL
     have hp' : pItem s (f + 1 + 1) (phi l ⟨at', out, false⟩) = _ := hp
     rw [hp', ← pMany_map (wItem_mono u l f) ih _ _ _ _ _ h hs, i2]
     unfold pGo
     rw [if_neg (by omega), if_neg (by omega), if_neg (by omega), if_neg (by omega), if_neg (by omega), if_pos rfl]
     simp only [phi, htt]
     rw [tok 6 k6 hm.1, show (2 * min t.n 65).toNat = 2 * t.n.toNat by omega]
  ·simp at h
theorem encR_yes {u : List Int → Bool} {l : List Tok} {a : List Int} (h : encR u l = (a, 0)) : l.length ≤ 600 ∧ wItem u l 6 ⟨0, [], false⟩ = ⟨l.length, a, false⟩ ∧ a.length ≤ 32768 := by
 unfold encR at h
 split at h
 ·cases h
 split at h
 ·cases h
 rename_i h1 h2
 simp only [Bool.or_eq_true, decide_eq_true_eq, not_or, Bool.not_eq_true] at h2
 obtain ⟨⟨h3, h4⟩, h5⟩ := h2
 have e := congrArg Prod.fst h
 simp only at e
 refine ⟨by omega, ?_, by rw [← e]; omega⟩
 have h4 := Classical.not_not.1 h4
 generalize wItem u l 6 ⟨0, [], false⟩ = w at *
 obtain ⟨x, y, z⟩ := w
 simp only at h3 h4 e
 rw [h3, h4, e]
theorem encR_or (u : List Int → Bool) (l : List Tok) : encR u l = ([], 1) ∨ ∃ a, encR u l = (a, 0) := by
 unfold encR
 split
 ·exact .inl rfl
 split
 ·exact .inl rfl
 ·exact .inr ⟨_, rfl⟩
theorem pItem_enc {u : List Int → Bool} {l : List Tok} {a : List Int} (hl : ToksOk l) (h : encR u l = (a, 0)) (q : List Int) : pItem (a ++ q) 7 ⟨0, [], false⟩ = ⟨a.length, l, false⟩ := by
 obtain ⟨h1, h2, h3⟩ := encR_yes h
 have := pItem_of_wItem u l hl h1 (a ++ q) 6 ⟨0, [], false⟩ (by rw [h2]) (by rw [h2]; exact List.prefix_append _ _)
 rw [h2] at this
 simpa [phi] using this
theorem decR_enc {u : List Int → Bool} {l : List Tok} {a : List Int} (hl : ToksOk l) (h : encR u l = (a, 0)) : decR u a = (l, 0) := by
 have hi := pItem_enc hl h []
 rw [List.append_nil] at hi
 have := encR_yes h
 unfold decR
 rw [if_neg (by omega), hi]
 simp [h]
end
end Go.Proofs.YtbkclacjamlebaaGreatDoor.Abs
