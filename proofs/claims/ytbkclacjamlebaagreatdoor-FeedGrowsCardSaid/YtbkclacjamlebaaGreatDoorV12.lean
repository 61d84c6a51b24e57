/- Texts SD to SF, merged. -/
import Derived.Test.YtbkclacjamlebaaGreatDoorV11
set_option linter.unusedVariables false
set_option linter.unusedSimpArgs false
namespace Go.Proofs.YtbkclacjamlebaaGreatDoor.Abs
open Go
section

attribute [local irreducible] ifB fitP Does Weaker
theorem tmod_nat (a m : Nat) : ((a : Int)).tmod (m : Int) = ((a % m : Nat) : Int) := by rw [Int.ofNat_tmod]
theorem tdiv_nat (a m : Nat) : ((a : Int)).tdiv (m : Int) = ((a / m : Nat) : Int) := by rw [Int.ofNat_tdiv]
def padZ (rest : List Int) : Nat := (119 - rest.length % 64) % 64
def padN (rest : List Int) (j : Nat) : List Int := rest ++ [128] ++ List.replicate j 0
theorem padN_len (rest : List Int) (j : Nat) : (padN rest j).length = rest.length + 1 + j := by simp [padN]; omega
theorem padN_byt {rest : List Int} (hr : Byt rest) (j : Nat) : Byt (padN rest j) := by
 intro x hx
 rcases List.mem_append.1 hx with h | h
 ·rcases List.mem_append.1 h with h | h
  ·exact hr x h
  ·rw [List.mem_singleton] at h; omega
 ·simp only [List.mem_replicate] at h; omega
def lenX (n : Int) : Int := IntKind.u64.wrap (IntKind.u64.wrap n * 2 ^ 3)
def lenY (n : Int) (k : Int) : Int := IntKind.u8.wrap (lenX n / 2 ^ min (8 * k).toNat 64)
def lenN (P : List Int) (n : Int) : Nat → List Int
 | 0 => P
 | j + 1 => lenN P n j ++ [lenY n (7 - (j : Int))]
theorem lenN_len (P : List Int) (n : Int) : ∀ j, (lenN P n j).length = P.length + j
 | 0 => rfl
 | j + 1 => by rw [lenN, List.length_append, lenN_len P n j]; rfl
theorem u8_wrap (x : Int) : 0 ≤ IntKind.u8.wrap x ∧ IntKind.u8.wrap x < 256 := by
 have : IntKind.u8.wrap x = x % 256 := wrap_u8 x
 omega
theorem lenN_byt {P : List Int} (hp : Byt P) (n : Int) : ∀ j, Byt (lenN P n j)
 | 0 => hp
 | j + 1 => by
  intro x hx
  rw [lenN] at hx
  rcases List.mem_append.1 hx with h | h
  ·exact lenN_byt hp n j x h
  ·rw [List.mem_singleton] at h; rw [h]; exact u8_wrap _
def tailL (rest : List Int) (n : Int) : List Int := lenN (padN rest (padZ rest)) n 8
def outY (w : List Int) (i : Nat) : Int := IntKind.u8.wrap (w.getD (i / 4) 0 / 2 ^ min (24 - 8 * ((i % 4 : Nat) : Int)).toNat 32)
def outN (w : List Int) : Nat → List Int
 | 0 => List.replicate 32 0
 | i + 1 => (outN w i).set i (outY w i)
theorem outN_len (w : List Int) : ∀ i, (outN w i).length = 32
 | 0 => by simp [outN]
 | i + 1 => by rw [outN, List.length_set, outN_len w i]
def sumL (h rest : List Int) (n : Int) : List Int := outN (wN h (tailL rest n) ((tailL rest n).length / 64)) 32
def PLsu : Nat → Bool × Plan := plans [(11, (false, (takesTo [1, 2] (.all [(0, (.all [(3, (.all [(4, .done)]))]))]))))]
theorem shC_les {o : Nat → Option Nat} (h rest : List Int) (n : Int) : lesP o (shC h rest n) (shC h rest n) := ⟨⟨rfl, rfl⟩, ⟨rfl, rfl⟩, ⟨rfl, rfl⟩, ⟨rfl, rfl⟩, ⟨rfl, rfl⟩, ⟨rfl, rfl⟩, ⟨rfl, rfl⟩, ⟨rfl, rfl⟩, ⟨rfl, rfl, pureL_bys _⟩, ⟨rfl, rfl⟩, trivial⟩
set_option maxRecDepth 20000 in
set_option maxHeartbeats 2000000 in
theorem ssum_ok (h rest : List Int) (n : Int) (hh : h.length = 8) (hr : Byt rest) (hl : rest.length < 64) : ACall Tryz.prog 85 [.ref (shC h rest n)] (.agg (bys (sumL h rest n))) [.ref (shC h rest n)] := by
 have hcl := clone_ok rest (by omega)
 refine ACall.of_does TTok Tryz.func85 rfl Tryz.call85 rfl (wpc_sound (M := MS2) (PL := PLsu) (CU := cutAt [100008]) TTok mixed _ _ _ ?_)
 conv => whnf
 repeat ((first | refine ⟨pureL_bys _, ?_⟩ | refine ⟨rfl, ?_⟩ | refine ⟨_, rfl, ?_⟩); conv => whnf)
 refine ⟨_, _, hcl, by first | rfl | simp [noRoIf, noRoL, noRoV, noRoL_bys], ?_⟩
 conv => whnf
 repeat ((first | (refine Or.inl ⟨⟨rfl, ?_⟩, ?_⟩; (focus (first | rfl | (simp; done) | (rw [toksC_length]; omega)))) | refine ⟨rfl, ?_⟩ | (refine ⟨⟨rfl, rfl, ?_, ?_⟩, ?_⟩; (focus (first | (simp [lenB, offB]; done) | (simp [lenB, offB]; omega))); (focus (first | (simp [limB, lenB, offB]; done) | (simp [limB, lenB, offB]; omega))))); conv => whnf)
 refine Does.loop (fun j : Nat => mkSt [(0, .ptr 0 0), (2, .ptr 1 0), (3, .sl 2 0 (rest.length + 1 + j) 1 false)] [(0, shC h rest n), (1, List.replicate 32 (.int .u8 0)), (2, bys (padN rest j))] 3 69) (fun j => j ≤ padZ rest) (fun j => padZ rest - j) ?_ 0 (Nat.zero_le _) ?_
 ·intro j hj
  have hL := padN_len rest j
  have hz : padZ rest = (119 - rest.length % 64) % 64 := rfl
  have hm : ((rest.length + 1 + j : Nat) : Int).tmod 64 = (((rest.length + 1 + j) % 64 : Nat) : Int) := tmod_nat _ 64
  refine wpc_sound (M := MS2) (PL := PLsu) (CU := noCut) TTok mixed _ _ _ ?_
  conv => whnf
  repeat ((refine And.intro (by first | omega | rfl | (dsimp only; omega)) ?_); conv => whnf)
  rw [hm]
  by_cases hj1 : j < padZ rest
  ·have : (rest.length + 1 + j) % 64 ≠ 56 := by omega
   conv => whnf
   repeat ((first | (refine ifB_pos (decide_eq_true (by first | omega | rfl | (dsimp only; omega))) ?_) | (refine Or.inl ⟨⟨rfl, ?_⟩, ?_⟩; (focus (first | rfl | (simp; done) | (rw [toksC_length]; omega)))) | refine ⟨rfl, ?_⟩ | (refine ⟨⟨rfl, rfl, ?_, ?_⟩, ?_⟩; (focus (first | (simp [lenB, offB]; done) | (simp [lenB, offB]; omega))); (focus (first | (simp [limB, lenB, offB]; done) | (simp [limB, lenB, offB]; omega))))); conv => whnf)
   refine ⟨j + 1, by omega, by omega, weaker_of [(0, 0), (1, 1), (2, 4)] rfl rfl ⟨⟨rfl, rfl⟩, ⟨rfl, rfl⟩, ⟨rfl, rfl, by omega, rfl, fun h => h⟩, trivial⟩ ⟨shC_les _ _ _, lesP_bys (l := List.replicate 32 0) rfl, ?_, trivial⟩⟩
   refine lesP_bys ?_
   rw [show padN rest (j + 1) = padN rest j ++ [0] by simp [padN, List.replicate_succ']]
   simp [bys]
  ·obtain rfl : j = padZ rest := by omega
   have h56 : (rest.length + 1 + padZ rest) % 64 = 56 := by omega
   conv => whnf
   repeat ((refine ifB_neg (decide_eq_false (by first | omega | rfl | (dsimp only; omega))) ?_); conv => whnf)
   have hP : (padN rest (padZ rest)).length = rest.length + 1 + padZ rest := hL
   have hPb : Byt (padN rest (padZ rest)) := padN_byt hr _
   have hTb : rest.length + 1 + padZ rest ≤ 200 := by omega
   clear hm hj1
   unfold sumL tailL
   generalize padN rest (padZ rest) = P at hP hPb ⊢
   generalize rest.length + 1 + padZ rest = T at hP h56 hTb ⊢
   clear hL hz hj
   refine Does.loop (fun j : Nat => mkSt [(0, .ptr 0 0), (2, .ptr 1 0), (3, .sl 2 0 (T + j) 1 false), (4, .int .i64 (7 - (j : Int)))] [(0, shC h rest n), (1, List.replicate 32 (.int .u8 0)), (2, bys (lenN P n j))] 3 69) (fun j => j ≤ 8) (fun j => 8 - j) ?_ 0 (Nat.zero_le _) ?_
   ·intro j hj
    have hq := lenN_len P n j
    rcases Nat.lt_or_ge j 8 with j1 | j1
    ·refine wpc_sound (M := MS2) (PL := PLsu) (CU := noCut) TTok mixed _ _ _ ?_
     conv => whnf
     repeat ((first | (refine ifB_pos (decide_eq_true (by first | omega | rfl | (dsimp only; omega))) ?_) | refine ⟨_, rfl, ?_⟩); conv => whnf)
     refine fit_wrap ?_
     conv => whnf
     repeat ((refine And.intro (by first | omega | rfl | (dsimp only; omega)) ?_); conv => whnf)
     refine fit_wrap ?_
     conv => whnf
     repeat ((first | (refine fit_i64 ⟨by first | omega | rfl | (dsimp only; omega), by first | omega | rfl | (dsimp only; omega)⟩ ?_) | (refine And.intro (by first | omega | rfl | (dsimp only; omega)) ?_)); conv => whnf)
     refine fit_wrap ?_
     conv => whnf
     repeat ((first | (refine fit_i64 ⟨by first | omega | rfl | (dsimp only; omega), by first | omega | rfl | (dsimp only; omega)⟩ ?_) | (refine Or.inl ⟨⟨rfl, ?_⟩, ?_⟩; (focus (first | rfl | (simp; done) | (rw [toksC_length]; omega)))) | refine ⟨rfl, ?_⟩ | (refine ⟨⟨rfl, rfl, ?_, ?_⟩, ?_⟩; (focus (first | (simp [lenB, offB]; done) | (simp [lenB, offB]; omega))); (focus (first | (simp [limB, lenB, offB]; done) | (simp [limB, lenB, offB]; omega))))); conv => whnf)
     refine ⟨j + 1, by omega, by omega, weaker_of [(0, 0), (1, 1), (2, 4)] rfl rfl ⟨⟨rfl, rfl⟩, ⟨rfl, rfl⟩, ⟨rfl, rfl, by omega, rfl, fun h => h⟩, ⟨rfl, by omega⟩, trivial⟩ ⟨shC_les _ _ _, lesP_bys (l := List.replicate 32 0) rfl, ?_, trivial⟩⟩
     refine lesP_bys ?_
     simp [lenN, bys]
     rfl
    ·obtain rfl : j = 8 := by omega
     have hLb := lenN_byt hPb n 8
     generalize lenN P n 8 = L at hq hLb ⊢
     refine wpc_sound (M := MS2) (PL := PLsu) (CU := noCut) TTok mixed _ _ _ ?_
     conv => whnf
     repeat ((refine ifB_f ?_); conv => whnf)
     refine Does.freeze 2 rfl (Does.weakerTo' (env := [(0, .ptr 0 0), (2, .ptr 1 0), (3, .ro L.length (bys L))]) (heap := [(0, shC h rest n), (1, bys (List.replicate 32 0))]) (nx := 3) (n := 69) [(0, 0), (1, 1)] rfl rfl ⟨⟨rfl, rfl⟩, ⟨rfl, rfl⟩, ⟨by rw [hq, hP], (by rw [← hP, ← hq]; exact whole_bys _), pureL_bys _⟩, trivial⟩ ⟨shC_les _ _ _, lesP_bys rfl, trivial⟩ ?_)
     refine wpc_sound (M := MS2) (PL := PLsu) (CU := noCut) TTok mixed _ _ _ ?_
     conv => whnf
     repeat ((first | refine ⟨rfl, ?_⟩ | refine ⟨_, rfl, ?_⟩ | (refine ⟨⟨rfl, rfl, ?_⟩, ?_⟩; (focus (first | assumption | exact pureL_bys _ | exact pureL_toks _)))); conv => whnf)
     have hLl : L.length = 64 * (L.length / 64) := by rw [hP] at hq; omega
     have hLm : L.length ≤ 300 := by rw [hP] at hq; omega
     clear hq hP h56 hTb hPb
     refine Does.loop (fun c : Nat => mkSt [(0, .ptr 0 0), (2, .ptr 1 0), (3, .ro (L.drop (64 * c)).length (bys (L.drop (64 * c)))), (5, .ptr 3 0)] [(0, shC h rest n), (1, bys (List.replicate 32 0)), (3, c8 (wN h L c))] 4 69) (fun c => 64 * c ≤ L.length) (fun c => L.length - 64 * c) ?_ 0 (by omega) ?_
     ·intro c hc
      have hv := wN_len (h := h) hh L c
      have hd : (L.drop (64 * c)).length = L.length - 64 * c := by simp
      have hn : wN h L (c + 1) = takeW (wN h L c) ((L.drop (64 * c)).take 64) := rfl
      by_cases c1 : 64 * c < L.length
      ·have ht := stake_ok (wN h L c) ((L.drop (64 * c)).take 64) hv (fun x hx => hLb x (List.mem_of_mem_drop (List.mem_of_mem_take hx))) (by simp; omega)
       have e2 : L.drop (64 * (c + 1)) = (L.drop (64 * c)).drop 64 := by rw [List.drop_drop]; congr 1
       rw [← hn] at ht
       generalize hv' : wN h L (c + 1) = v' at ht
       generalize wN h L c = v at ht hv
       clear hn
       generalize L.drop (64 * c) = x at ht hd e2 ⊢
       refine wpc_sound (M := MS2) (PL := PLsu) (CU := noCut) TTok mixed _ _ _ ?_
       conv => whnf
       repeat ((refine ifB_pos (decide_eq_true (by first | omega | rfl | (dsimp only; omega))) ?_); conv => whnf)
       refine ⟨by kernel_rfl, ?_⟩
       conv => whnf
       repeat ((first | refine ⟨pureL_cutB _ _ _ _, ?_⟩ | refine ⟨rfl, ?_⟩ | refine ⟨_, rfl, ?_⟩ | (refine ⟨⟨?_, ?_⟩, ?_⟩; (focus (simp; done)); (focus (first | (simp only [okB]; omega) | (simp [okB]; omega))))); conv => whnf)
       refine ⟨_, _, ht.argB (by simp [lenB, endB, offB]) (cut_to64 x), by first | rfl | simp [noRoIf, noRoL, noRoV, noRoL_bys], ?_⟩
       conv => whnf
       repeat ((first | (refine ⟨⟨rfl, rfl, ?_⟩, ?_⟩; (focus (first | assumption | exact pureL_bys _ | exact pureL_toks _))) | (refine ⟨⟨?_, ?_⟩, ?_⟩; (focus (simp; done)); (focus (first | (simp only [okB]; omega) | (simp [okB]; omega))))); conv => whnf)
       refine ⟨c + 1, by omega, by omega, weaker_of [(0, 0), (1, 1), (3, 3)] rfl rfl ⟨⟨rfl, rfl⟩, ⟨rfl, rfl⟩, ⟨?_, ?_, pureL_bys _⟩, ⟨rfl, rfl⟩, trivial⟩ ⟨shC_les _ _ _, lesP_bys rfl, ⟨⟨rfl, by rw [hv']⟩, ⟨rfl, by rw [hv']⟩, ⟨rfl, by rw [hv']⟩, ⟨rfl, by rw [hv']⟩, ⟨rfl, by rw [hv']⟩, ⟨rfl, by rw [hv']⟩, ⟨rfl, by rw [hv']⟩, ⟨rfl, by rw [hv']⟩, trivial⟩, trivial⟩⟩
       ·rw [e2]; simp [lenB, endB, offB]
       ·rw [e2]; exact cut_from64 x _ rfl
      ·obtain rfl : c = L.length / 64 := by omega
       generalize wN h L (L.length / 64) = w at hv ⊢
       refine wpc_sound (M := MS2) (PL := PLsu) (CU := noCut) TTok mixed _ _ _ ?_
       conv => whnf
       repeat ((first | (refine ifB_neg (decide_eq_false (by first | omega | rfl | (dsimp only; omega))) ?_) | refine ⟨rfl, ?_⟩); conv => whnf)
       refine Does.loop (fun i : Nat => mkSt [(0, .ptr 0 0), (2, .ptr 1 0), (5, .ptr 3 0), (6, .ptr 4 0), (52, .int .i64 i)] [(0, shC h rest n), (1, bys (List.replicate 32 0)), (3, u32s w), (4, bys (outN w i))] 5 69) (fun i => i ≤ 32) (fun i => 32 - i) ?_ 0 (by omega) ?_
       ·intro i hi
        have ho := outN_len w i
        rcases Nat.lt_or_ge i 32 with i1 | i1
        ·have t1 : (i : Int).tdiv 4 = ((i / 4 : Nat) : Int) := tdiv_nat i 4
         have t2 : (i : Int).tmod 4 = ((i % 4 : Nat) : Int) := tmod_nat i 4
         refine wpc_sound (M := MS2) (PL := PLsu) (CU := noCut) TTok mixed _ _ _ ?_
         conv => whnf
         repeat ((first | (refine ifB_pos (decide_eq_true (by first | omega | rfl | (dsimp only; omega))) ?_) | (refine fit_i64 ⟨by first | omega | rfl | (dsimp only; omega), by first | omega | rfl | (dsimp only; omega)⟩ ?_) | (refine And.intro (by first | omega | rfl | (dsimp only; omega)) ?_)); conv => whnf)
         rw [t1]
         conv => whnf
         refine ⟨_, u32s_get (l := w) (i := i / 4) (by rw [hv]; omega) (by simp; omega), ?_⟩
         conv => whnf
         repeat ((first | (refine fit_i64 ⟨by first | omega | rfl | (dsimp only; omega), by first | omega | rfl | (dsimp only; omega)⟩ ?_) | (refine And.intro (by first | omega | rfl | (dsimp only; omega)) ?_)); conv => whnf)
         rw [t2]
         conv => whnf
         refine fit_wrap ?_
         conv => whnf
         repeat ((refine And.intro (by first | omega | rfl | (dsimp only; omega)) ?_); conv => whnf)
         refine ⟨⟨rfl, rfl, by simp [ho]; omega⟩, ?_⟩
         conv => whnf
         repeat ((refine fit_i64 ⟨by first | omega | rfl | (dsimp only; omega), by first | omega | rfl | (dsimp only; omega)⟩ ?_); conv => whnf)
         refine ⟨i + 1, by omega, by omega, weaker_of [(0, 0), (1, 1), (3, 3), (4, 4)] rfl rfl ⟨⟨rfl, rfl⟩, ⟨rfl, rfl⟩, ⟨rfl, rfl⟩, ⟨rfl, rfl⟩, ⟨rfl, rfl⟩, trivial⟩ ⟨shC_les _ _ _, lesP_bys rfl, u32s_les rfl, ?_, trivial⟩⟩
         refine lesP_bys ?_
         rw [outN]
         exact (congrArg (fun k => setN (bys (outN w i)) k _) (by simp)).trans (setN_bys _ _ _ (by omega))
        ·obtain rfl : i = 32 := by omega
         generalize outN w 32 = x at ho ⊢
         refine wpc_sound (M := MS2) (PL := PLsu) (CU := noCut) TTok mixed _ _ _ ?_
         conv => whnf
         refine ifB_f ?_
         conv => whnf
         refine ⟨_, takeN_all (cs := bys x) (by simp [ho]), ?_⟩
         conv => whnf
         refine ⟨⟨ones_bys x, (by show (bys x).length = 32; simp [ho]), (by show 0 + 32 ≤ (bys (List.replicate 32 0)).length; simp)⟩, ?_⟩
         conv => whnf
         refine ⟨bys x, ?_, ?_⟩
         ·show takeN 32 (setN (bys (List.replicate 32 0)) 0 (bys x)) = some (bys x)
          rw [setN_all (by simp [ho])]
          exact takeN_all (by simp [ho])
         conv => whnf
         repeat ((first | refine ⟨⟨rfl, rfl⟩, ?_⟩ | (refine ⟨⟨rfl, rfl, ?_⟩, ?_⟩; (focus (first | assumption | exact pureL_bys _ | exact pureL_toks _)))); conv => whnf)
         exact demsP_bys _ _ rfl
       ·exact weaker_of [(0, 0), (1, 1), (3, 3), (4, 4)] rfl rfl ⟨⟨rfl, rfl⟩, ⟨rfl, rfl⟩, ⟨rfl, rfl⟩, ⟨rfl, rfl⟩, ⟨rfl, rfl⟩, trivial⟩ ⟨shC_les _ _ _, lesP_bys rfl, u32s_les (c8_eq hv).symm, lesP_bys (l := List.replicate 32 0) rfl, trivial⟩
     ·exact weaker_of [(0, 0), (1, 1), (3, 3)] rfl rfl ⟨⟨rfl, rfl⟩, ⟨rfl, rfl⟩, ⟨rfl, rfl, pureL_bys _⟩, ⟨rfl, rfl⟩, trivial⟩ ⟨shC_les _ _ _, lesP_bys rfl, (show lesP _ (c8 h) (c8 h) from c8_les _), trivial⟩
   ·exact weaker_of [(0, 0), (1, 1), (2, 2)] rfl rfl ⟨⟨rfl, rfl⟩, ⟨rfl, rfl⟩, ⟨rfl, rfl, rfl, rfl, fun h => h⟩, ⟨rfl, rfl⟩, trivial⟩ ⟨shC_les _ _ _, lesP_bys (l := List.replicate 32 0) rfl, lesP_bys rfl, trivial⟩
 ·refine weaker_of [(0, 0), (1, 1), (2, 4)] rfl rfl ⟨⟨rfl, rfl⟩, ⟨rfl, rfl⟩, ⟨rfl, rfl, by first | rfl | simp, rfl, fun h => h⟩, trivial⟩ ⟨shC_les _ _ _, lesP_bys (l := List.replicate 32 0) rfl, ?_, trivial⟩
  exact lesP_bys (by simp [padN, bys])
end
section
--KR
attribute [local irreducible] ifB fitP Does Weaker
def shaL (b : List Int) : List Int := sumL (wN hF b (b.length / 64)) (b.drop (64 * (b.length / 64))) b.length
theorem sumL_len (h rest : List Int) (n : Int) : (sumL h rest n).length = 32 := by
 unfold sumL
 generalize wN h (tailL rest n) ((tailL rest n).length / 64) = w
 exact outN_len w 32
theorem shaL_len (b : List Int) : (shaL b).length = 32 := by
 unfold shaL
 exact sumL_len _ _ _
theorem outN_byt (w : List Int) : ∀ i, Byt (outN w i)
 | 0 => fun x hx => by simp only [outN, List.mem_replicate] at hx; omega
 | i + 1 => fun x hx => by
  rw [outN] at hx
  rcases List.mem_or_eq_of_mem_set hx with h | h
  ·exact outN_byt w i x h
  ·rw [h]; exact u8_wrap _
theorem sumL_byt (h rest : List Int) (n : Int) : Byt (sumL h rest n) := by
 unfold sumL
 generalize wN h (tailL rest n) ((tailL rest n).length / 64) = w
 exact outN_byt w 32
theorem shaL_byt (b : List Int) : Byt (shaL b) := by
 unfold shaL
 exact sumL_byt _ _ _
set_option maxHeartbeats 1000000 in
theorem ssum_ok' (h rest : List Int) (n : Int) (hh : h.length = 8) (hr : Byt rest) (hl : rest.length < 64) : ACall Tryz.prog 85 [.ref (shC h rest n)] (.agg (c32 (sumL h rest n) [])) [.ref (shC h rest n)] := by
 have h3 := ssum_ok h rest n hh hr hl
 have hx := sumL_len h rest n
 generalize sumL h rest n = x at h3 hx ⊢
 rw [c32_eq hx, List.append_nil]
 exact h3
theorem c32_dems1 {H : Heap} {x : List Int} {zs : List AV} {K : List Nat → Prop} (hz : zs = c32 x []) (h : K []) : demsP H [.agg (c32 x [])] [.agg zs] K := by
 subst hz
 simp only [demsP, demP]
 refine c32_dems ?_
 simpa only [demsP, and_self, true_and, List.nil_append] using h
attribute [local irreducible] demsP
set_option maxRecDepth 20000 in
set_option maxHeartbeats 2000000 in
theorem sha_ok (b : List Int) (hb : Byt b) (hl : b.length ≤ 400000) : ACall Tryz.prog 54 [.ro b.length (bys b)] (.agg (c32 (shaL b) [])) [] := by
 have h1 := new_ok
 have h2 := swrite_ok b hb hl
 have h3 := ssum_ok' (wN hF b (b.length / 64)) (b.drop (64 * (b.length / 64))) b.length (wN_len rfl b _) (fun x hx => hb x (List.mem_of_mem_drop hx)) (by simp; omega)
 unfold shaL
 generalize wN hF b (b.length / 64) = v at h2 h3 ⊢
 generalize sumL v (b.drop (64 * (b.length / 64))) b.length = x at h3 ⊢
 refine ACall.of_does TTok Tryz.func54 rfl Tryz.call54 rfl (wpc_sound (M := MS2) (PL := PL0) (CU := cutAt [99999]) TTok mixed _ _ _ ?_)
 conv => whnf
 repeat ((refine ⟨rfl, ?_⟩); conv => whnf)
 refine ⟨_, _, h1, by first | rfl | simp [noRoIf, noRoL, noRoV, noRoL_bys], ?_⟩
 conv => whnf
 repeat ((first | refine ⟨pureL_bys _, ?_⟩ | refine ⟨rfl, ?_⟩); conv => whnf)
 refine ⟨_, _, h2, by first | rfl | simp [noRoIf, noRoL, noRoV, noRoL_bys], ?_⟩
 conv => whnf
 repeat ((first | refine ⟨pureL_bys _, ?_⟩ | refine ⟨rfl, ?_⟩); conv => whnf)
 refine ⟨_, _, h3, by first | rfl | simp [noRoIf, noRoL, noRoV, noRoL_bys], ?_⟩
 conv => whnf
 repeat ((refine ⟨(⟨by kernel_rfl, by kernel_rfl, Nat.le_of_ble_eq_true (by kernel_rfl)⟩ : AV.ones _ = true ∧ _ ∧ _), ?_⟩); conv => whnf)
 refine Does.tidy [(2, .ptr 0 0)] [(0, c32 x []), (1, shC v (b.drop (64 * (b.length / 64))) b.length)] 2 10 rfl rfl rfl (by kernel_rfl) (by kernel_rfl) ?_
 refine wpc_sound (M := MS2) (PL := PL0) (CU := noCut) TTok mixed _ _ _ ?_
 conv => whnf
 refine ⟨c32 x [], by kernel_rfl, ?_⟩
 conv => whnf
 refine c32_dems1 (by kernel_rfl) ?_
 rfl
end
section

theorem ACall.ownArg {P : Program} {f : FuncId} {len esz : Nat} {cs : List AV} {r : AV} (h : ACall P f [.ro len cs] r []) : ACall P f [.own len esz cs] r [] := by
 refine ⟨h.1, fun Z E vals X hh hr hn hz => ?_⟩
 simp only [RepBL] at hr
 obtain ⟨u, us, Y, Y', e1, e2, h1, rfl, rfl⟩ := hr
 subst e1
 rw [List.append_nil] at e2
 subst e2
 have hro := roOf_own (Z := Z) (fun b hb => (hh.V b).2 (.inl (.inl hb))) hz h1
 have hW : ∀ b, ¬ Wr E.ρ noHeap b := fun b ⟨id, c, k, _⟩ => by cases k
 have H1 : HeapRep (fun b => Z b ∨ b ∈ ([] : List Nat)) ⟨E.η, E.ρ, Z, E.w⟩ noHeap 0 := {
  blk := fun id c k => by cases k
  inj := fun id id' n k => (k rfl).elim
  V := fun b => ⟨fun k => .inl (.inl k), fun k => by
   rcases k with (k | k) | k
   ·exact k
   ·exact absurd k (List.not_mem_nil)
   ·exact (hW b k).elim⟩
  apart := fun id n k => (k rfl).elim
  fresh := hh.fresh
  one := hh.one
  old := hh.old
  zold := fun b k => by
   rcases k with k | k
   ·exact hh.zold b (.inl k)
   ·exact absurd k (List.not_mem_nil)
  tab := fun g k l hg => by
   obtain ⟨t1, t2, t3⟩ := hh.tab g k l hg
   exact ⟨t1, fun hv => t2 ((hh.V g).2 (.inl (.inl hv))), t3⟩ }
 have hb : RepBL ⟨E.η, E.ρ, Z, E.w⟩ [.ro len cs] [u] [] := by
  simp only [RepBL]
  exact ⟨u, [], [], [], rfl, rfl, hro, rfl, rfl⟩
 refine (h.2 Z ⟨E.η, E.ρ, Z, E.w⟩ [u] [] H1 hb List.nodup_nil (fun b hb => absurd hb (List.not_mem_nil))).mono ?_
 rintro e w' ⟨v, E', Xr, he, hw, hη, hev, hV, hB, hnd, hX⟩
 exact ⟨v, E', Xr, he, hw, hη, hev.mono (fun x hx => absurd hx (List.not_mem_nil)), hV, hB, hnd, fun b hb => ⟨(hX b hb).1, fun k => absurd ((hX b hb).2.1 k) (List.not_mem_nil), (hX b hb).2.2⟩⟩
mutual
theorem unborder_pure {E : Env} : ∀ (x : AV) (v : Value) (X : List Nat), pureV x = true → RepB E x v X → RepV E x v ∧ X = []
 | .own _ _ _, v, X, hp, _ => by simp [pureV] at hp
 | .ref _, v, X, hp, _ => by simp [pureV] at hp
 | .sl _ _ _ _ _, v, X, hp, _ => by simp [pureV] at hp
 | .ptr _ _, v, X, hp, _ => by simp [pureV] at hp
 | .agg cs, v, X, hp, h => by
  simp only [RepB] at h
  obtain ⟨vs, rfl, hl⟩ := h
  have := unborderL_pure cs _ X (by simpa [pureV] using hp) hl
  simp only [RepV]
  exact ⟨⟨vs, rfl, this.1⟩, this.2⟩
 | .tuple cs, v, X, hp, h => by
  simp only [RepB] at h
  obtain ⟨vs, rfl, hl⟩ := h
  have := unborderL_pure cs _ X (by simpa [pureV] using hp) hl
  simp only [RepV]
  exact ⟨⟨vs, rfl, this.1⟩, this.2⟩
 | .top, v, X, hp, h => by simp only [RepB] at h; exact ⟨h.2.1, h.2.2⟩
 | .int k n, v, X, hp, h => by simp only [RepB] at h; exact ⟨h.2.1, h.2.2⟩
 | .bool b, v, X, hp, h => by simp only [RepB] at h; exact ⟨h.2.1, h.2.2⟩
 | .anyb, v, X, hp, h => by simp only [RepB] at h; exact ⟨h.2.1, h.2.2⟩
 | .str s, v, X, hp, h => by simp only [RepB] at h; exact ⟨h.2.1, h.2.2⟩
 | .nil, v, X, hp, h => by simp only [RepB] at h; exact ⟨h.2.1, h.2.2⟩
 | .ro len cs, v, X, hp, h => by simp only [RepB] at h; exact ⟨h.2.1, h.2.2⟩
 | .rop cs, v, X, hp, h => by simp only [RepB] at h; exact ⟨h.2.1, h.2.2⟩
 | .nilp, v, X, hp, h => by simp only [RepB] at h; exact ⟨h.2.1, h.2.2⟩
 | .hid i, v, X, hp, h => by simp only [RepB] at h; exact ⟨h.2.1, h.2.2⟩
 | .fn f cs, v, X, hp, h => by simp only [RepB] at h; exact ⟨h.2.1, h.2.2⟩
theorem unborderL_pure {E : Env} : ∀ (cs : List AV) (vs : List Value) (X : List Nat), pureL cs = true → RepBL E cs vs X → RepL E cs vs ∧ X = []
 | [], vs, X, _, h => by
  simp only [RepBL] at h
  simp only [RepL]
  exact h
 | c :: cs, vs, X, hp, h => by
  simp only [pureL, Bool.and_eq_true] at hp
  simp only [RepBL] at h
  obtain ⟨u, us, Y, Y', rfl, rfl, h1, h2⟩ := h
  have a := unborder_pure c u Y hp.1 h1
  have b := unborderL_pure cs us Y' hp.2 h2
  simp only [RepL]
  exact ⟨⟨u, us, rfl, a.1, b.1⟩, by rw [a.2, b.2]; rfl⟩
end
theorem ACall.les {P : Program} {f : FuncId} {xs ys : List AV} {r : AV} (h : ACall P f ys r []) (hx : pureL xs = true) (hy : pureL ys = true) (hl : lesP (fun _ => none) ys xs) : ACall P f xs r [] := by
 refine ⟨h.1, fun Z E vals X hh hr hn hz => ?_⟩
 obtain ⟨k1, rfl⟩ := unborderL_pure xs vals X hx hr
 have k2 := lesP_ok (E := E) (E' := E) ⟨rfl, rfl⟩ (fun b hb => hb) (fun i j n hi => by cases hi) ys xs _ hl k1
 have k3 := borderL_pure ys vals hy k2
 have := h.2 Z E vals [] hh k3 hn hz
 rw [refVals_pure ys vals hy] at this
 rw [refVals_pure xs vals hx]
 exact this
end
section

def wpAnyG (P : Program) (ops : Array Oper) (Q : Exit → Act → World → Prop) (S : Array Bool → World → Prop) : Nat → Array Bool → Act → World → Prop
 | 0, listed, a, w => Region.ready .any ops listed = [] ∧ Q .normal a w
 | fuel + 1, listed, a, w =>
  (Region.ready .any ops listed = [] → Q .normal a w) ∧
  ∀ i ∈ Region.ready .any ops listed, wpOp P ops Q i (fun a' w' => S (listed.setIfInBounds i true) w' ∧ wpAnyG P ops Q S fuel (listed.setIfInBounds i true) a' w') a w
theorem wpAny_of_G {P : Program} {ops : Array Oper} {Q : Exit → Act → World → Prop} {S : Array Bool → World → Prop} :
  ∀ (fuel : Nat) (listed : Array Bool) (a : Act) (w : World), wpAnyG P ops Q S fuel listed a w → wpAny P .any ops Q fuel listed a w
 | 0, _, _, _, h => h
 | fuel + 1, _, _, _, h => ⟨h.1, fun i hi => wpOp_mono (fun a' w' h' => wpAny_of_G fuel _ a' w' h'.2) (h.2 i hi)⟩
def Sup (l l' : Array Bool) : Prop := ∀ j, l.getD j true = true → l'.getD j true = true
theorem Sup.refl (l : Array Bool) : Sup l l := fun _ h => h
theorem Sup.set (l : Array Bool) (i : Nat) : Sup l (l.setIfInBounds i true) := fun j h => by
 by_cases hij : i = j
 ·subst hij
  simp only [Array.getD_eq_getD_getElem?, Array.getElem?_setIfInBounds, if_true]
  by_cases hl : i < l.size <;> simp [hl]
 ·rw [getD_set_ne true hij]; exact h
theorem getD_set_eq (l : Array Bool) (i : Nat) : (l.setIfInBounds i true).getD i true = true := by
 simp only [Array.getD_eq_getD_getElem?, Array.getElem?_setIfInBounds, if_true]
 by_cases hl : i < l.size <;> simp [hl]
theorem Sup.trans {a b c : Array Bool} (h : Sup a b) (k : Sup b c) : Sup a c := fun j hj => k j (h j hj)
theorem wpAnyG_mono {P : Program} {ops : Array Oper} {Q : Exit → Act → World → Prop} {S S' : Array Bool → World → Prop} :
  ∀ (fuel : Nat) (listed : Array Bool) (a : Act) (w : World), (∀ l w, Sup listed l → S l w → S' l w) → wpAnyG P ops Q S fuel listed a w → wpAnyG P ops Q S' fuel listed a w
 | 0, _, _, _, _, h => h
 | fuel + 1, listed, _, _, hS, h => ⟨h.1, fun i hi => wpOp_mono (fun a' w' h' => ⟨hS _ _ (Sup.set _ _) h'.1, wpAnyG_mono fuel _ a' w' (fun l w hl hs => hS l w ((Sup.set _ _).trans hl) hs) h'.2⟩) (h.2 i hi)⟩
theorem wpAnyG_first {P : Program} {ops : Array Oper} {Q : Exit → Act → World → Prop} {S : Array Bool → World → Prop} {Inv : Array Bool → Prop} {i : Nat} {oi : Oper} {v : Value} (hi : ops[i]? = some oi)
  (hsel : ∀ (j : Nat) (o : Oper) cs b, ops[j]? = some o → o.op ≠ .select cs b) (hQ : ∀ c a w, Q (.panic c) (a.put oi.dst v) w → Q (.panic c) a w)
  (hset : ∀ l w, S (l.setIfInBounds i true) w ↔ S l w) (hinv : ∀ l j, Inv l → j ∈ Region.ready .any ops l → Inv (l.setIfInBounds j true)) :
  ∀ (fuel : Nat) (listed : Array Bool) (a : Act) (w : World),
   (∀ j oj, ops[j]? = some oj → j ≠ i → listed.getD j true = false → (∀ e ∈ oj.after, Region.binds .any e = true → e.on ≠ i) → oi.apart ops oj = true) →
   i ∈ Region.ready .any ops listed → YieldsIf P ops (fun w => ∃ l, l.getD i true = false ∧ Inv l ∧ S l w) oi v a → Inv listed → S listed w →
   wpAnyG P ops Q S fuel (listed.setIfInBounds i true) (a.put oi.dst v) w → wpAnyG P ops Q S (fuel + 1) listed a w := by
 intro fuel
 induction fuel with
 | zero =>
  intro listed a w _ hr hy hI hS H
  refine ⟨fun h => (by rw [h] at hr; cases hr), fun j hj => ?_⟩
  by_cases hji : j = i
  ·subst hji; exact hy.wpOp hi ⟨listed, (mem_ready.1 hr).1, hI, hS⟩ ⟨(hset _ _).2 hS, H⟩
  ·have := ready_mono hj hji
   rw [H.1] at this
   cases this
 | succ fuel ih =>
  intro listed a w hfree hr hy hI hS H
  refine ⟨fun h => (by rw [h] at hr; cases hr), fun j hj => ?_⟩
  by_cases hji : j = i
  ·subst hji; exact hy.wpOp hi ⟨listed, (mem_ready.1 hr).1, hI, hS⟩ ⟨(hset _ _).2 hS, H⟩
  ·have h1 := H.2 j (ready_mono hj hji)
   obtain ⟨hjun, oj, hoj, hall⟩ := mem_ready.1 hj
   have hnot : ∀ e ∈ oj.after, Region.binds .any e = true → e.on ≠ i := fun e he hb heq => by
    have h1 := hall e he hb
    have h0 := (mem_ready.1 hr).1
    rw [heq] at h1
    rcases Nat.lt_or_ge i listed.size with h' | h'
    ·simp [h'] at h0 h1; rw [h0] at h1; cases h1
    ·simp [Array.getElem?_eq_none h'] at h1
   have h2 := wpOp_putIf hoj (hfree j oj hoj hji hjun hnot) (fun cs b => hsel i oi cs b hi) (fun cs b => hsel j oj cs b hoj) hQ hy h1
   have hfree' : ∀ k ok, ops[k]? = some ok → k ≠ i → (listed.setIfInBounds j true).getD k true = false →
     (∀ e ∈ ok.after, Region.binds .any e = true → e.on ≠ i) → oi.apart ops ok = true := fun k ok hk hki hun hno => by
    refine hfree k ok hk hki ?_ hno
    by_cases hjk : j = k
    ·subst hjk; exact hjun
    ·rw [getD_set_ne true hjk] at hun; exact hun
   refine wpOp_mono (fun a' w' h3 => ?_) h2
   have hS' : S (listed.setIfInBounds j true) w' := by
    have := h3.2.1
    rw [Array.setIfInBounds_comm _ _ (Ne.symm hji)] at this
    exact (hset _ _).1 this
   refine ⟨hS', ih (listed.setIfInBounds j true) a' w' hfree' (ready_mono hr (Ne.symm hji)) h3.1 (hinv _ _ hI hj) hS' ?_⟩
   rw [Array.setIfInBounds_comm _ _ hji]
   exact h3.2.2
theorem wpAnyG_all {P : Program} {ops : Array Oper} {Q : Exit → Act → World → Prop} {S : Array Bool → World → Prop} {rs : List Nat} {fuel : Nat} {listed : Array Bool} {a : Act} {w : World} (hr : Region.ready .any ops listed = rs) (hne : rs ≠ [])
  (h : ∀ i ∈ rs, wpOp P ops Q i (fun a' w' => S (listed.setIfInBounds i true) w' ∧ wpAnyG P ops Q S fuel (listed.setIfInBounds i true) a' w') a w) : wpAnyG P ops Q S (fuel + 1) listed a w :=
 ⟨fun h0 => absurd (hr ▸ h0) hne, hr ▸ h⟩
theorem wpAnyG_done {P : Program} {ops : Array Oper} {Q : Exit → Act → World → Prop} {S : Array Bool → World → Prop} {listed : Array Bool} {a : Act} {w : World} (hr : Region.ready .any ops listed = []) (h : Q .normal a w) :
  ∀ fuel, wpAnyG P ops Q S fuel listed a w
 | 0 => ⟨hr, h⟩
 | _ + 1 => ⟨fun _ => h, by rw [hr]; simp⟩
def quietM : List Mode → Bool
 | [] => true
 | .rd :: r => quietM r
 | .bw :: r => quietM r
 | _ => false
theorem pass_quiet {H : Heap} : ∀ (ms : List Mode) (xs : List AV) (K : List AV → List Nat → List Nat → Prop), quietM ms = true → passAll H ms xs K → ∃ ys ids bs, K ys ids bs ∧ PassedL H xs ys ids bs ∧ pureL ys = true
 | [], [], K, _, h => by unfold passAll at h; exact ⟨_, _, _, h, .nil, rfl⟩
 | [], _ :: _, K, _, h => by unfold passAll at h; exact h.elim
 | .rd :: ms, x :: xs, K, hq, h => by
  unfold passAll at h
  have hq : quietM ms = true := hq
  unfold passOne at h
  cases x <;> simp only at h
  case nil =>
   obtain ⟨ys, is, bs, h2, p2, p3⟩ := pass_quiet ms xs _ hq h
   exact ⟨_, _, _, h2, .cons passed_nil p2, by simp [pureL, pureV, p3]⟩
  case ro len cs =>
   obtain ⟨ys, is, bs, h2, p2, p3⟩ := pass_quiet ms xs _ hq h.2
   exact ⟨_, _, _, h2, .cons (passed_pure (by simpa [pureV] using h.1)) p2, by simp [pureL, pureV, p3, h.1]⟩
  case agg cs =>
   obtain ⟨ys, is, bs, h2, p2, p3⟩ := pass_quiet ms xs _ hq h.2
   exact ⟨_, _, _, h2, .cons (passed_pure (by simpa [pureV] using h.1)) p2, by simp [pureL, pureV, p3, h.1]⟩
  all_goals
   obtain ⟨ys, is, bs, h2, p2, p3⟩ := pass_quiet ms xs _ hq h.2
   exact ⟨_, _, _, h2, .cons (passed_pure h.1) p2, by simp only [pureL, p3, Bool.and_true]; exact h.1⟩
 | .bw :: ms, x :: xs, K, hq, h => by
  unfold passAll at h
  have hq : quietM ms = true := hq
  unfold passOne at h
  cases x <;> simp only at h
  case nil =>
   obtain ⟨ys, is, bs, h2, p2, p3⟩ := pass_quiet ms xs _ hq h
   exact ⟨_, _, _, h2, .cons passed_nil p2, by simp [pureL, pureV, p3]⟩
  case ro len cs =>
   obtain ⟨ys, is, bs, h2, p2, p3⟩ := pass_quiet ms xs _ hq h.2
   exact ⟨_, _, _, h2, .cons (passed_pure (by simpa [pureV] using h.1)) p2, by simp [pureL, pureV, p3, h.1]⟩
  case sl id off len esz full =>
   split at h
   ·rename_i cs hcs
    obtain ⟨hp, h⟩ := h
    rcases h with ⟨⟨rfl, hl⟩, hk⟩ | hk
    ·obtain ⟨ys, is, bs, h2, p2, p3⟩ := pass_quiet ms xs _ hq hk
     exact ⟨_, _, _, h2, .cons (.bor hcs (by rw [List.drop_zero, List.take_of_length_le (by omega)]) hp) p2, by simp [pureL, pureV, p3, hp]⟩
    ·obtain ⟨ys, is, bs, h2, p2, p3⟩ := pass_quiet ms xs _ hq hk
     exact ⟨_, _, _, h2, .cons (.bor hcs rfl (pureL_take (pureL_drop hp off) _)) p2, by simp only [pureL, pureV, p3, Bool.and_true]; exact pureL_take (pureL_drop hp off) _⟩
   ·exact h.elim
 | .mv _ :: _, _, _, hq, _ => by cases hq
 | .rf _ :: _, _, _, hq, _ => by cases hq
 | .hd :: _, _, _, hq, _ => by cases hq
 | .cmp :: _, _, _, hq, _ => by cases hq
 | .nl :: _, _, _, hq, _ => by cases hq
 | .ag :: _, _, _, hq, _ => by cases hq
 | .rd :: _, [], K, _, h => by unfold passAll at h; exact h.elim
 | .bw :: _, [], K, _, h => by unfold passAll at h; exact h.elim
def Still (w w' : World) : Prop := ∀ b, b < w.heap.size → w'.heap[b]? = w.heap[b]?
theorem ACall.toStill {P : Program} {f : FuncId} {args : List AV} {r : AV} {outs : List AV} (hp : pureL args = true) (h : ACall P f args r outs) : ACallJ P f args r outs (fun _ _ => True) (fun _ w w' => Still w w') := by
 intro Z E vals X h1 h2 h3 h4 _
 obtain ⟨_, rfl⟩ := unborderL_pure args vals X hp h2
 refine (h.2 Z E vals [] h1 h2 h3 h4).mono ?_
 rintro e w' ⟨v, E1, Xr, k1, k2, k3, k4, k5, k6, k7, k8⟩
 exact ⟨v, E1, Xr, k1, k2, k3, k4, k5, k6, k7, k8, fun b hb => k4.same b hb (List.not_mem_nil)⟩
theorem callQ_quiet {P : Program} {Z : Nat → Prop} {E : Env} {H : Heap} {nx : Nat} (hr : HeapRep Z E H nx) {M : List Mode} {f : FuncId} {xs : List AV} {vals : List Value} {K : AV → Heap → Nat → Prop} (hq : quietM M = true)
  (hx : RepL E xs vals) (h : callQ P M f H nx xs K) :
  Calls P f vals.toArray E.w fun e w' => ∃ x H' nx' E' v, e = .returned v ∧ K x H' nx' ∧ E'.w = w' ∧ After Z E H x H' nx' v E' ∧ Still E.w w' := by
 have h : callP P M f H nx xs K := by
  unfold callQ at h
  split at h
  ·cases hq
  ·exact h
 unfold callP at h
 obtain ⟨ys, ids, bs, ⟨hnd, r, outs, hcall, hnoro, hk⟩, hp, hy⟩ := pass_quiet M xs _ hq h
 exact callJ_core hr hx hnd (hcall.toStill hy) trivial hnoro hk hp
def quietOp (M : FuncId → List Mode) : Op → Bool
 | .call c => match c.callee with
  | .value (.func g) => quietM (M g)
  | _ => false
 | _ => false
theorem quiet_notCmp {ms : List Mode} (h : quietM ms = true) : isCmp ms = false := by
 cases ms with
 | nil => rfl
 | cons m r => cases m <;> first | rfl | cases h
def Gq (q : List Nat) (E : Env) (l : Array Bool) (w : World) : Prop := ∃ E', E'.w = w ∧ Later E E' ∧ ((∀ j ∈ q, l.getD j true = false) → Still E.w w)
mutual
def planG (T : Types) (M : FuncId → List Mode) (q ls : List Nat) (ops : Array Oper) : Nat → Array Bool → Plan → Bool
 | fuel, listed, .done => (Region.ready .any ops listed).isEmpty
 | 0, _, .take _ _ => false
 | fuel + 1, listed, .take i p => match ops[i]? with
  | some o => (Region.ready .any ops listed).contains i && Region.free .any ops listed i && !q.contains i && (pureOp T o.op || (isLoad o.op && ls.contains i)) && planG T M q ls ops fuel (listed.setIfInBounds i true) p
  | none => false
 | 0, _, .all _ => false
 | fuel + 1, listed, .all ps => !ps.isEmpty && (Region.ready .any ops listed == ps.map (·.1)) && plansG T M q ls ops fuel listed ps
def plansG (T : Types) (M : FuncId → List Mode) (q ls : List Nat) (ops : Array Oper) : Nat → Array Bool → List (Nat × Plan) → Bool
 | _, _, [] => true
 | fuel, listed, (i, p) :: r => (q.contains i || (match ops[i]? with
  | some o => quietOp M o.op || isLoad o.op
  | none => false)) && planG T M q ls ops fuel (listed.setIfInBounds i true) p && plansG T M q ls ops fuel listed r
end
def behind (ops : Array Oper) : Nat → Nat → Nat → Bool
 | 0, j, i => Nat.beq j i
 | f + 1, j, i => Nat.beq j i || (match ops[j]? with
  | some o => o.after.toList.any fun e => Region.binds .any e && behind ops f e.on i
  | none => false)
def waitsG (q ls : List Nat) (ops : Array Oper) : Bool := q.all fun j => ls.all fun i => behind ops 3 j i
def InvG (ops : Array Oper) (l : Array Bool) : Prop := ∀ j o, ops[j]? = some o → l.getD j true = true → ∀ e ∈ o.after, Region.binds .any e = true → l.getD e.on true = true
theorem behind_ok {ops : Array Oper} {l : Array Bool} (hI : InvG ops l) : ∀ (f j i : Nat), behind ops f j i = true → l.getD j true = true → l.getD i true = true
 | 0, j, i, h, hl => by
  unfold behind at h
  rw [← Nat.eq_of_beq_eq_true h]; exact hl
 | f + 1, j, i, h, hl => by
  unfold behind at h
  rw [Bool.or_eq_true] at h
  rcases h with h | h
  ·rw [← Nat.eq_of_beq_eq_true h]; exact hl
  ·split at h
   ·rename_i o ho
    obtain ⟨e, he, hb⟩ := List.any_eq_true.1 h
    rw [Bool.and_eq_true] at hb
    exact behind_ok hI f e.on i hb.2 (hI j o ho hl e (Array.mem_toList_iff.1 he) hb.1)
   ·cases h
theorem inv_step {ops : Array Oper} (l : Array Bool) (j : Nat) (hI : InvG ops l) (hj : j ∈ Region.ready .any ops l) : InvG ops (l.setIfInBounds j true) := by
 intro k o ho hl e he hb
 by_cases hjk : j = k
 ·subst hjk
  obtain ⟨h0, o', ho', hall⟩ := mem_ready.1 hj
  rw [ho] at ho'
  cases ho'
  have := hall e he hb
  refine Sup.set l j e.on ?_
  rcases Nat.lt_or_ge e.on l.size with h' | h'
  ·simpa [h'] using this
  ·simp [Array.getElem?_eq_none h'] at this
 ·rw [getD_set_ne true hjk] at hl
  exact Sup.set l j e.on (hI k o ho hl e he hb)
theorem Gq.set {q : List Nat} {E : Env} {i : Nat} (hq : q.contains i = false) (l : Array Bool) (w : World) : Gq q E (l.setIfInBounds i true) w ↔ Gq q E l w := by
 have e : (∀ j ∈ q, (l.setIfInBounds i true).getD j true = false) ↔ ∀ j ∈ q, l.getD j true = false := by
  refine forall_congr' fun j => forall_congr' fun hj => ?_
  rw [getD_set_ne true (fun h => by subst h; rw [List.contains_eq_mem] at hq; simp [hj] at hq)]
 unfold Gq
 rw [e]
theorem Gq.here (q : List Nat) (E : Env) (l : Array Bool) : Gq q E l E.w := ⟨E, rfl, Later.refl E, fun _ b _ => rfl⟩
theorem Still.trans {a b c : World} (h : Still a b) (hl : a.heap.size ≤ b.heap.size) (k : Still b c) : Still a c := fun x hx => (k x (by omega)).trans (h x hx)
theorem loadP_lt {P : Program} {T : Types} (hT : TOK P T) {Z : Nat → Prop} {E : Env} {H : Heap} {nx : Nat} (hr : HeapRep Z E H nx) {t : TypeId} {A : AV} {va : Value} {K : AV → Prop}
  (ha : RepV E A va) (h : loadP T H t A K) : ∃ x v, K x ∧ RepV E x v ∧ ((∃ b, b < E.w.heap.size ∧ ∀ w', w'.heap[b]? = E.w.heap[b]? → (Instr.loadAt t va).run P w' = .ok v w') ∨ ∀ w', (Instr.loadAt t va).run P w' = .ok v w') := by
 unfold loadP at h
 split at h
 ·rename_i id off
  simp only [RepV] at ha
  obtain ⟨n, hn, rfl⟩ := ha
  split at h
  ·rename_i cs hcs
   have hm : ∀ (j : Nat) x, (cs.drop off)[j]? = some x → ∃ u, E.w.cell? ⟨n, off + j, none⟩ = some u ∧ RepV E x u := fun j x hx => blk_cells hr hcs hn (off + j) x (by simpa using hx)
   obtain ⟨x, v, h1, h2, h3⟩ := getP_sound (P := P) hT (b := n) (off := off) (E := E) hm h
   exact ⟨x, v, h1, h3, .inl ⟨n, hr.old id n hn, fun w' hs => by simp [Instr.loadAt, Instr.sureAddr, load_cong hT hm h h2 hs]⟩⟩
  ·exact h.elim
 ·rename_i cs
  simp only [RepV] at ha
  obtain ⟨b, off, rfl, hc⟩ := ha
  have e0 : ∀ ds : List AV, ds = [] → getP T t ds K → ∃ x v, K x ∧ RepV E x v ∧ ∀ w', (Instr.loadAt t (.pointer (some ⟨b, off, none⟩))).run P w' = .ok v w' := by
   rintro ds rfl h
   have h' := h
   have hy : getP T t [] (fun x => x = .agg []) ∧ K (.agg []) := by
    unfold getP at h ⊢
    split at h
    ·rename_i i hi
     cases ha : i.d.agg
     case true =>
      simp only [ha] at h ⊢
      obtain ⟨r, hr, h⟩ := h
      obtain ⟨hl, rfl⟩ := takeN_spec _ _ _ hr
      simp only [List.take_nil] at h hr
      exact ⟨⟨_, hr, rfl⟩, h⟩
     case false =>
      simp only [ha] at h
      obtain ⟨x, hx, h⟩ := h
      simp at hx
    ·exact h.elim
   refine ⟨.agg [], .agg #[], hy.2, by simp [RepV, RepL], fun w' => ?_⟩
   have hm : ∀ (j : Nat) x, ([] : List AV)[j]? = some x → ∃ u, w'.cell? ⟨b, off + j, none⟩ = some u ∧ RepV { E with w := w' } x u := fun j x hx => by simp at hx
   obtain ⟨x, v, rfl, h2, h3⟩ := getP_sound (P := P) hT (b := b) (off := off) (E := { E with w := w' }) hm hy.1
   simp only [RepV, RepL] at h3
   obtain ⟨vs, rfl, h3⟩ := h3
   have : vs = #[] := by cases vs; simp_all
   subst this
   simp [Instr.loadAt, Instr.sureAddr, h2]
  rcases hc with rfl | ⟨hV, hm⟩
  ·obtain ⟨x, v, h1, h2, h3⟩ := e0 [] rfl h
   exact ⟨x, v, h1, h2, .inr h3⟩
  ·cases cs with
   | nil =>
    obtain ⟨x, v, h1, h2, h3⟩ := e0 [] rfl h
    exact ⟨x, v, h1, h2, .inr h3⟩
   | cons c cs =>
    have hm' := repM_get (c :: cs) b off hm
    obtain ⟨x, v, h1, h2, h3⟩ := getP_sound (P := P) hT (b := b) (off := off) (E := E) hm' h
    obtain ⟨u, hu, _⟩ := hm' 0 c rfl
    exact ⟨x, v, h1, h3, .inl ⟨b, World.block_lt_of_cell? _ _ hu, fun w' hs => by simp [Instr.loadAt, Instr.sureAddr, load_cong hT hm' h h2 hs]⟩⟩
 ·exact h.elim
theorem yieldsG_of {P : Program} {T : Types} (hT : TOK P T) {M : FuncId → List Mode} {q ls : List Nat} {ops : Array Oper} (hwt : waitsG q ls ops = true) {Z : Nat → Prop} {E : Env} {st : St} {a : Act} (S : Sim Z E st a) {i : Nat} {o : Oper} {K : St → Prop}
  (hw : Region.wanted o (yielded ops a.tmps) = true) (hk : pureOp T o.op = true ∨ (isLoad o.op = true ∧ ls.contains i = true)) (h : runP P T M o st K) :
  ∃ v st', YieldsIf P ops (fun w => ∃ l, l.getD i true = false ∧ InvG ops l ∧ Gq q E l w) o v a ∧ K st' ∧ Sim Z E st' (a.put o.dst v) := by
 rw [runP_eq] at h
 rcases hk with hp | ⟨hl, hin⟩
 ·obtain ⟨y, v, h1, h2, h3⟩ := opP_yields hT S hp h
  obtain ⟨st', k1, k2⟩ := after_sim S (After.pure S.heap h2) h1
  exact ⟨v, st', .inl ⟨hw, fun w _ => h3 w⟩, k1, k2⟩
 ·unfold isLoad at hl
  split at hl
  ·rename_i t A ho
   rw [ho] at h
   simp only [opP, force_eq] at h
   obtain ⟨y, v, h1, h2, h3⟩ := loadP_lt (P := P) hT S.heap (rep_evalO S A) h
   obtain ⟨st', k1, k2⟩ := after_sim S (After.pure S.heap h2) h1
   refine ⟨v, st', .inl ⟨hw, fun w hs => ?_⟩, k1, k2⟩
   obtain ⟨l, hli, hI, E', rfl, L, hx⟩ := hs
   simp only [execOp, ho]
   refine vrun ?_
   rcases h3 with ⟨b, hlt, h3⟩ | h3
   ·refine h3 _ (hx (fun j hj => ?_) b hlt)
    cases hc : l.getD j true with
    | false => rfl
    | true =>
     have := behind_ok hI 3 j i (List.all_eq_true.1 (List.all_eq_true.1 hwt j hj) i (by simpa [List.contains_eq_mem] using hin)) hc
     rw [hli] at this
     cases this
   ·exact h3 _
  ·cases hl
mutual
theorem planG_sound {P : Program} {T : Types} (hT : TOK P T) {M : FuncId → List Mode} {q ls : List Nat} {ops : Array Oper} (hns : Region.noSelect ops = true) (hwt : waitsG q ls ops = true) {Z : Nat → Prop} {E : Env} {H : Heap} {nx : Nat} (h0 : HeapRep Z E H nx) {K : St → Prop} :
  ∀ (p : Plan) (fuel : Nat) (listed : Array Bool) (st : St) (E1 : Env) (a : Act), Sim Z E1 st a → Chain E (Wr E.ρ H) E1 → InvG ops listed → planG T M q ls ops fuel listed p = true → planP P T M true ops p st K →
   wpAnyG P ops (RegPost Z E H K) (Gq q E1) fuel listed a E1.w
 | .done, fuel, listed, st, E1, a, S, c, hI, hok, h => by
  unfold planG at hok
  unfold planP at h
  exact wpAnyG_done (List.isEmpty_iff.1 hok) ⟨st, E1, rfl, h, S, rfl, c⟩ fuel
 | .take i p, 0, listed, st, E1, a, S, c, hI, hok, h => by simp [planG] at hok
 | .take i p, fuel + 1, listed, st, E1, a, S, c, hI, hok, h => by
  unfold planG at hok
  unfold planP at h
  split at hok
  case h_2 => cases hok
  rename_i o ho
  rw [ho] at h
  dsimp only at h
  simp only [Bool.and_eq_true, Bool.or_eq_true, Bool.not_eq_true'] at hok
  obtain ⟨⟨⟨⟨hr, hf⟩, hqi⟩, hk⟩, hok⟩ := hok
  have h : stepP P T M ops o st fun st' => planP P T M true ops p st' K := by simpa using h
  obtain ⟨st1, S1, e1, e2, hh⟩ := step_cases S h
  have hQ : ∀ (v : Value) c a w, RegPost Z E H K (.panic c) (Act.put a o.dst v) w → RegPost Z E H K (.panic c) a w := by
   rintro v c a w ⟨_, _, he, _⟩
   cases he
  have hr' : i ∈ Region.ready .any ops listed := by simpa using hr
  have hI' := inv_step listed i hI hr'
  rcases hh with ⟨hw, hrun⟩ | ⟨hw, hs⟩
  ·obtain ⟨v, st', hy, k1, k2⟩ := yieldsG_of (q := q) (ls := ls) hT hwt S1 hw hk hrun
   exact wpAnyG_first (Inv := InvG ops) ho (Region.noSelect_spec hns) (hQ v) (Gq.set hqi) (inv_step) fuel listed a E1.w (Region.free_spec ho hf) hr' hy hI (Gq.here _ _ _) (planG_sound hT hns hwt h0 p fuel _ st' E1 _ k2 c hI' hok k1)
  ·obtain ⟨st', k1, k2⟩ := skip_sim S1 hs
   exact wpAnyG_first (Inv := InvG ops) ho (Region.noSelect_spec hns) (hQ undef) (Gq.set hqi) (inv_step) fuel listed a E1.w (Region.free_spec ho hf) hr' (.inr ⟨hw, rfl⟩) hI (Gq.here _ _ _) (planG_sound hT hns hwt h0 p fuel _ st' E1 _ k2 c hI' hok k1)
 | .all ps, 0, listed, st, E1, a, S, c, hI, hok, h => by simp [planG] at hok
 | .all ps, fuel + 1, listed, st, E1, a, S, c, hI, hok, h => by
  unfold planG at hok
  unfold planP at h
  simp only [Bool.and_eq_true, Bool.not_eq_true'] at hok
  obtain ⟨⟨hne, hr⟩, hok⟩ := hok
  have hr' : Region.ready .any ops listed = ps.map (·.1) := by simpa using hr
  refine wpAnyG_all hr' (by intro he; simp at he; simp [he] at hne) fun i hi => ?_
  exact plansG_sound hT hns hwt h0 ps fuel listed st E1 a S c hI (fun i hi => by rw [hr']; exact hi) hok h i hi
theorem plansG_sound {P : Program} {T : Types} (hT : TOK P T) {M : FuncId → List Mode} {q ls : List Nat} {ops : Array Oper} (hns : Region.noSelect ops = true) (hwt : waitsG q ls ops = true) {Z : Nat → Prop} {E : Env} {H : Heap} {nx : Nat} (h0 : HeapRep Z E H nx) {K : St → Prop} :
  ∀ (ps : List (Nat × Plan)) (fuel : Nat) (listed : Array Bool) (st : St) (E1 : Env) (a : Act), Sim Z E1 st a → Chain E (Wr E.ρ H) E1 → InvG ops listed → (∀ i ∈ ps.map (·.1), i ∈ Region.ready .any ops listed) → plansG T M q ls ops fuel listed ps = true → plansP P T M true ops ps st K →
   ∀ i ∈ ps.map (·.1), wpOp P ops (RegPost Z E H K) i (fun a' w' => Gq q E1 (listed.setIfInBounds i true) w' ∧ wpAnyG P ops (RegPost Z E H K) (Gq q E1) fuel (listed.setIfInBounds i true) a' w') a E1.w
 | [], fuel, listed, st, E1, a, S, c, hI, hrd, hok, h => by simp
 | (j, p) :: r, fuel, listed, st, E1, a, S, c, hI, hrd, hok, h => by
  unfold plansG at hok
  unfold plansP at h
  simp only [Bool.and_eq_true, Bool.or_eq_true] at hok
  obtain ⟨⟨hqj, hok⟩, hoks⟩ := hok
  split at h
  case h_2 => exact h.elim
  rename_i o ho
  rw [ho] at hqj
  dsimp only at hqj
  have hone : stepP P T M ops o st (fun st' => planP P T M true ops p st' K) ∧ plansP P T M true ops r st K := by
   cases r with
   | nil => exact ⟨h, by simp [plansP]⟩
   | cons _ _ => exact h
  obtain ⟨hstep, hrest⟩ := hone
  intro i hi
  rcases List.mem_cons.1 (by simpa using hi : i ∈ j :: r.map (·.1)) with rfl | hi
  ·have hI' := inv_step listed i hI (hrd i (by simp))
   obtain ⟨st1, S1, e1, e2, hh⟩ := step_cases S hstep
   unfold wpOp
   simp only [ho]
   rcases hh with ⟨hw, hr⟩ | ⟨hw, hs⟩
   ·rw [if_pos hw]
    left
    rw [runP_eq] at hr
    rcases hqj with hqj | hqj
    ·refine opP_sound hT S1 hr _ _ fun y H' nx' E' v hk A => ?_
     obtain ⟨st', hk', S'⟩ := after_sim S1 A hk
     have hno : ∀ l, Sup (listed.setIfInBounds i true) l → ¬ ∀ j ∈ q, l.getD j true = false := fun l hl hh => by
      have h1 := hl i (getD_set_eq listed i)
      have h2 := hh i (by simpa [List.contains_eq_mem] using hqj)
      rw [h1] at h2; cases h2
     refine ⟨⟨E', rfl, A.later, fun hh => absurd hh (hno _ (Sup.refl _))⟩, wpAnyG_mono (S := Gq q E') _ _ _ _ ?_ (planG_sound hT hns hwt h0 p fuel _ st' E' _ S' (c.next h0 S1.heap A.later A.evo) hI' hok hk')⟩
     rintro l w hl ⟨E2, rfl, L2, _⟩
     exact ⟨E2, rfl, A.later.trans L2, fun hh => absurd hh (hno l hl)⟩
    ·rw [Bool.or_eq_true] at hqj
     rcases hqj with hqj | hld
     case inr =>
      unfold isLoad at hld
      split at hld
      case h_2 => cases hld
      rename_i t A ho'
      rw [ho'] at hr
      simp only [opP, force_eq] at hr
      obtain ⟨y, v, h1, h2, h3⟩ := loadP_lt (P := P) hT S1.heap (rep_evalO S1 A) hr
      have hrun : (Instr.loadAt t (a.eval A)).run P E1.w = .ok v E1.w := by
       rcases h3 with ⟨b, hlt, h3⟩ | h3
       ·exact h3 _ rfl
       ·exact h3 _
      obtain ⟨st', hk', S'⟩ := after_sim S1 (After.pure S1.heap h2) h1
      unfold Oper.wp
      rw [show (execOp a.eval o).run P E1.w = .ok (.value v) E1.w by simp only [execOp, ho']; exact vrun hrun]
      exact ⟨Gq.here _ _ _, planG_sound hT hns hwt h0 p fuel _ st' E1 _ S' c hI' hok hk'⟩
     have hcall : ∃ c, o.op = .call c ∧ ∃ g, c.callee = .value (.func g) ∧ quietM (M g) = true := by
      unfold quietOp at hqj
      split at hqj
      ·rename_i c hc
       split at hqj
       ·rename_i g hg
        exact ⟨c, hc, g, hg, hqj⟩
       ·cases hqj
      ·cases hqj
     obtain ⟨cc, hc, g, hg, hq⟩ := hcall
     rw [hc] at hr
     unfold opP at hr
     simp only [hg, evalO, List.append_nil, quiet_notCmp hq, cond_false] at hr
     have hv := rep_evalO S1 (.func g)
     simp only [evalO, RepV] at hv
     obtain ⟨vs, hv, hcaps⟩ := hv
     obtain rfl : vs = #[] := by simp only [RepL] at hcaps; cases vs; simp_all
     have hex : Enters P g := callQ_enters hr
     have hcl := callQ_quiet S1.heap hq (rep_evalL S1 cc.args.toList) hr
     have hrun : (execOp a.eval o).run P E1.w = .ok (.enter g (cc.args.map a.eval)) E1.w := by
      simp only [execOp, hc, resolve, hg, Sem.run_bind, hv, Deferred.ofValue, Sem.run_pure, Result.andThen_ok, invoke]
      rw [Array.empty_append, Array.append_empty]
      exact hex _ _
     unfold Oper.wp
     rw [hrun, Oper.upon_enter]
     rw [toArray_map] at hcl
     refine hcl.mono ?_
     rintro e w' ⟨x', H', nx', E', v, rfl, hk, rfl, A, hst⟩
     obtain ⟨st', hk', S'⟩ := after_sim S1 A hk
     refine ⟨⟨E', rfl, A.later, fun _ => hst⟩, wpAnyG_mono (S := Gq q E') _ _ _ _ ?_ (planG_sound hT hns hwt h0 p fuel _ st' E' _ S' (c.next h0 S1.heap A.later A.evo) hI' hok hk')⟩
     rintro l w hl ⟨E2, rfl, L2, hx⟩
     exact ⟨E2, rfl, A.later.trans L2, fun hh => hst.trans A.later.lt (hx hh)⟩
   ·rw [if_neg (by simp [hw])]
    obtain ⟨st', hk', S'⟩ := skip_sim S1 hs
    have hh := planG_sound hT hns hwt h0 p fuel _ st' E1 _ S' c hI' hok hk'
    exact ⟨Gq.here _ _ _, hh⟩
  ·exact plansG_sound hT hns hwt h0 r fuel listed st E1 a S c hI (fun i hi => hrd i (by simp [hi])) hoks hrest i hi
end
def fitsG (T : Types) (M : FuncId → List Mode) (q ls : List Nat) (ops : Array Oper) (p : Plan) : Bool := Region.noSelect ops && waitsG q ls ops && ls.all (fun i => Nat.blt i ops.size) && q.all (fun i => Nat.blt i ops.size) && planG T M q ls ops ops.size (Array.replicate ops.size false) p
theorem Does.quiet {P : Program} {k : Nat} {T : Types} (hT : TOK P T) (hm : P.follows .mixedOrders = true) {M : FuncId → List Mode} (q ls : List Nat) {id : Nat} {ops : Array Oper} (p : Plan) {Q : AX → St → Prop} {st : St}
  (hp : fitsG T M q ls ops p = true) (h : planP P T M true ops p st (Q .normal)) : Does P k (.region id ops true) Q st := by
 intro Z E a S
 simp only [fitsG, Bool.and_eq_true] at hp
 obtain ⟨⟨⟨⟨h1, h2⟩, h3⟩, h4⟩, h5⟩ := hp
 refine wp_mono (Q := RegPost Z E st.heap (Q .normal)) ?_ fun e a' w' hp => reg_post S hp
 refine wp_region_any hm (wpAny_of_G (S := Gq q (E.drawn (E.w.drawn + 1))) _ _ _ _ ?_)
 refine planG_sound hT h1 h2 S.heap p _ _ st (E.drawn (E.w.drawn + 1)) a (S.drawn _) ⟨later_drawn _ _, Evo.drawn _ _ _⟩ (fun j o ho hl => ?_) h5 h
 have := (Array.getElem?_eq_some_iff.1 ho).1
 simp [this] at hl
end
section
--KR
attribute [local irreducible] ifB fitP Does Weaker
def MRf : FuncId → List Mode := orElse [(94, [.rd, .rd]), (93, [.rd, .rd, .rd]), (92, []), (71, [.rd])] MS2
theorem rrot_ok (x n : Int) (hn : 0 ≤ n ∧ n < 64) : ACall Tryz.prog 94 [.int .u32 x, .int .i64 n] (.int .u32 (rotE x (-n))) [] := by
 refine ACall.of_does TTok Tryz.func94 rfl Tryz.call94 rfl (wpc_sound (M := MRf) (PL := PL0) (CU := noCut) TTok mixed _ _ _ ?_)
 conv => whnf
 repeat ((first | (refine fit_i64 ⟨by first | omega | rfl | (dsimp only; omega), by first | omega | rfl | (dsimp only; omega)⟩ ?_) | refine ⟨rfl, ?_⟩); conv => whnf)
 refine ⟨_, _, rot_ok _ _, by first | rfl | simp [noRoIf, noRoL, noRoV, noRoL_bys], ?_⟩
 conv => whnf
 repeat ((refine And.intro ?_ ?_; (focus (first | (simp [limB, lenB, offB]; done) | (simp [limB, lenB, offB]; omega)))); conv => whnf)
 rfl
theorem k256_ok : ACall Tryz.prog 92 [] (.agg (u32s kR)) [] := by
 refine ACall.of_does TTok Tryz.func92 rfl Tryz.call92 rfl (wpc_sound (M := MRf) (PL := PL0) (CU := noCut) TTok mixed _ _ _ ?_)
 conv => whnf
 repeat ((first | refine ⟨(⟨by kernel_rfl, by kernel_rfl, Nat.le_of_ble_eq_true (by kernel_rfl)⟩ : AV.ones _ = true ∧ _ ∧ _), ?_⟩ | refine ⟨rfl, ?_⟩ | refine ⟨_, rfl, ?_⟩ | refine ⟨⟨rfl, rfl⟩, ?_⟩); conv => whnf)
 rfl
def padB (b : List Int) : List Int := lenN (padN b (padZ b)) b.length 8
set_option maxHeartbeats 1000000 in
theorem rpadded_ok (b : List Int) (hb : Byt b) (hl : b.length ≤ 400000) : ACall Tryz.prog 93 [.ro b.length (bys b), .int .i64 64, .int .i64 8] (.own (padB b).length 1 (bys (padB b))) [] := by
 refine ACall.of_does TTok Tryz.func93 rfl Tryz.call93 rfl (wpc_sound (M := MRf) (PL := PL0) (CU := noCut) TTok mixed _ _ _ ?_)
 conv => whnf
 repeat ((first | refine ⟨ones_bys _, ?_⟩ | (refine Or.inl ⟨⟨rfl, ?_⟩, ?_⟩; (focus (first | rfl | (simp; done) | (rw [toksC_length]; omega)))) | refine ⟨rfl, ?_⟩ | (refine ⟨⟨rfl, rfl, ?_, ?_⟩, ?_⟩; (focus (first | (simp [lenB, offB]; done) | (simp [lenB, offB]; omega))); (focus (first | (simp [limB, lenB, offB]; done) | (simp [limB, lenB, offB]; omega)))) | (refine And.intro ?_ ?_; (focus (first | (simp [limB, lenB, offB]; done) | (simp [limB, lenB, offB]; omega))))); conv => whnf)
 refine Does.loop (fun j : Nat => mkSt [(0, .ro b.length (bys b)), (1, .int .i64 64), (2, .int .i64 8), (7, .sl 0 0 (b.length + 1 + j) 1 false)] [(0, bys (padN b j))] 1 50) (fun j => j ≤ padZ b) (fun j => padZ b - j) ?_ 0 (Nat.zero_le _) ?_
 ·intro j hj
  have hL := padN_len b j
  have hz : padZ b = (119 - b.length % 64) % 64 := rfl
  have hm : (((b.length + 1 + j : Nat) : Int) + 8).tmod 64 = (((b.length + 1 + j + 8) % 64 : Nat) : Int) := tmod_nat (b.length + 1 + j + 8) 64
  refine wpc_sound (M := MRf) (PL := PL0) (CU := noCut) TTok mixed _ _ _ ?_
  conv => whnf
  repeat ((first | (refine fit_i64 ⟨by first | omega | rfl | (dsimp only; omega), by first | omega | rfl | (dsimp only; omega)⟩ ?_) | (refine And.intro (by first | omega | rfl | (dsimp only; omega)) ?_)); conv => whnf)
  rw [hm]
  by_cases hj1 : j < padZ b
  ·have : (b.length + 1 + j + 8) % 64 ≠ 0 := by omega
   conv => whnf
   repeat ((first | (refine ifB_pos (decide_eq_true (by first | omega | rfl | (dsimp only; omega))) ?_) | (refine Or.inl ⟨⟨rfl, ?_⟩, ?_⟩; (focus (first | rfl | (simp; done) | (rw [toksC_length]; omega)))) | refine ⟨rfl, ?_⟩ | (refine ⟨⟨rfl, rfl, ?_, ?_⟩, ?_⟩; (focus (first | (simp [lenB, offB]; done) | (simp [lenB, offB]; omega))); (focus (first | (simp [limB, lenB, offB]; done) | (simp [limB, lenB, offB]; omega))))); conv => whnf)
   refine ⟨j + 1, by omega, by omega, weaker_of [(0, 2)] rfl rfl ⟨⟨rfl, rfl, pureL_bys _⟩, ⟨rfl, rfl⟩, ⟨rfl, rfl⟩, ⟨rfl, rfl, by omega, rfl, fun h => h⟩, trivial⟩ ⟨?_, trivial⟩⟩
   refine lesP_bys ?_
   rw [show padN b (j + 1) = padN b j ++ [0] by simp [padN, List.replicate_succ']]
   simp [bys]
  ·obtain rfl : j = padZ b := by omega
   have h56 : (b.length + 1 + padZ b + 8) % 64 = 0 := by omega
   conv => whnf
   repeat ((first | (refine ifB_neg (decide_eq_false (by first | omega | rfl | (dsimp only; omega))) ?_) | (refine fit_i64 ⟨by first | omega | rfl | (dsimp only; omega), by first | omega | rfl | (dsimp only; omega)⟩ ?_) | (refine fit_u64 ⟨by first | omega | rfl | (dsimp only; omega), by first | omega | rfl | (dsimp only; omega)⟩ ?_)); conv => whnf)
   have hP : (padN b (padZ b)).length = b.length + 1 + padZ b := hL
   have hTb : b.length + 1 + padZ b ≤ 400200 := by omega
   have hlx : lenX b.length = (b.length : Int) * 8 := by
    unfold lenX
    rw [wrap_u64, wrap_u64]
    omega
   clear hm hj1
   unfold padB
   generalize padN b (padZ b) = P at hP ⊢
   generalize b.length + 1 + padZ b = T at hP h56 hTb ⊢
   clear hL hz hj
   refine Does.loop (fun j : Nat => mkSt [(7, .sl 0 0 (T + j) 1 false), (8, .int .u64 (lenX b.length)), (9, .int .i64 (7 - (j : Int)))] [(0, bys (lenN P b.length j))] 1 50) (fun j => j ≤ 8) (fun j => 8 - j) ?_ 0 (Nat.zero_le _) ?_
   ·intro j hj
    have hq := lenN_len P b.length j
    rcases Nat.lt_or_ge j 8 with j1 | j1
    ·refine wpc_sound (M := MRf) (PL := PL0) (CU := noCut) TTok mixed _ _ _ ?_
     conv => whnf
     repeat ((first | (refine ifB_neg (decide_eq_false (by first | omega | rfl | (dsimp only; omega))) ?_) | (refine ifB_pos (decide_eq_true (by first | omega | rfl | (dsimp only; omega))) ?_) | (refine fit_u64 ⟨by first | omega | rfl | (dsimp only; omega), by first | omega | rfl | (dsimp only; omega)⟩ ?_) | (refine And.intro (by first | omega | rfl | (dsimp only; omega)) ?_)); conv => whnf)
     refine fit_wrap ?_
     conv => whnf
     repeat ((first | (refine fit_i64 ⟨by first | omega | rfl | (dsimp only; omega), by first | omega | rfl | (dsimp only; omega)⟩ ?_) | (refine Or.inl ⟨⟨rfl, ?_⟩, ?_⟩; (focus (first | rfl | (simp; done) | (rw [toksC_length]; omega)))) | refine ⟨rfl, ?_⟩ | (refine ⟨⟨rfl, rfl, ?_, ?_⟩, ?_⟩; (focus (first | (simp [lenB, offB]; done) | (simp [lenB, offB]; omega))); (focus (first | (simp [limB, lenB, offB]; done) | (simp [limB, lenB, offB]; omega))))); conv => whnf)
     refine ⟨j + 1, by omega, by omega, weaker_of [(0, 2)] rfl rfl ⟨⟨rfl, rfl, by omega, rfl, fun h => h⟩, ⟨rfl, rfl⟩, ⟨rfl, by omega⟩, trivial⟩ ⟨?_, trivial⟩⟩
     refine lesP_bys ?_
     simp [lenN, bys]
     rfl
    ·obtain rfl : j = 8 := by omega
     refine wpc_sound (M := MRf) (PL := PL0) (CU := noCut) TTok mixed _ _ _ ?_
     conv => whnf
     repeat ((refine ifB_f ?_); conv => whnf)
     exact ⟨⟨by rw [hq, hP], rfl, rfl, by simp, pureL_bys _⟩, rfl⟩
   ·exact weaker_of [(0, 0)] rfl rfl ⟨⟨rfl, rfl, rfl, rfl, fun h => h⟩, ⟨rfl, hlx.symm⟩, ⟨rfl, rfl⟩, trivial⟩ ⟨lesP_bys rfl, trivial⟩
 ·refine weaker_of [(0, 2)] rfl rfl ⟨⟨rfl, rfl, pureL_bys _⟩, ⟨rfl, rfl⟩, ⟨rfl, rfl⟩, ⟨rfl, rfl, by first | rfl | simp, rfl, fun h => h⟩, trivial⟩ ⟨?_, trivial⟩
  exact lesP_bys (by simp [padN, bys])
end
section

attribute [local irreducible] ifB fitP Does Weaker
def sumB (b : List Int) : List Int := outN (wN hF (padB b) ((padB b).length / 64)) 32
theorem sW_eq (a b c d : Int) : IntKind.u32.wrap (IntKind.u32.wrap (IntKind.u32.wrap (a + c) + bits .xor .u32 (bits .xor .u32 (rotE b (-7)) (rotE b (-18))) (b / 2 ^ 3)) + bits .xor .u32 (bits .xor .u32 (rotE d (-17)) (rotE d (-19))) (d / 2 ^ 10)) = sW a b c d := by
 unfold sW
 generalize bits .xor .u32 (bits .xor .u32 (rotE b (-7)) (rotE b (-18))) (b / 2 ^ 3) = x
 generalize bits .xor .u32 (bits .xor .u32 (rotE d (-17)) (rotE d (-19))) (d / 2 ^ 10) = y
 have w : ∀ z, IntKind.u32.wrap z = z % 4294967296 := fun z => wrap_u32 z
 simp only [w]
 omega
theorem spN_zero (p : List Int) : ∀ (i k : Nat), i ≤ k → k < 64 → (spN p i).getD k 0 = 0
 | 0, k, _, hk => by
  unfold spN
  rw [List.getD_eq_getElem?_getD, List.getElem?_replicate]
  split <;> rfl
 | i + 1, k, h, hk => by
  have ih := spN_zero p i k (by omega) hk
  have hn : i ≠ k := by omega
  rw [spN, spS]
  split <;> rw [List.getD_eq_getElem?_getD, List.getElem?_set_ne hn, ← List.getD_eq_getElem?_getD, ih]
theorem getD_set_same (l : List Int) {i : Nat} (h : i < l.length) (x : Int) : (l.set i x).getD i 0 = x := by
 rw [List.getD_eq_getElem?_getD, List.getElem?_set_self h]; rfl
theorem set_getD (l : List Int) {i : Nat} (h : i < l.length) (h0 : l.getD i 0 = 0) : l.set i 0 = l := by
 apply List.ext_getElem (by simp)
 intro k h1 h2
 by_cases e : i = k
 ·subst e
  rw [List.getElem_set_self]
  rw [List.getD_eq_getElem?_getD, List.getElem?_eq_getElem h] at h0
  exact h0.symm
 ·rw [List.getElem_set_ne e]
theorem highL_snoc (x : Int) (a : List Int) (c : Int) : highL x (a ++ [c]) = bits .or .u32 (IntKind.u32.wrap (highL x a * 2 ^ 8)) (IntKind.u32.wrap c) := by
 induction a generalizing x with
 | nil => rfl
 | cons b a ih => exact ih _
def PLs2 : Nat → Bool × Plan := plans [(16, (true, takes [0, 1, 2, 3, 4, 5, 6, 7, 8, 9])), (22, (true, takes [0, 1, 2, 3, 4, 5]))]
set_option maxRecDepth 20000 in
set_option maxHeartbeats 2000000 in
theorem rsum_ok (b : List Int) (hb : Byt b) (hl : b.length ≤ 400000) : ACall Tryz.prog 71 [.ro b.length (bys b)] (.agg (bys (sumB b))) [] := by
 have hk := k256_ok
 have hpd := (rpadded_ok b hb hl).roRes
 have hPb : Byt (padB b) := lenN_byt (padN_byt hb _) _ 8
 have hPl : (padB b).length % 64 = 0 ∧ (padB b).length ≤ 500000 := by
  unfold padB
  rw [lenN_len, padN_len]
  have hz : padZ b = (119 - b.length % 64) % 64 := rfl
  omega
 unfold sumB
 generalize padB b = P at hpd hPb hPl ⊢
 obtain ⟨hP1, hP2⟩ := hPl
 refine ACall.of_does TTok Tryz.func71 rfl Tryz.call71 rfl (wpc_sound (M := MRf) (PL := PL0) (CU := noCut) TTok mixed _ _ _ ?_)
 conv => whnf
 repeat ((refine ⟨rfl, ?_⟩); conv => whnf)
 refine ⟨_, _, hk, by first | rfl | simp [noRoIf, noRoL, noRoV, noRoL_bys], ?_⟩
 conv => whnf
 repeat ((first | refine ⟨pureL_bys _, ?_⟩ | refine ⟨rfl, ?_⟩ | (refine ⟨⟨rfl, rfl, ?_⟩, ?_⟩; (focus (first | exact Nat.le_of_ble_eq_true rfl | (simp; done))))); conv => whnf)
 refine ⟨_, _, hpd, by first | rfl | simp [noRoIf, noRoL, noRoV, noRoL_bys], ?_⟩
 conv => whnf
 refine Does.loop (fun c : Nat => mkSt [(2, .ptr 0 0), (3, .ptr 1 0), (4, .ptr 2 0), (5, .ro P.length (bys P)), (6, .int .i64 (64 * (c : Int)))] [(0, bys (List.replicate 32 0)), (1, u32s kR), (2, u32s (wN hF P c))] 3 208) (fun c => 64 * c ≤ P.length) (fun c => P.length - 64 * c) ?_ 0 (Nat.zero_le _) ?_
 ·intro c hc
  have hv := wN_len (h := hF) rfl P c
  have hn : wN hF P (c + 1) = takeW (wN hF P c) ((P.drop (64 * c)).take 64) := rfl
  by_cases c1 : 64 * c < P.length
  ·have hp : Byt ((P.drop (64 * c)).take 64) := fun x hx => hPb x (List.mem_of_mem_drop (List.mem_of_mem_take hx))
   have hpl : ((P.drop (64 * c)).take 64).length = 64 := by simp; omega
   have hpg : ∀ j, j < 64 → ∀ (h : 64 * c + j < P.length), ((P.drop (64 * c)).take 64)[j]? = some P[64 * c + j] := fun j hj h => by
    rw [List.getElem?_take_of_lt hj, List.getElem?_drop, List.getElem?_eq_getElem h]
   rw [takeW] at hn
   generalize (P.drop (64 * c)).take 64 = p at hp hpl hpg hn
   generalize wN hF P c = h at hv hn ⊢
   refine wpc_sound (M := MRf) (PL := PL0) (CU := noCut) TTok mixed _ _ _ ?_
   conv => whnf
   repeat ((first | (refine ifB_pos (decide_eq_true (by first | omega | rfl | (dsimp only; omega))) ?_) | refine ⟨rfl, ?_⟩); conv => whnf)
   refine Does.loop (fun t : Nat => mkSt [(2, .ptr 0 0), (3, .ptr 1 0), (4, .ptr 2 0), (5, .ro P.length (bys P)), (6, .int .i64 (64 * (c : Int))), (7, .ptr 3 0), (8, .int .i64 t)] [(0, bys (List.replicate 32 0)), (1, u32s kR), (2, u32s h), (3, u32s (spN p t))] 4 208) (fun t => t ≤ 64) (fun t => 64 - t) ?_ 0 (Nat.zero_le _) ?_
   ·intro t ht
    have hL := spN_len p t
    rcases Nat.lt_or_ge t 64 with t1 | t1
    ·refine wpc_sound (M := MRf) (PL := PLs2) (CU := cutAt [100017]) TTok mixed _ _ _ ?_
     by_cases t2 : t < 16
     ·have hz := spN_zero p t t (Nat.le_refl _) t1
      have hst := set_getD (spN p t) (by omega) hz
      have hsu : spN p (t + 1) = (spN p t).set t (highL 0 ((p.drop (4 * t)).take 4)) := by rw [spN, spS, if_pos t2]
      conv => whnf
      repeat ((refine ifB_pos (decide_eq_true (by first | omega | rfl | (dsimp only; omega))) ?_); conv => whnf)
      refine Does.loop (fun i : Nat => mkSt [(2, .ptr 0 0), (3, .ptr 1 0), (4, .ptr 2 0), (5, .ro P.length (bys P)), (6, .int .i64 (64 * (c : Int))), (7, .ptr 3 0), (8, .int .i64 t), (9, .int .i64 i)] [(0, bys (List.replicate 32 0)), (1, u32s kR), (2, u32s h), (3, u32s ((spN p t).set t (highL 0 ((p.drop (4 * t)).take i))))] 4 208) (fun i => i ≤ 4) (fun i => 4 - i) ?_ 0 (Nat.zero_le _) ?_
      ·intro i hi
       rcases Nat.lt_or_ge i 4 with i1 | i1
       ·have hlt : 64 * c + (4 * t + i) < P.length := by omega
        have hg := hpg (4 * t + i) (by omega) hlt
        have hx : (p.drop (4 * t)).take (i + 1) = (p.drop (4 * t)).take i ++ [P[64 * c + (4 * t + i)]] := by
         rw [List.take_add_one, List.getElem?_drop, hg]; rfl
        have hy := highL_snoc 0 ((p.drop (4 * t)).take i) P[64 * c + (4 * t + i)]
        rw [← hx] at hy
        generalize highL 0 ((p.drop (4 * t)).take i) = X at hy ⊢
        clear hsu hst hz
        generalize spN p t = w at hL ⊢
        have hw := getD_set_same w (i := t) (by omega) X
        have hwl : (w.set t X).length = 64 := by simp [hL]
        refine wpc_sound (M := MRf) (PL := PLs2) (CU := cutAt [100015]) TTok mixed _ _ _ ?_
        conv => whnf
        repeat ((refine ifB_pos (decide_eq_true (by first | omega | rfl | (dsimp only; omega))) ?_); conv => whnf)
        refine Does.quiet TTok mixed (M := MRf) [17] [3, 13] (takesTo [0, 1, 2, 3, 4, 5, 6, 7, 8, 9, 10, 11, 12, 13, 14, 15, 16] (.all [(17, .done)])) (by kernel_rfl) ?_
        conv => whnf
        repeat ((refine And.intro (by first | omega | rfl | (dsimp only; omega)) ?_); conv => whnf)
        refine ⟨_, u32s_get (l := w.set t X) (i := t) (by omega) (by simp), ?_⟩
        conv => whnf
        repeat ((refine And.intro (by first | omega | rfl | (dsimp only; omega)) ?_); conv => whnf)
        rw [hw]
        refine fit_wrap ?_
        conv => whnf
        repeat ((first | (refine fit_i64 ⟨by first | omega | rfl | (dsimp only; omega), by first | omega | rfl | (dsimp only; omega)⟩ ?_) | (refine ⟨⟨?_, ?_, ?_⟩, ?_⟩; (focus omega); (focus (first | omega | (simp; done) | (simp; omega))); (focus (first | (simp; done) | (simp; omega) | (rw [toksC_length]; simp; omega))))); conv => whnf)
        refine ⟨_, get_bys2 (c := 64 * c + (4 * t + i)) hlt (by simp; omega), ?_⟩
        conv => whnf
        refine fit_wrap ?_
        conv => whnf
        repeat ((refine And.intro (by first | omega | rfl | (dsimp only; omega)) ?_); conv => whnf)
        refine ⟨⟨rfl, rfl, by rw [u32s_length, hwl]; simp; omega⟩, ?_⟩
        conv => whnf
        repeat ((refine fit_i64 ⟨by first | omega | rfl | (dsimp only; omega), by first | omega | rfl | (dsimp only; omega)⟩ ?_); conv => whnf)
        refine ⟨i + 1, by omega, by omega, weaker_of [(0, 0), (1, 1), (2, 2), (3, 3)] rfl rfl ⟨⟨rfl, rfl⟩, ⟨rfl, rfl⟩, ⟨rfl, rfl⟩, ⟨rfl, rfl, pureL_bys _⟩, ⟨rfl, rfl⟩, ⟨rfl, rfl⟩, ⟨rfl, rfl⟩, ⟨rfl, rfl⟩, trivial⟩ ⟨lesP_bys (l := List.replicate 32 0) rfl, u32s_les rfl, u32s_les rfl, u32s_les ?_, trivial⟩⟩
        rw [hy]
        have e := u32s_set (w.set t X) t (bits .or .u32 (IntKind.u32.wrap (X * 2 ^ 8)) (IntKind.u32.wrap P[64 * c + (4 * t + i)]))
        rw [List.set_set] at e
        exact (congrArg (fun k => setN (u32s (w.set t X)) k _) (by simp)).trans e
       ·obtain rfl : i = 4 := by omega
        refine wpc_sound (M := MRf) (PL := PLs2) (CU := noCut) TTok mixed _ _ _ ?_
        conv => whnf
        repeat ((first | refine ifB_f ?_ | (refine fit_i64 ⟨by first | omega | rfl | (dsimp only; omega), by first | omega | rfl | (dsimp only; omega)⟩ ?_)); conv => whnf)
        exact ⟨t + 1, by omega, by omega, weaker_of [(0, 0), (1, 1), (2, 2), (3, 3)] rfl rfl ⟨⟨rfl, rfl⟩, ⟨rfl, rfl⟩, ⟨rfl, rfl⟩, ⟨rfl, rfl, pureL_bys _⟩, ⟨rfl, rfl⟩, ⟨rfl, rfl⟩, ⟨rfl, rfl⟩, trivial⟩ ⟨lesP_bys (l := List.replicate 32 0) rfl, u32s_les rfl, u32s_les rfl, u32s_les (by rw [hsu]), trivial⟩⟩
      ·exact weaker_of [(0, 0), (1, 1), (2, 2), (3, 3)] rfl rfl ⟨⟨rfl, rfl⟩, ⟨rfl, rfl⟩, ⟨rfl, rfl⟩, ⟨rfl, rfl, pureL_bys _⟩, ⟨rfl, rfl⟩, ⟨rfl, rfl⟩, ⟨rfl, rfl⟩, ⟨rfl, rfl⟩, trivial⟩ ⟨lesP_bys (l := List.replicate 32 0) rfl, u32s_les rfl, u32s_les rfl, u32s_les (congrArg u32s hst.symm), trivial⟩
     ·conv => whnf
      repeat ((first | (refine ifB_neg (decide_eq_false (by first | omega | rfl | (dsimp only; omega))) ?_) | (refine ifB_pos (decide_eq_true (by first | omega | rfl | (dsimp only; omega))) ?_)); conv => whnf)
      refine ⟨by kernel_rfl, ?_⟩
      conv => whnf
      repeat ((first | (refine fit_i64 ⟨by first | omega | rfl | (dsimp only; omega), by first | omega | rfl | (dsimp only; omega)⟩ ?_) | (refine And.intro (by first | omega | rfl | (dsimp only; omega)) ?_)); conv => whnf)
      refine ⟨_, u32s_get (i := t - 15) (by omega) (by simp; omega), ?_⟩
      conv => whnf
      repeat ((first | (refine fit_i64 ⟨by first | omega | rfl | (dsimp only; omega), by first | omega | rfl | (dsimp only; omega)⟩ ?_) | (refine And.intro (by first | omega | rfl | (dsimp only; omega)) ?_)); conv => whnf)
      refine ⟨_, u32s_get (i := t - 2) (by omega) (by simp; omega), ?_⟩
      conv => whnf
      refine Does.quiet TTok mixed (M := MRf) [29] [4, 8] (takesTo [0, 1, 2, 3, 4, 5, 6, 7, 8, 9, 10, 12, 15, 16, 19, 21, 24, 25] (.all [(11, (.all [(13, (takesTo [14, 17, 18] (.all [(20, (.all [(22, (takesTo [23, 26, 27, 28] (.all [(29, .done)])))]))])))]))])) (by kernel_rfl) ?_
      conv => whnf
      repeat ((first | (refine fit_i64 ⟨by first | omega | rfl | (dsimp only; omega), by first | omega | rfl | (dsimp only; omega)⟩ ?_) | (refine And.intro (by first | omega | rfl | (dsimp only; omega)) ?_)); conv => whnf)
      refine ⟨_, u32s_get (i := t - 16) (by omega) (by simp; omega), ?_⟩
      conv => whnf
      repeat ((first | (refine fit_i64 ⟨by first | omega | rfl | (dsimp only; omega), by first | omega | rfl | (dsimp only; omega)⟩ ?_) | (refine And.intro (by first | omega | rfl | (dsimp only; omega)) ?_)); conv => whnf)
      refine ⟨_, u32s_get (i := t - 7) (by omega) (by simp; omega), ?_⟩
      conv => whnf
      refine fit_wrap ?_
      conv => whnf
      repeat ((first | refine ⟨rfl, ?_⟩ | (refine And.intro (by first | omega | rfl | (dsimp only; omega)) ?_)); conv => whnf)
      refine ⟨_, _, rrot_ok _ 7 (by omega), by first | rfl | simp [noRoIf, noRoL, noRoV, noRoL_bys], ?_⟩
      conv => whnf
      repeat ((refine ⟨rfl, ?_⟩); conv => whnf)
      refine ⟨_, _, rrot_ok _ 18 (by omega), by first | rfl | simp [noRoIf, noRoL, noRoV, noRoL_bys], ?_⟩
      conv => whnf
      refine fit_wrap ?_
      conv => whnf
      repeat ((refine ⟨rfl, ?_⟩); conv => whnf)
      refine ⟨_, _, rrot_ok _ 17 (by omega), by first | rfl | simp [noRoIf, noRoL, noRoV, noRoL_bys], ?_⟩
      conv => whnf
      repeat ((refine ⟨rfl, ?_⟩); conv => whnf)
      refine ⟨_, _, rrot_ok _ 19 (by omega), by first | rfl | simp [noRoIf, noRoL, noRoV, noRoL_bys], ?_⟩
      conv => whnf
      refine fit_wrap ?_
      conv => whnf
      repeat ((refine And.intro (by first | omega | rfl | (dsimp only; omega)) ?_); conv => whnf)
      refine ⟨⟨rfl, rfl, by rw [u32s_length, hL]; simp; omega⟩, ?_⟩
      conv => whnf
      repeat ((refine fit_i64 ⟨by first | omega | rfl | (dsimp only; omega), by first | omega | rfl | (dsimp only; omega)⟩ ?_); conv => whnf)
      refine ⟨t + 1, by omega, by omega, weaker_of [(0, 0), (1, 1), (2, 2), (3, 3)] rfl rfl ⟨⟨rfl, rfl⟩, ⟨rfl, rfl⟩, ⟨rfl, rfl⟩, ⟨rfl, rfl, pureL_bys _⟩, ⟨rfl, rfl⟩, ⟨rfl, rfl⟩, ⟨rfl, rfl⟩, trivial⟩ ⟨lesP_bys (l := List.replicate 32 0) rfl, u32s_les rfl, u32s_les rfl, u32s_les ?_, trivial⟩⟩
      rw [spN, spS, if_neg t2, ← sW_eq]
      exact (congrArg (fun k => setN (u32s (spN p t)) k _) (by simp)).trans (u32s_set _ _ _)
    ·obtain rfl : t = 64 := by omega
     generalize spN p 64 = w at hL hn ⊢
     rw [c8_eq hv]
     refine wpc_sound (M := MRf) (PL := PLs2) (CU := noCut) TTok mixed _ _ _ ?_
     conv => whnf
     repeat ((first | refine ifB_f ?_ | refine ⟨rfl, ?_⟩ | refine ⟨_, rfl, ?_⟩ | (refine ⟨⟨rfl, rfl, ?_⟩, ?_⟩; (focus (first | exact Nat.le_of_ble_eq_true rfl | (simp; done))))); conv => whnf)
     refine Does.loop (fun t : Nat => mkSt [(2, .ptr 0 0), (3, .ptr 1 0), (4, .ptr 2 0), (5, .ro P.length (bys P)), (6, .int .i64 (64 * (c : Int))), (7, .ptr 3 0), (12, .ptr 4 0), (13, .int .i64 t)] [(0, bys (List.replicate 32 0)), (1, u32s kR), (2, c8 h), (3, u32s w), (4, c8 (rN h w t))] 5 208) (fun t => t ≤ 64) (fun t => 64 - t) ?_ 0 (Nat.zero_le _) ?_
     ·intro t ht
      rcases Nat.lt_or_ge t 64 with t1 | t1
      ·have hn2 : rN h w (t + 1) = rNd (rN h w t) (kR.getD t 0) (w.getD t 0) := rfl
       generalize rN h w t = v at hn2 ⊢
       refine wpc_sound (M := MRf) (PL := PLs2) (CU := cutAt [100023, 100024]) TTok mixed _ _ _ ?_
       conv => whnf
       repeat ((refine ifB_pos (decide_eq_true (by first | omega | rfl | (dsimp only; omega))) ?_); conv => whnf)
       refine ⟨by kernel_rfl, ?_⟩
       conv => whnf
       repeat ((first | refine ⟨_, rfl, ?_⟩ | (refine And.intro (by first | omega | rfl | (dsimp only; omega)) ?_)); conv => whnf)
       refine Does.quiet TTok mixed (M := MRf) [] [1, 13, 18, 24, 28] (takesTo [0, 1, 2, 4, 7, 11, 12, 13, 14, 15, 16, 17, 18, 19, 20, 22, 23, 24, 26, 27, 28] (.all [(3, (.all [(5, (takesTo [6] (.all [(8, (takes [9, 10, 21, 25, 29, 30]))])))]))])) (by kernel_rfl) ?_
       conv => whnf
       repeat ((first | refine ⟨_, rfl, ?_⟩ | (refine And.intro (by first | omega | rfl | (dsimp only; omega)) ?_)); conv => whnf)
       refine ⟨_, u32s_get (l := kR) (i := t) t1 (by simp), ?_⟩
       conv => whnf
       repeat ((refine And.intro (by first | omega | rfl | (dsimp only; omega)) ?_); conv => whnf)
       refine ⟨_, u32s_get (l := w) (i := t) (by omega) (by simp), ?_⟩
       conv => whnf
       repeat ((refine ⟨rfl, ?_⟩); conv => whnf)
       refine ⟨_, _, rrot_ok _ 6 (by omega), by first | rfl | simp [noRoIf, noRoL, noRoV, noRoL_bys], ?_⟩
       conv => whnf
       repeat ((refine ⟨rfl, ?_⟩); conv => whnf)
       refine ⟨_, _, rrot_ok _ 11 (by omega), by first | rfl | simp [noRoIf, noRoL, noRoV, noRoL_bys], ?_⟩
       conv => whnf
       repeat ((refine ⟨rfl, ?_⟩); conv => whnf)
       refine ⟨_, _, rrot_ok _ 25 (by omega), by first | rfl | simp [noRoIf, noRoL, noRoV, noRoL_bys], ?_⟩
       conv => whnf
       refine fit_wrap ?_
       conv => whnf
       refine fit_wrap ?_
       conv => whnf
       refine fit_wrap ?_
       conv => whnf
       refine fit_wrap ?_
       conv => whnf
       refine Does.quiet TTok mixed (M := MRf) [] [10, 14, 18, 20] (takesTo [0, 2, 5, 8, 9, 10, 11, 12, 13, 14, 15, 16, 17, 18, 19, 20, 21, 22] (.all [(1, (.all [(3, (takesTo [4] (.all [(6, (takes [7, 23, 24]))])))]))])) (by kernel_rfl) ?_
       conv => whnf
       repeat ((first | refine ⟨rfl, ?_⟩ | refine ⟨_, rfl, ?_⟩ | (refine And.intro (by first | omega | rfl | (dsimp only; omega)) ?_)); conv => whnf)
       refine ⟨_, _, rrot_ok _ 2 (by omega), by first | rfl | simp [noRoIf, noRoL, noRoV, noRoL_bys], ?_⟩
       conv => whnf
       repeat ((refine ⟨rfl, ?_⟩); conv => whnf)
       refine ⟨_, _, rrot_ok _ 13 (by omega), by first | rfl | simp [noRoIf, noRoL, noRoV, noRoL_bys], ?_⟩
       conv => whnf
       repeat ((refine ⟨rfl, ?_⟩); conv => whnf)
       refine ⟨_, _, rrot_ok _ 22 (by omega), by first | rfl | simp [noRoIf, noRoL, noRoV, noRoL_bys], ?_⟩
       conv => whnf
       refine fit_wrap ?_
       conv => whnf
       refine fit_wrap ?_
       conv => whnf
       repeat ((first | refine ⟨_, rfl, ?_⟩ | (refine And.intro (by first | omega | rfl | (dsimp only; omega)) ?_)); conv => whnf)
       refine fit_wrap ?_
       conv => whnf
       repeat ((first | (refine fit_i64 ⟨by first | omega | rfl | (dsimp only; omega), by first | omega | rfl | (dsimp only; omega)⟩ ?_) | refine ⟨_, rfl, ?_⟩ | (refine ⟨⟨rfl, rfl, ?_⟩, ?_⟩; (focus (first | exact Nat.le_of_ble_eq_true rfl | (simp; done)))) | (refine And.intro (by first | omega | rfl | (dsimp only; omega)) ?_)); conv => whnf)
       refine ⟨t + 1, by omega, by omega, weaker_of [(0, 0), (1, 1), (2, 2), (3, 3), (4, 4)] rfl rfl ⟨⟨rfl, rfl⟩, ⟨rfl, rfl⟩, ⟨rfl, rfl⟩, ⟨rfl, rfl, pureL_bys _⟩, ⟨rfl, rfl⟩, ⟨rfl, rfl⟩, ⟨rfl, rfl⟩, ⟨rfl, rfl⟩, trivial⟩ ⟨lesP_bys (l := List.replicate 32 0) rfl, u32s_les rfl, (show lesP _ (c8 h) (c8 h) from c8_les _), u32s_les rfl, ?_, trivial⟩⟩
       show lesP _ (c8 (rN h w (t + 1))) _
       rw [hn2]
       exact c8_les _
      ·obtain rfl : t = 64 := by omega
       have hv2 := rN_len (h := h) (w := w) hv 64
       generalize rN h w 64 = v at hv2 hn ⊢
       refine wpc_sound (M := MRf) (PL := PLs2) (CU := noCut) TTok mixed _ _ _ ?_
       conv => whnf
       repeat ((refine ifB_f ?_); conv => whnf)
       refine Does.loop (fun d : Nat => mkSt [(2, .ptr 0 0), (3, .ptr 1 0), (4, .ptr 2 0), (5, .ro P.length (bys P)), (6, .int .i64 (64 * (c : Int))), (12, .ptr 4 0), (18, .int .i64 d)] [(0, bys (List.replicate 32 0)), (1, u32s kR), (2, u32s (aN h v d)), (4, u32s v)] 5 208) (fun d => d ≤ 8) (fun d => 8 - d) ?_ 0 (Nat.zero_le _) ?_
       ·intro d hd
        rcases Nat.lt_or_ge d 8 with d1 | d1
        ·have hq := aN_len (h := h) (v := v) hv d
         refine wpc_sound (M := MRf) (PL := PLs2) (CU := cutAt [100029]) TTok mixed _ _ _ ?_
         conv => whnf
         repeat ((refine ifB_pos (decide_eq_true (by first | omega | rfl | (dsimp only; omega))) ?_); conv => whnf)
         refine Does.quiet TTok mixed (M := MRf) [8] [2, 5] (takesTo [0, 1, 2, 3, 4, 5, 6, 7] (.all [(8, .done)])) (by kernel_rfl) ?_
         conv => whnf
         repeat ((refine And.intro (by first | omega | rfl | (dsimp only; omega)) ?_); conv => whnf)
         refine ⟨_, u32s_get (l := aN h v d) (i := d) (by omega) (by simp), ?_⟩
         conv => whnf
         repeat ((refine And.intro (by first | omega | rfl | (dsimp only; omega)) ?_); conv => whnf)
         refine ⟨_, u32s_get (l := v) (i := d) (by omega) (by simp), ?_⟩
         conv => whnf
         refine fit_wrap ?_
         conv => whnf
         repeat ((refine And.intro (by first | omega | rfl | (dsimp only; omega)) ?_); conv => whnf)
         refine ⟨⟨rfl, rfl, by rw [u32s_length, hq]; simp; omega⟩, ?_⟩
         conv => whnf
         repeat ((refine fit_i64 ⟨by first | omega | rfl | (dsimp only; omega), by first | omega | rfl | (dsimp only; omega)⟩ ?_); conv => whnf)
         refine ⟨d + 1, by omega, by omega, weaker_of [(0, 0), (1, 1), (2, 2), (4, 4)] rfl rfl ⟨⟨rfl, rfl⟩, ⟨rfl, rfl⟩, ⟨rfl, rfl⟩, ⟨rfl, rfl, pureL_bys _⟩, ⟨rfl, rfl⟩, ⟨rfl, rfl⟩, ⟨rfl, rfl⟩, trivial⟩ ⟨lesP_bys (l := List.replicate 32 0) rfl, u32s_les rfl, u32s_les ?_, u32s_les rfl, trivial⟩⟩
         rw [aN]
         exact (congrArg (fun k => setN (u32s (aN h v d)) k _) (by simp)).trans (u32s_set _ _ _)
        ·obtain rfl : d = 8 := by omega
         refine wpc_sound (M := MRf) (PL := PLs2) (CU := noCut) TTok mixed _ _ _ ?_
         conv => whnf
         repeat ((first | refine ifB_f ?_ | (refine fit_i64 ⟨by first | omega | rfl | (dsimp only; omega), by first | omega | rfl | (dsimp only; omega)⟩ ?_)); conv => whnf)
         refine ⟨c + 1, by omega, by omega, weaker_of [(0, 0), (1, 1), (2, 2)] rfl rfl ⟨⟨rfl, rfl⟩, ⟨rfl, rfl⟩, ⟨rfl, rfl⟩, ⟨rfl, rfl, pureL_bys _⟩, ⟨rfl, by omega⟩, trivial⟩ ⟨lesP_bys (l := List.replicate 32 0) rfl, u32s_les rfl, u32s_les (by rw [hn]), trivial⟩⟩
       ·exact weaker_of [(0, 0), (1, 1), (2, 2), (4, 4)] rfl rfl ⟨⟨rfl, rfl⟩, ⟨rfl, rfl⟩, ⟨rfl, rfl⟩, ⟨rfl, rfl, pureL_bys _⟩, ⟨rfl, rfl⟩, ⟨rfl, rfl⟩, ⟨rfl, rfl⟩, trivial⟩ ⟨lesP_bys (l := List.replicate 32 0) rfl, u32s_les rfl, u32s_les (c8_eq hv).symm, u32s_les (c8_eq hv2).symm, trivial⟩
     ·exact weaker_of [(0, 0), (1, 1), (2, 2), (3, 3), (4, 4)] rfl rfl ⟨⟨rfl, rfl⟩, ⟨rfl, rfl⟩, ⟨rfl, rfl⟩, ⟨rfl, rfl, pureL_bys _⟩, ⟨rfl, rfl⟩, ⟨rfl, rfl⟩, ⟨rfl, rfl⟩, ⟨rfl, rfl⟩, trivial⟩ ⟨lesP_bys (l := List.replicate 32 0) rfl, u32s_les rfl, (show lesP _ (c8 h) (c8 h) from c8_les _), u32s_les rfl, (show lesP _ (c8 h) (c8 h) from c8_les _), trivial⟩
   ·exact weaker_of [(0, 0), (1, 1), (2, 2), (3, 3)] rfl rfl ⟨⟨rfl, rfl⟩, ⟨rfl, rfl⟩, ⟨rfl, rfl⟩, ⟨rfl, rfl, pureL_bys _⟩, ⟨rfl, rfl⟩, ⟨rfl, rfl⟩, ⟨rfl, rfl⟩, trivial⟩ ⟨lesP_bys (l := List.replicate 32 0) rfl, u32s_les rfl, u32s_les rfl, u32s_les (l := List.replicate 64 0) rfl, trivial⟩
  ·obtain rfl : c = P.length / 64 := by omega
   generalize wN hF P (P.length / 64) = w at hv ⊢
   refine wpc_sound (M := MRf) (PL := PL0) (CU := noCut) TTok mixed _ _ _ ?_
   conv => whnf
   repeat ((first | (refine ifB_neg (decide_eq_false (by first | omega | rfl | (dsimp only; omega))) ?_) | refine ⟨rfl, ?_⟩); conv => whnf)
   refine Does.loop (fun i : Nat => mkSt [(2, .ptr 0 0), (4, .ptr 2 0), (19, .ptr 3 0), (20, .int .i64 i)] [(0, bys (List.replicate 32 0)), (2, u32s w), (3, bys (outN w i))] 4 208) (fun i => i ≤ 32) (fun i => 32 - i) ?_ 0 (by omega) ?_
   ·intro i hi
    have ho := outN_len w i
    rcases Nat.lt_or_ge i 32 with i1 | i1
    ·have e1 : (i : Int).tdiv 4 = ((i / 4 : Nat) : Int) := tdiv_nat i 4
     have e2 : (i : Int).tmod 4 = ((i % 4 : Nat) : Int) := tmod_nat i 4
     refine wpc_sound (M := MRf) (PL := PL0) (CU := noCut) TTok mixed _ _ _ ?_
     conv => whnf
     repeat ((first | (refine ifB_pos (decide_eq_true (by first | omega | rfl | (dsimp only; omega))) ?_) | (refine fit_i64 ⟨by first | omega | rfl | (dsimp only; omega), by first | omega | rfl | (dsimp only; omega)⟩ ?_) | (refine And.intro (by first | omega | rfl | (dsimp only; omega)) ?_)); conv => whnf)
     rw [e1]
     conv => whnf
     refine ⟨_, u32s_get (l := w) (i := i / 4) (by rw [hv]; omega) (by simp; omega), ?_⟩
     conv => whnf
     repeat ((first | (refine fit_i64 ⟨by first | omega | rfl | (dsimp only; omega), by first | omega | rfl | (dsimp only; omega)⟩ ?_) | (refine fit_u64 ⟨by first | omega | rfl | (dsimp only; omega), by first | omega | rfl | (dsimp only; omega)⟩ ?_) | (refine And.intro (by first | omega | rfl | (dsimp only; omega)) ?_)); conv => whnf)
     rw [e2]
     conv => whnf
     refine fit_wrap ?_
     conv => whnf
     repeat ((refine And.intro (by first | omega | rfl | (dsimp only; omega)) ?_); conv => whnf)
     refine ⟨⟨rfl, rfl, by simp [ho]; omega⟩, ?_⟩
     conv => whnf
     repeat ((refine fit_i64 ⟨by first | omega | rfl | (dsimp only; omega), by first | omega | rfl | (dsimp only; omega)⟩ ?_); conv => whnf)
     refine ⟨i + 1, by omega, by omega, weaker_of [(0, 0), (2, 2), (3, 3)] rfl rfl ⟨⟨rfl, rfl⟩, ⟨rfl, rfl⟩, ⟨rfl, rfl⟩, ⟨rfl, rfl⟩, trivial⟩ ⟨lesP_bys (l := List.replicate 32 0) rfl, u32s_les rfl, ?_, trivial⟩⟩
     refine lesP_bys ?_
     rw [outN]
     exact (congrArg (fun k => setN (bys (outN w i)) k _) (by simp)).trans (setN_bys _ _ _ (by omega))
    ·obtain rfl : i = 32 := by omega
     generalize outN w 32 = x at ho ⊢
     refine wpc_sound (M := MRf) (PL := PL0) (CU := noCut) TTok mixed _ _ _ ?_
     conv => whnf
     refine ifB_f ?_
     conv => whnf
     refine ⟨_, takeN_all (cs := bys x) (by simp [ho]), ?_⟩
     conv => whnf
     refine ⟨⟨ones_bys x, (by show (bys x).length = 32; simp [ho]), (by show 0 + 32 ≤ (bys (List.replicate 32 0)).length; simp)⟩, ?_⟩
     conv => whnf
     refine ⟨bys x, ?_, ?_⟩
     ·show takeN 32 (setN (bys (List.replicate 32 0)) 0 (bys x)) = some (bys x)
      rw [setN_all (by simp [ho])]
      exact takeN_all (by simp [ho])
     conv => whnf
     exact demsP_bys _ _ rfl
   ·exact weaker_of [(0, 0), (2, 2), (3, 3)] rfl rfl ⟨⟨rfl, rfl⟩, ⟨rfl, rfl⟩, ⟨rfl, rfl⟩, ⟨rfl, rfl⟩, trivial⟩ ⟨lesP_bys (l := List.replicate 32 0) rfl, u32s_les rfl, lesP_bys (l := List.replicate 32 0) rfl, trivial⟩
 ·exact weaker_of [(0, 0), (1, 1), (2, 2)] rfl rfl ⟨⟨rfl, rfl⟩, ⟨rfl, rfl⟩, ⟨rfl, rfl⟩, ⟨rfl, rfl, pureL_bys _⟩, ⟨rfl, rfl⟩, trivial⟩ ⟨lesP_bys (l := List.replicate 32 0) rfl, u32s_les rfl, u32s_les (l := hF) rfl, trivial⟩
end
section

attribute [local irreducible] ifB fitP Does Weaker takeW
theorem lenN_pre (A Q : List Int) (n : Int) : ∀ j, lenN (A ++ Q) n j = A ++ lenN Q n j
 | 0 => rfl
 | j + 1 => by rw [lenN, lenN_pre A Q n j, lenN, List.append_assoc]
theorem wN_pre (h A T : List Int) (k : Nat) (hA : A.length = 64 * k) : ∀ i, i ≤ k → wN h (A ++ T) i = wN h A i
 | 0, _ => rfl
 | i + 1, hi => by
  have ih := wN_pre h A T k hA i (by omega)
  rw [wN, wN, ih, List.drop_append_of_le_length (by omega), List.take_append_of_le_length (by simp; omega)]
theorem wN_post (h A T : List Int) (k : Nat) (hA : A.length = 64 * k) : ∀ i, wN h (A ++ T) (k + i) = wN (wN h A k) T i
 | 0 => by rw [Nat.add_zero, wN_pre h A T k hA k (Nat.le_refl _)]; rfl
 | i + 1 => by
  have ih := wN_post h A T k hA i
  have e : (A ++ T).drop (64 * (k + i)) = T.drop (64 * i) := by
   rw [Nat.mul_add, ← hA, ← List.drop_drop, List.drop_left]
  show takeW (wN h (A ++ T) (k + i)) (((A ++ T).drop (64 * (k + i))).take 64) = takeW (wN (wN h A k) T i) ((T.drop (64 * i)).take 64)
  rw [ih, e]
theorem sumB_eq (b : List Int) : sumB b = shaL b := by
 unfold sumB shaL sumL
 have hk : 64 * (b.length / 64) ≤ b.length := by omega
 generalize hkk : b.length / 64 = k at hk ⊢
 have hA : (b.take (64 * k)).length = 64 * k := by simp; omega
 have hb : b.take (64 * k) ++ b.drop (64 * k) = b := List.take_append_drop _ _
 have hP : padB b = b.take (64 * k) ++ tailL (b.drop (64 * k)) b.length := by
  unfold padB tailL
  have hz : padZ b = padZ (b.drop (64 * k)) := by
   unfold padZ
   rw [List.length_drop, show (b.length - 64 * k) % 64 = b.length % 64 by omega]
  rw [← hz, ← lenN_pre]
  congr 1
  unfold padN
  rw [← List.append_assoc, ← List.append_assoc, hb]
 have hT : (tailL (b.drop (64 * k)) b.length).length % 64 = 0 := by
  unfold tailL
  rw [lenN_len, padN_len]
  have : padZ (b.drop (64 * k)) = (119 - (b.drop (64 * k)).length % 64) % 64 := rfl
  omega
 have hw : wN hF b k = wN hF (b.take (64 * k)) k := by
  conv => lhs; rw [← hb]
  exact wN_pre hF _ _ k hA k (Nat.le_refl _)
 rw [hP, hw]
 generalize tailL (b.drop (64 * k)) b.length = T at hT ⊢
 rw [show (b.take (64 * k) ++ T).length / 64 = k + T.length / 64 by rw [List.length_append, hA]; omega, wN_post _ _ _ k hA]
theorem rsha_ok (b : List Int) (hb : Byt b) (hl : b.length ≤ 400000) : ACall Tryz.prog 71 [.ro b.length (bys b)] (.agg (c32 (shaL b) [])) [] := by
 have h := rsum_ok b hb hl
 rw [sumB_eq] at h
 have e : bys (shaL b) = c32 (shaL b) [] := by rw [c32_eq (shaL_len b)]; simp
 rwa [e] at h
end
section
--KR
attribute [local irreducible] ifB fitP Does Weaker
def MU : FuncId → List Mode := orElse [(100, [.rd]), (102, [.rd, .bw]), (104, [.rd, .rd]), (79, [.rd, .rd]), (80, [.rd, .rd, .rd]), (87, [.rd, .rd, .rd, .rd]), (51, [.rd, .rd, .rd]), (56, [.rd, .rd]), (21, [.rd]), (54, [.mv 1])] MS
theorem known_ok (k : Int) : ACall Tryz.prog 100 [.int .i64 k] (.bool (decide (k = 1) || decide (k = 2))) [] := by
 refine ACall.of_does TTok Tryz.func100 rfl Tryz.call100 rfl (wpc_sound (M := MU) (PL := PL0) (CU := noCut) TTok mixed _ _ _ ?_)
 by_cases h1 : k = 1
 ·rw [dt h1]
  conv => whnf
  repeat ((first | refine ifB_t ?_ | (refine ifB_pos (decide_eq_true (by first | omega | rfl | (dsimp only; omega))) ?_) | refine ⟨rfl, ?_⟩); conv => whnf)
  rfl
 ·rw [df h1]
  conv => whnf
  repeat ((first | refine ifB_f ?_ | (refine ifB_neg (decide_eq_false (by first | omega | rfl | (dsimp only; omega))) ?_) | refine ⟨rfl, ?_⟩); conv => whnf)
  rfl
set_option maxHeartbeats 1000000 in
theorem bconcat1_ok (a : List Int) (ha : a.length ≤ 500000) : ACall Tryz.prog 111 [.ro 1 [.ro a.length (bys a)]] (.own a.length 1 (bys a)) [] := by
 have hg := bgrow_ok a.length (by omega)
 have hp : pureL [AV.ro a.length (bys a)] = true := by simp [pureL, pureV, pureL_bys]
 refine ACall.of_does TTok Tryz.func111 rfl Tryz.call111 rfl (wpc_sound (M := MS) (PL := PL0) (CU := noCut) TTok mixed _ _ _ ?_)
 conv => whnf
 refine Does.loop (fun c : Nat => mkSt [(0, .ro 1 [.ro a.length (bys a)]), (3, .int .i64 (catL a [] c).length), (9, .ro 1 [.ro a.length (bys a)]), (10, .int .i64 1), (11, .int .i64 c)] [] 0 36) (fun c => c ≤ 1) (fun c => 1 - c) ?_ 0 (by omega) ?_
 ·intro c hc
  have hcs : c = 0 ∨ c = 1 := by omega
  refine wpc_sound (M := MS) (PL := PL0) (CU := noCut) TTok mixed _ _ _ ?_
  rcases hcs with rfl | rfl
  ·conv => whnf
   repeat ((first | refine ifB_t ?_ | refine ⟨_, rfl, ?_⟩ | (refine ⟨⟨?_, ?_, ?_⟩, ?_⟩; (focus omega); (focus (first | omega | (simp; done) | (simp; omega))); (focus (first | (simp; done) | (simp; omega) | (rw [toksC_length]; simp; omega))))); conv => whnf)
   refine fit_i64 ⟨by simp [catL] <;> omega, by simp [catL] <;> omega⟩ ?_
   conv => whnf
   repeat ((first | refine ifB_f ?_ | (refine fit_i64 ⟨by first | omega | rfl | (dsimp only; omega), by first | omega | rfl | (dsimp only; omega)⟩ ?_)); conv => whnf)
   exact ⟨1, by omega, by omega, weaker_of [] rfl rfl ⟨⟨rfl, rfl, hp⟩, ⟨rfl, by simp [catL]⟩, ⟨rfl, rfl, hp⟩, ⟨rfl, rfl⟩, ⟨rfl, rfl⟩, trivial⟩ trivial⟩
  ·conv => whnf
   repeat ((first | refine ifB_f ?_ | refine ⟨rfl, ?_⟩); conv => whnf)
   refine ⟨_, _, hg, by first | rfl | simp [noRoIf, noRoL, noRoV, noRoL_bys], ?_⟩
   conv => whnf
   refine Does.loop (fun c : Nat => mkSt [(6, .sl 0 0 (catL a [] c).length 1 false), (25, .ro 1 [.ro a.length (bys a)]), (26, .int .i64 1), (27, .int .i64 c)] [(0, bys (catL a [] c))] 1 36) (fun c => c ≤ 1) (fun c => 1 - c) ?_ 0 (by omega) ?_
   ·intro c hc
    have hcs : c = 0 ∨ c = 1 := by omega
    refine wpc_sound (M := MS) (PL := PL0) (CU := noCut) TTok mixed _ _ _ ?_
    rcases hcs with rfl | rfl
    ·conv => whnf
     repeat ((first | refine ifB_t ?_ | refine ⟨ones_bys _, ?_⟩ | refine ⟨_, rfl, ?_⟩ | (refine ⟨⟨?_, ?_, ?_⟩, ?_⟩; (focus omega); (focus (first | omega | (simp; done) | (simp; omega))); (focus (first | (simp; done) | (simp; omega) | (rw [toksC_length]; simp; omega)))) | (refine And.intro ?_ ?_; (focus (first | (simp [limB, lenB, offB]; done) | (simp [limB, lenB, offB]; omega))))); conv => whnf)
     refine ⟨⟨rfl, rfl, by simp, by simp [catL, limB]; omega⟩, ?_⟩
     conv => whnf
     repeat ((refine fit_i64 ⟨by first | omega | rfl | (dsimp only; omega), by first | omega | rfl | (dsimp only; omega)⟩ ?_); conv => whnf)
     refine ⟨1, by omega, by omega, weaker_of [(0, 1)] rfl rfl ⟨⟨rfl, rfl, by simp [catL], rfl, fun h => h⟩, ⟨rfl, rfl, hp⟩, ⟨rfl, rfl⟩, ⟨rfl, rfl⟩, trivial⟩ ⟨?_, trivial⟩⟩
     exact lesP_bys (by simp [catL, bys])
    ·conv => whnf
     repeat ((first | refine ifB_f ?_ | (refine ⟨⟨rfl, rfl, rfl, ?_, pureL_bys _⟩, ?_⟩; (focus (simp; done)))); conv => whnf)
     rfl
   ·exact weaker_of [(0, 0)] rfl rfl ⟨⟨rfl, rfl, rfl, rfl, fun h => h⟩, ⟨rfl, rfl, hp⟩, ⟨rfl, rfl⟩, ⟨rfl, rfl⟩, trivial⟩ ⟨lesP_bys rfl, trivial⟩
 ·exact weaker_of [] rfl rfl ⟨⟨rfl, rfl, hp⟩, ⟨rfl, rfl⟩, ⟨rfl, rfl, hp⟩, ⟨rfl, rfl⟩, ⟨rfl, rfl⟩, trivial⟩ trivial
section
attribute [local irreducible] demsP
set_option maxRecDepth 20000 in
set_option maxHeartbeats 2000000 in
theorem ssumG_ok (k : Int) (n : Nat) (cs : List AV) (y : List Int) (hp : pureL cs = true) (hc : ACall Tryz.prog 111 [.ro n cs] (.own y.length 1 (bys y)) []) (hk : 0 ≤ k ∧ k < 256) (hy : Byt y) (h0 : 0 < y.length) (ly : y.length ≤ 300000) : ACall Tryz.prog 102 [.int .u8 k, .ro n cs] (.agg (c32 (shaL (k :: y)) [])) [] := by
 have hs := sha_ok (k :: y) (fun x hx => by
  rcases List.mem_cons.1 hx with h | h
  ·rw [h]; exact hk
  ·exact hy x h) (by simp; omega)
 generalize shaL (k :: y) = x at hs ⊢
 refine ACall.of_does TTok Tryz.func102 rfl Tryz.call102 rfl (wpc_sound (M := MU) (PL := PL0) (CU := cutAt [99999]) TTok mixed _ _ _ ?_)
 conv => whnf
 repeat ((first | refine ⟨rfl, ?_⟩ | (refine And.intro (by first | omega | rfl | (dsimp only; omega)) ?_)); conv => whnf)
 refine ⟨_, _, hc, by first | rfl | simp [noRoIf, noRoL, noRoV, noRoL_bys], ?_⟩
 conv => whnf
 repeat ((first | refine ⟨ones_bys _, ?_⟩ | (refine Or.inl ⟨⟨rfl, ?_⟩, ?_⟩; (focus (first | rfl | (simp; done) | (rw [toksC_length]; omega)))) | (refine ⟨⟨rfl, ?_, ?_, ?_⟩, ?_⟩; (focus (first | (simp; done) | (simp; omega))); (focus (first | exact Or.inl rfl | exact Or.inr (by omega))); (focus (first | (simp [limB, lenB, offB]; done) | (simp [limB, lenB, offB]; omega))))); conv => whnf)
 have hs' : ACall Tryz.prog 54 [.own (1 + y.length) 1 (List.take (1 * 1) (List.drop 0 [AV.int .u8 k]) ++ bys y)] (.agg (c32 x [])) [] := (ACall.arg1 hs (by simp; omega) (by simp [bys])).ownArg
 refine ⟨⟨rfl, rfl, by simp; omega, by simp [pureL, pureV, pureL_bys]⟩, ?_⟩
 conv => whnf
 repeat ((refine ⟨rfl, ?_⟩); conv => whnf)
 refine ⟨_, _, hs', by first | rfl | simp [noRoIf, noRoL, noRoV, noRoL_bys], ?_⟩
 conv => whnf
 repeat ((refine ⟨(⟨by kernel_rfl, by kernel_rfl, Nat.le_of_ble_eq_true (by kernel_rfl)⟩ : AV.ones _ = true ∧ _ ∧ _), ?_⟩); conv => whnf)
 refine Does.tidy [(4, .ptr 0 0)] [(0, c32 x []), (1, [.int .u8 k]), (2, bys y)] 4 11 rfl rfl rfl (by kernel_rfl) (by kernel_rfl) ?_
 refine wpc_sound (M := MU) (PL := PL0) (CU := noCut) TTok mixed _ _ _ ?_
 conv => whnf
 refine ⟨c32 x [], by kernel_rfl, ?_⟩
 conv => whnf
 refine c32_dems1 (by kernel_rfl) ?_
 rfl
end
end
end Go.Proofs.YtbkclacjamlebaaGreatDoor.Abs
