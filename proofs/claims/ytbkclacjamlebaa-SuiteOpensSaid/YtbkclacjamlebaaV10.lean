/- Texts SD to GJ, merged. -/
import Derived.Test.YtbkclacjamlebaaV9
set_option linter.unusedVariables false
set_option linter.unusedSimpArgs false
namespace Go.Proofs.Ytbkclacjamlebaa.Abs
open Go
section

attribute [local irreducible] ifB fitP Does Weaker
theorem tmod_nat (a m : Nat) : ((a : Int)).tmod (m : Int) = ((a % m : Nat) : Int) := by rw [Int.ofNat_tmod]
theorem tdiv_nat (a m : Nat) : ((a : Int)).tdiv (m : Int) = ((a / m : Nat) : Int) := by rw [Int.ofNat_tdiv]
def padZ (rest : List Int) : Nat := (119 - rest.length % 64) % 64
def padN (rest : List Int) (j : Nat) : List Int := rest ++ [128] ++ List.replicate j 0
theorem padN_len (rest : List Int) (j : Nat) : (padN rest j).length = rest.length + 1 + j := by simp [padN]; omega
theorem padN_byt {rest : List Int} (hr : Byt rest) (j : Nat) : Byt (padN rest j) := by
 intro x hx
 rcases List.mem_append.1 hx with h | h
 ·rcases List.mem_append.1 h with h | h
  ·exact hr x h
  ·rw [List.mem_singleton] at h; omega
 ·simp only [List.mem_replicate] at h; omega
def lenX (n : Int) : Int := IntKind.u64.wrap (IntKind.u64.wrap n * 2 ^ 3)
def lenY (n : Int) (k : Int) : Int := IntKind.u8.wrap (lenX n / 2 ^ min (8 * k).toNat 64)
def lenN (P : List Int) (n : Int) : Nat → List Int
 | 0 => P
 | j + 1 => lenN P n j ++ [lenY n (7 - (j : Int))]
theorem lenN_len (P : List Int) (n : Int) : ∀ j, (lenN P n j).length = P.length + j
 | 0 => rfl
 | j + 1 => by rw [lenN, List.length_append, lenN_len P n j]; rfl
theorem u8_wrap (x : Int) : 0 ≤ IntKind.u8.wrap x ∧ IntKind.u8.wrap x < 256 := by
 have : IntKind.u8.wrap x = x % 256 := wrap_u8 x
 omega
theorem lenN_byt {P : List Int} (hp : Byt P) (n : Int) : ∀ j, Byt (lenN P n j)
 | 0 => hp
 | j + 1 => by
  intro x hx
  rw [lenN] at hx
  rcases List.mem_append.1 hx with h | h
  ·exact lenN_byt hp n j x h
  ·rw [List.mem_singleton] at h; rw [h]; exact u8_wrap _
def tailL (rest : List Int) (n : Int) : List Int := lenN (padN rest (padZ rest)) n 8
def outY (w : List Int) (i : Nat) : Int := IntKind.u8.wrap (w.getD (i / 4) 0 / 2 ^ min (24 - 8 * ((i % 4 : Nat) : Int)).toNat 32)
def outN (w : List Int) : Nat → List Int
 | 0 => List.replicate 32 0
 | i + 1 => (outN w i).set i (outY w i)
theorem outN_len (w : List Int) : ∀ i, (outN w i).length = 32
 | 0 => by simp [outN]
 | i + 1 => by rw [outN, List.length_set, outN_len w i]
def sumL (h rest : List Int) (n : Int) : List Int := outN (wN h (tailL rest n) ((tailL rest n).length / 64)) 32
def PLsu : Nat → Bool × Plan := plans [(11, (false, (takesTo [1, 2] (.all [(0, (.all [(3, (.all [(4, .done)]))]))]))))]
theorem shC_les {o : Nat → Option Nat} (h rest : List Int) (n : Int) : lesP o (shC h rest n) (shC h rest n) := ⟨⟨rfl, rfl⟩, ⟨rfl, rfl⟩, ⟨rfl, rfl⟩, ⟨rfl, rfl⟩, ⟨rfl, rfl⟩, ⟨rfl, rfl⟩, ⟨rfl, rfl⟩, ⟨rfl, rfl⟩, ⟨rfl, rfl, pureL_bys _⟩, ⟨rfl, rfl⟩, trivial⟩
set_option maxRecDepth 20000 in
set_option maxHeartbeats 2000000 in
theorem ssum_ok (h rest : List Int) (n : Int) (hh : h.length = 8) (hr : Byt rest) (hl : rest.length < 64) : ACall Try.prog 18 [.ref (shC h rest n)] (.agg (bys (sumL h rest n))) [.ref (shC h rest n)] := by
 have hcl := clone_ok rest (by omega)
 refine ACall.of_does TTok Try.func18 rfl Try.call18 rfl (wpc_sound (M := MS2) (PL := PLsu) (CU := cutAt [100008]) TTok mixed _ _ _ ?_)
 conv => whnf
 repeat ((first | refine ⟨pureL_bys _, ?_⟩ | refine ⟨rfl, ?_⟩ | refine ⟨_, rfl, ?_⟩); conv => whnf)
 refine ⟨_, _, hcl, by first | rfl | simp [noRoIf, noRoL, noRoV, noRoL_bys], ?_⟩
 conv => whnf
 repeat ((first | (refine Or.inl ⟨⟨rfl, ?_⟩, ?_⟩; (focus (first | rfl | (simp; done) | (rw [toksC_length]; omega)))) | refine ⟨rfl, ?_⟩ | (refine ⟨⟨rfl, rfl, ?_, ?_⟩, ?_⟩; (focus (first | (simp [lenB, offB]; done) | (simp [lenB, offB]; omega))); (focus (first | (simp [limB, lenB, offB]; done) | (simp [limB, lenB, offB]; omega))))); conv => whnf)
 refine Does.loop (fun j : Nat => mkSt [(0, .ptr 0 0), (2, .ptr 1 0), (3, .sl 2 0 (rest.length + 1 + j) 1 false)] [(0, shC h rest n), (1, List.replicate 32 (.int .u8 0)), (2, bys (padN rest j))] 3 69) (fun j => j ≤ padZ rest) (fun j => padZ rest - j) ?_ 0 (Nat.zero_le _) ?_
 ·intro j hj
  have hL := padN_len rest j
  have hz : padZ rest = (119 - rest.length % 64) % 64 := rfl
  have hm : ((rest.length + 1 + j : Nat) : Int).tmod 64 = (((rest.length + 1 + j) % 64 : Nat) : Int) := tmod_nat _ 64
  refine wpc_sound (M := MS2) (PL := PLsu) (CU := noCut) TTok mixed _ _ _ ?_
  conv => whnf
  repeat ((refine And.intro (by first | omega | rfl | (dsimp only; omega)) ?_); conv => whnf)
  rw [hm]
  by_cases hj1 : j < padZ rest
  ·have : (rest.length + 1 + j) % 64 ≠ 56 := by omega
   conv => whnf
   repeat ((first | (refine ifB_pos (decide_eq_true (by first | omega | rfl | (dsimp only; omega))) ?_) | (refine Or.inl ⟨⟨rfl, ?_⟩, ?_⟩; (focus (first | rfl | (simp; done) | (rw [toksC_length]; omega)))) | refine ⟨rfl, ?_⟩ | (refine ⟨⟨rfl, rfl, ?_, ?_⟩, ?_⟩; (focus (first | (simp [lenB, offB]; done) | (simp [lenB, offB]; omega))); (focus (first | (simp [limB, lenB, offB]; done) | (simp [limB, lenB, offB]; omega))))); conv => whnf)
   refine ⟨j + 1, by omega, by omega, weaker_of [(0, 0), (1, 1), (2, 4)] rfl rfl ⟨⟨rfl, rfl⟩, ⟨rfl, rfl⟩, ⟨rfl, rfl, by omega, rfl, fun h => h⟩, trivial⟩ ⟨shC_les _ _ _, lesP_bys (l := List.replicate 32 0) rfl, ?_, trivial⟩⟩
   refine lesP_bys ?_
   rw [show padN rest (j + 1) = padN rest j ++ [0] by simp [padN, List.replicate_succ']]
   simp [bys]
  ·obtain rfl : j = padZ rest := by omega
   have h56 : (rest.length + 1 + padZ rest) % 64 = 56 := by omega
   conv => whnf
   repeat ((refine ifB_neg (decide_eq_false (by first | omega | rfl | (dsimp only; omega))) ?_); conv => whnf)
   have hP : (padN rest (padZ rest)).length = rest.length + 1 + padZ rest := hL
   have hPb : Byt (padN rest (padZ rest)) := padN_byt hr _
   have hTb : rest.length + 1 + padZ rest ≤ 200 := by omega
   clear hm hj1
   unfold sumL tailL
   generalize padN rest (padZ rest) = P at hP hPb ⊢
   generalize rest.length + 1 + padZ rest = T at hP h56 hTb ⊢
   clear hL hz hj
   refine Does.loop (fun j : Nat => mkSt [(0, .ptr 0 0), (2, .ptr 1 0), (3, .sl 2 0 (T + j) 1 false), (4, .int .i64 (7 - (j : Int)))] [(0, shC h rest n), (1, List.replicate 32 (.int .u8 0)), (2, bys (lenN P n j))] 3 69) (fun j => j ≤ 8) (fun j => 8 - j) ?_ 0 (Nat.zero_le _) ?_
   ·intro j hj
    have hq := lenN_len P n j
    rcases Nat.lt_or_ge j 8 with j1 | j1
    ·refine wpc_sound (M := MS2) (PL := PLsu) (CU := noCut) TTok mixed _ _ _ ?_
     conv => whnf
     repeat ((first | (refine ifB_pos (decide_eq_true (by first | omega | rfl | (dsimp only; omega))) ?_) | refine ⟨_, rfl, ?_⟩); conv => whnf)
     refine fit_wrap ?_
     conv => whnf
     repeat ((refine And.intro (by first | omega | rfl | (dsimp only; omega)) ?_); conv => whnf)
     refine fit_wrap ?_
     conv => whnf
     repeat ((first | (refine fit_i64 ⟨by first | omega | rfl | (dsimp only; omega), by first | omega | rfl | (dsimp only; omega)⟩ ?_) | (refine And.intro (by first | omega | rfl | (dsimp only; omega)) ?_)); conv => whnf)
     refine fit_wrap ?_
     conv => whnf
     repeat ((first | (refine fit_i64 ⟨by first | omega | rfl | (dsimp only; omega), by first | omega | rfl | (dsimp only; omega)⟩ ?_) | (refine Or.inl ⟨⟨rfl, ?_⟩, ?_⟩; (focus (first | rfl | (simp; done) | (rw [toksC_length]; omega)))) | refine ⟨rfl, ?_⟩ | (refine ⟨⟨rfl, rfl, ?_, ?_⟩, ?_⟩; (focus (first | (simp [lenB, offB]; done) | (simp [lenB, offB]; omega))); (focus (first | (simp [limB, lenB, offB]; done) | (simp [limB, lenB, offB]; omega))))); conv => whnf)
     refine ⟨j + 1, by omega, by omega, weaker_of [(0, 0), (1, 1), (2, 4)] rfl rfl ⟨⟨rfl, rfl⟩, ⟨rfl, rfl⟩, ⟨rfl, rfl, by omega, rfl, fun h => h⟩, ⟨rfl, by omega⟩, trivial⟩ ⟨shC_les _ _ _, lesP_bys (l := List.replicate 32 0) rfl, ?_, trivial⟩⟩
     refine lesP_bys ?_
     simp [lenN, bys]
     rfl
    ·obtain rfl : j = 8 := by omega
     have hLb := lenN_byt hPb n 8
     generalize lenN P n 8 = L at hq hLb ⊢
     refine wpc_sound (M := MS2) (PL := PLsu) (CU := noCut) TTok mixed _ _ _ ?_
     conv => whnf
     repeat ((refine ifB_f ?_); conv => whnf)
     refine Does.freeze 2 rfl (Does.weakerTo' (env := [(0, .ptr 0 0), (2, .ptr 1 0), (3, .ro L.length (bys L))]) (heap := [(0, shC h rest n), (1, bys (List.replicate 32 0))]) (nx := 3) (n := 69) [(0, 0), (1, 1)] rfl rfl ⟨⟨rfl, rfl⟩, ⟨rfl, rfl⟩, ⟨by rw [hq, hP], (by rw [← hP, ← hq]; exact whole_bys _), pureL_bys _⟩, trivial⟩ ⟨shC_les _ _ _, lesP_bys rfl, trivial⟩ ?_)
     refine wpc_sound (M := MS2) (PL := PLsu) (CU := noCut) TTok mixed _ _ _ ?_
     conv => whnf
     repeat ((first | refine ⟨rfl, ?_⟩ | refine ⟨_, rfl, ?_⟩ | (refine ⟨⟨rfl, rfl, ?_⟩, ?_⟩; (focus (first | assumption | exact pureL_bys _ | exact pureL_toks _)))); conv => whnf)
     have hLl : L.length = 64 * (L.length / 64) := by rw [hP] at hq; omega
     have hLm : L.length ≤ 300 := by rw [hP] at hq; omega
     clear hq hP h56 hTb hPb
     refine Does.loop (fun c : Nat => mkSt [(0, .ptr 0 0), (2, .ptr 1 0), (3, .ro (L.drop (64 * c)).length (bys (L.drop (64 * c)))), (5, .ptr 3 0)] [(0, shC h rest n), (1, bys (List.replicate 32 0)), (3, c8 (wN h L c))] 4 69) (fun c => 64 * c ≤ L.length) (fun c => L.length - 64 * c) ?_ 0 (by omega) ?_
     ·intro c hc
      have hv := wN_len (h := h) hh L c
      have hd : (L.drop (64 * c)).length = L.length - 64 * c := by simp
      have hn : wN h L (c + 1) = takeW (wN h L c) ((L.drop (64 * c)).take 64) := rfl
      by_cases c1 : 64 * c < L.length
      ·have ht := stake_ok (wN h L c) ((L.drop (64 * c)).take 64) hv (fun x hx => hLb x (List.mem_of_mem_drop (List.mem_of_mem_take hx))) (by simp; omega)
       have e2 : L.drop (64 * (c + 1)) = (L.drop (64 * c)).drop 64 := by rw [List.drop_drop]; congr 1
       rw [← hn] at ht
       generalize hv' : wN h L (c + 1) = v' at ht
       generalize wN h L c = v at ht hv
       clear hn
       generalize L.drop (64 * c) = x at ht hd e2 ⊢
       refine wpc_sound (M := MS2) (PL := PLsu) (CU := noCut) TTok mixed _ _ _ ?_
       conv => whnf
       repeat ((refine ifB_pos (decide_eq_true (by first | omega | rfl | (dsimp only; omega))) ?_); conv => whnf)
       refine ⟨by kernel_rfl, ?_⟩
       conv => whnf
       repeat ((first | refine ⟨pureL_cutB _ _ _ _, ?_⟩ | refine ⟨rfl, ?_⟩ | refine ⟨_, rfl, ?_⟩ | (refine ⟨⟨?_, ?_⟩, ?_⟩; (focus (simp; done)); (focus (first | (simp only [okB]; omega) | (simp [okB]; omega))))); conv => whnf)
       refine ⟨_, _, ht.argB (by simp [lenB, endB, offB]) (cut_to64 x), by first | rfl | simp [noRoIf, noRoL, noRoV, noRoL_bys], ?_⟩
       conv => whnf
       repeat ((first | (refine ⟨⟨rfl, rfl, ?_⟩, ?_⟩; (focus (first | assumption | exact pureL_bys _ | exact pureL_toks _))) | (refine ⟨⟨?_, ?_⟩, ?_⟩; (focus (simp; done)); (focus (first | (simp only [okB]; omega) | (simp [okB]; omega))))); conv => whnf)
       refine ⟨c + 1, by omega, by omega, weaker_of [(0, 0), (1, 1), (3, 3)] rfl rfl ⟨⟨rfl, rfl⟩, ⟨rfl, rfl⟩, ⟨?_, ?_, pureL_bys _⟩, ⟨rfl, rfl⟩, trivial⟩ ⟨shC_les _ _ _, lesP_bys rfl, ⟨⟨rfl, by rw [hv']⟩, ⟨rfl, by rw [hv']⟩, ⟨rfl, by rw [hv']⟩, ⟨rfl, by rw [hv']⟩, ⟨rfl, by rw [hv']⟩, ⟨rfl, by rw [hv']⟩, ⟨rfl, by rw [hv']⟩, ⟨rfl, by rw [hv']⟩, trivial⟩, trivial⟩⟩
       ·rw [e2]; simp [lenB, endB, offB]
       ·rw [e2]; exact cut_from64 x _ rfl
      ·obtain rfl : c = L.length / 64 := by omega
       generalize wN h L (L.length / 64) = w at hv ⊢
       refine wpc_sound (M := MS2) (PL := PLsu) (CU := noCut) TTok mixed _ _ _ ?_
       conv => whnf
       repeat ((first | (refine ifB_neg (decide_eq_false (by first | omega | rfl | (dsimp only; omega))) ?_) | refine ⟨rfl, ?_⟩); conv => whnf)
       refine Does.loop (fun i : Nat => mkSt [(0, .ptr 0 0), (2, .ptr 1 0), (5, .ptr 3 0), (6, .ptr 4 0), (52, .int .i64 i)] [(0, shC h rest n), (1, bys (List.replicate 32 0)), (3, u32s w), (4, bys (outN w i))] 5 69) (fun i => i ≤ 32) (fun i => 32 - i) ?_ 0 (by omega) ?_
       ·intro i hi
        have ho := outN_len w i
        rcases Nat.lt_or_ge i 32 with i1 | i1
        ·have t1 : (i : Int).tdiv 4 = ((i / 4 : Nat) : Int) := tdiv_nat i 4
         have t2 : (i : Int).tmod 4 = ((i % 4 : Nat) : Int) := tmod_nat i 4
         refine wpc_sound (M := MS2) (PL := PLsu) (CU := noCut) TTok mixed _ _ _ ?_
         conv => whnf
         repeat ((first | (refine ifB_pos (decide_eq_true (by first | omega | rfl | (dsimp only; omega))) ?_) | (refine fit_i64 ⟨by first | omega | rfl | (dsimp only; omega), by first | omega | rfl | (dsimp only; omega)⟩ ?_) | (refine And.intro (by first | omega | rfl | (dsimp only; omega)) ?_)); conv => whnf)
         rw [t1]
         conv => whnf
         refine ⟨_, u32s_get (l := w) (i := i / 4) (by rw [hv]; omega) (by simp; omega), ?_⟩
         conv => whnf
         repeat ((first | (refine fit_i64 ⟨by first | omega | rfl | (dsimp only; omega), by first | omega | rfl | (dsimp only; omega)⟩ ?_) | (refine And.intro (by first | omega | rfl | (dsimp only; omega)) ?_)); conv => whnf)
         rw [t2]
         conv => whnf
         refine fit_wrap ?_
         conv => whnf
         repeat ((refine And.intro (by first | omega | rfl | (dsimp only; omega)) ?_); conv => whnf)
         refine ⟨⟨rfl, rfl, by simp [ho]; omega⟩, ?_⟩
         conv => whnf
         repeat ((refine fit_i64 ⟨by first | omega | rfl | (dsimp only; omega), by first | omega | rfl | (dsimp only; omega)⟩ ?_); conv => whnf)
         refine ⟨i + 1, by omega, by omega, weaker_of [(0, 0), (1, 1), (3, 3), (4, 4)] rfl rfl ⟨⟨rfl, rfl⟩, ⟨rfl, rfl⟩, ⟨rfl, rfl⟩, ⟨rfl, rfl⟩, ⟨rfl, rfl⟩, trivial⟩ ⟨shC_les _ _ _, lesP_bys rfl, u32s_les rfl, ?_, trivial⟩⟩
         refine lesP_bys ?_
         rw [outN]
         exact (congrArg (fun k => setN (bys (outN w i)) k _) (by simp)).trans (setN_bys _ _ _ (by omega))
        ·obtain rfl : i = 32 := by omega
         generalize outN w 32 = x at ho ⊢
         refine wpc_sound (M := MS2) (PL := PLsu) (CU := noCut) TTok mixed _ _ _ ?_
         conv => whnf
         refine ifB_f ?_
         conv => whnf
         refine ⟨_, takeN_all (cs := bys x) (by simp [ho]), ?_⟩
         conv => whnf
         refine ⟨⟨ones_bys x, (by show (bys x).length = 32; simp [ho]), (by show 0 + 32 ≤ (bys (List.replicate 32 0)).length; simp)⟩, ?_⟩
         conv => whnf
         refine ⟨bys x, ?_, ?_⟩
         ·show takeN 32 (setN (bys (List.replicate 32 0)) 0 (bys x)) = some (bys x)
          rw [setN_all (by simp [ho])]
          exact takeN_all (by simp [ho])
         conv => whnf
         repeat ((first | refine ⟨⟨rfl, rfl⟩, ?_⟩ | (refine ⟨⟨rfl, rfl, ?_⟩, ?_⟩; (focus (first | assumption | exact pureL_bys _ | exact pureL_toks _)))); conv => whnf)
         exact demsP_bys _ _ rfl
       ·exact weaker_of [(0, 0), (1, 1), (3, 3), (4, 4)] rfl rfl ⟨⟨rfl, rfl⟩, ⟨rfl, rfl⟩, ⟨rfl, rfl⟩, ⟨rfl, rfl⟩, ⟨rfl, rfl⟩, trivial⟩ ⟨shC_les _ _ _, lesP_bys rfl, u32s_les (c8_eq hv).symm, lesP_bys (l := List.replicate 32 0) rfl, trivial⟩
     ·exact weaker_of [(0, 0), (1, 1), (3, 3)] rfl rfl ⟨⟨rfl, rfl⟩, ⟨rfl, rfl⟩, ⟨rfl, rfl, pureL_bys _⟩, ⟨rfl, rfl⟩, trivial⟩ ⟨shC_les _ _ _, lesP_bys rfl, (show lesP _ (c8 h) (c8 h) from c8_les _), trivial⟩
   ·exact weaker_of [(0, 0), (1, 1), (2, 2)] rfl rfl ⟨⟨rfl, rfl⟩, ⟨rfl, rfl⟩, ⟨rfl, rfl, rfl, rfl, fun h => h⟩, ⟨rfl, rfl⟩, trivial⟩ ⟨shC_les _ _ _, lesP_bys (l := List.replicate 32 0) rfl, lesP_bys rfl, trivial⟩
 ·refine weaker_of [(0, 0), (1, 1), (2, 4)] rfl rfl ⟨⟨rfl, rfl⟩, ⟨rfl, rfl⟩, ⟨rfl, rfl, by first | rfl | simp, rfl, fun h => h⟩, trivial⟩ ⟨shC_les _ _ _, lesP_bys (l := List.replicate 32 0) rfl, ?_, trivial⟩
  exact lesP_bys (by simp [padN, bys])
end
section
--KR
attribute [local irreducible] ifB fitP Does Weaker
def shaL (b : List Int) : List Int := sumL (wN hF b (b.length / 64)) (b.drop (64 * (b.length / 64))) b.length
theorem sumL_len (h rest : List Int) (n : Int) : (sumL h rest n).length = 32 := by
 unfold sumL
 generalize wN h (tailL rest n) ((tailL rest n).length / 64) = w
 exact outN_len w 32
theorem shaL_len (b : List Int) : (shaL b).length = 32 := by
 unfold shaL
 exact sumL_len _ _ _
theorem outN_byt (w : List Int) : ∀ i, Byt (outN w i)
 | 0 => fun x hx => by simp only [outN, List.mem_replicate] at hx; omega
 | i + 1 => fun x hx => by
  rw [outN] at hx
  rcases List.mem_or_eq_of_mem_set hx with h | h
  ·exact outN_byt w i x h
  ·rw [h]; exact u8_wrap _
theorem sumL_byt (h rest : List Int) (n : Int) : Byt (sumL h rest n) := by
 unfold sumL
 generalize wN h (tailL rest n) ((tailL rest n).length / 64) = w
 exact outN_byt w 32
theorem shaL_byt (b : List Int) : Byt (shaL b) := by
 unfold shaL
 exact sumL_byt _ _ _
set_option maxHeartbeats 1000000 in
theorem ssum_ok' (h rest : List Int) (n : Int) (hh : h.length = 8) (hr : Byt rest) (hl : rest.length < 64) : ACall Try.prog 18 [.ref (shC h rest n)] (.agg (c32 (sumL h rest n) [])) [.ref (shC h rest n)] := by
 have h3 := ssum_ok h rest n hh hr hl
 have hx := sumL_len h rest n
 generalize sumL h rest n = x at h3 hx ⊢
 rw [c32_eq hx, List.append_nil]
 exact h3
theorem c32_dems1 {H : Heap} {x : List Int} {zs : List AV} {K : List Nat → Prop} (hz : zs = c32 x []) (h : K []) : demsP H [.agg (c32 x [])] [.agg zs] K := by
 subst hz
 simp only [demsP, demP]
 refine c32_dems ?_
 simpa only [demsP, and_self, true_and, List.nil_append] using h
attribute [local irreducible] demsP
set_option maxRecDepth 20000 in
set_option maxHeartbeats 2000000 in
theorem sha_ok (b : List Int) (hb : Byt b) (hl : b.length ≤ 400000) : ACall Try.prog 6 [.ro b.length (bys b)] (.agg (c32 (shaL b) [])) [] := by
 have h1 := new_ok
 have h2 := swrite_ok b hb hl
 have h3 := ssum_ok' (wN hF b (b.length / 64)) (b.drop (64 * (b.length / 64))) b.length (wN_len rfl b _) (fun x hx => hb x (List.mem_of_mem_drop hx)) (by simp; omega)
 unfold shaL
 generalize wN hF b (b.length / 64) = v at h2 h3 ⊢
 generalize sumL v (b.drop (64 * (b.length / 64))) b.length = x at h3 ⊢
 refine ACall.of_does TTok Try.func6 rfl Try.call6 rfl (wpc_sound (M := MS2) (PL := PL0) (CU := cutAt [99999]) TTok mixed _ _ _ ?_)
 conv => whnf
 repeat ((refine ⟨rfl, ?_⟩); conv => whnf)
 refine ⟨_, _, h1, by first | rfl | simp [noRoIf, noRoL, noRoV, noRoL_bys], ?_⟩
 conv => whnf
 repeat ((first | refine ⟨pureL_bys _, ?_⟩ | refine ⟨rfl, ?_⟩); conv => whnf)
 refine ⟨_, _, h2, by first | rfl | simp [noRoIf, noRoL, noRoV, noRoL_bys], ?_⟩
 conv => whnf
 repeat ((first | refine ⟨pureL_bys _, ?_⟩ | refine ⟨rfl, ?_⟩); conv => whnf)
 refine ⟨_, _, h3, by first | rfl | simp [noRoIf, noRoL, noRoV, noRoL_bys], ?_⟩
 conv => whnf
 repeat ((refine ⟨(⟨by kernel_rfl, by kernel_rfl, Nat.le_of_ble_eq_true (by kernel_rfl)⟩ : AV.ones _ = true ∧ _ ∧ _), ?_⟩); conv => whnf)
 refine Does.tidy [(2, .ptr 0 0)] [(0, c32 x []), (1, shC v (b.drop (64 * (b.length / 64))) b.length)] 2 10 rfl rfl rfl (by kernel_rfl) (by kernel_rfl) ?_
 refine wpc_sound (M := MS2) (PL := PL0) (CU := noCut) TTok mixed _ _ _ ?_
 conv => whnf
 refine ⟨c32 x [], by kernel_rfl, ?_⟩
 conv => whnf
 refine c32_dems1 (by kernel_rfl) ?_
 rfl
end
section

theorem ACall.ownArg {P : Program} {f : FuncId} {len esz : Nat} {cs : List AV} {r : AV} (h : ACall P f [.ro len cs] r []) : ACall P f [.own len esz cs] r [] := by
 refine ⟨h.1, fun Z E vals X hh hr hn hz => ?_⟩
 simp only [RepBL] at hr
 obtain ⟨u, us, Y, Y', e1, e2, h1, rfl, rfl⟩ := hr
 subst e1
 rw [List.append_nil] at e2
 subst e2
 have hro := roOf_own (Z := Z) (fun b hb => (hh.V b).2 (.inl (.inl hb))) hz h1
 have hW : ∀ b, ¬ Wr E.ρ noHeap b := fun b ⟨id, c, k, _⟩ => by cases k
 have H1 : HeapRep (fun b => Z b ∨ b ∈ ([] : List Nat)) ⟨E.η, E.ρ, Z, E.w⟩ noHeap 0 := {
  blk := fun id c k => by cases k
  inj := fun id id' n k => (k rfl).elim
  V := fun b => ⟨fun k => .inl (.inl k), fun k => by
   rcases k with (k | k) | k
   ·exact k
   ·exact absurd k (List.not_mem_nil)
   ·exact (hW b k).elim⟩
  apart := fun id n k => (k rfl).elim
  fresh := hh.fresh
  one := hh.one
  old := hh.old
  zold := fun b k => by
   rcases k with k | k
   ·exact hh.zold b (.inl k)
   ·exact absurd k (List.not_mem_nil)
  tab := fun g k l hg => by
   obtain ⟨t1, t2, t3⟩ := hh.tab g k l hg
   exact ⟨t1, fun hv => t2 ((hh.V g).2 (.inl (.inl hv))), t3⟩ }
 have hb : RepBL ⟨E.η, E.ρ, Z, E.w⟩ [.ro len cs] [u] [] := by
  simp only [RepBL]
  exact ⟨u, [], [], [], rfl, rfl, hro, rfl, rfl⟩
 refine (h.2 Z ⟨E.η, E.ρ, Z, E.w⟩ [u] [] H1 hb List.nodup_nil (fun b hb => absurd hb (List.not_mem_nil))).mono ?_
 rintro e w' ⟨v, E', Xr, he, hw, hη, hev, hV, hB, hnd, hX⟩
 exact ⟨v, E', Xr, he, hw, hη, hev.mono (fun x hx => absurd hx (List.not_mem_nil)), hV, hB, hnd, fun b hb => ⟨(hX b hb).1, fun k => absurd ((hX b hb).2.1 k) (List.not_mem_nil), (hX b hb).2.2⟩⟩
end
end Go.Proofs.Ytbkclacjamlebaa.Abs
