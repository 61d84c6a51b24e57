/- Texts SB to SB, merged. -/
import Derived.Test.YtbkclacjamlebaaV7
set_option linter.unusedVariables false
set_option linter.unusedSimpArgs false
namespace Go.Proofs.Ytbkclacjamlebaa.Abs
open Go
section
--KR
attribute [local irreducible] ifB fitP Does Weaker
def hF : List Int := [1779033703, 3144134277, 1013904242, 2773480762, 1359893119, 2600822924, 528734635, 1541459225]
def kR : List Int := [1116352408, 1899447441, 3049323471, 3921009573, 961987163, 1508970993, 2453635748, 2870763221, 3624381080, 310598401, 607225278, 1426881987, 1925078388, 2162078206, 2614888103, 3248222580, 3835390401, 4022224774, 264347078, 604807628, 770255983, 1249150122, 1555081692, 1996064986, 2554220882, 2821834349, 2952996808, 3210313671, 3336571891, 3584528711, 113926993, 338241895, 666307205, 773529912, 1294757372, 1396182291, 1695183700, 1986661051, 2177026350, 2456956037, 2730485921, 2820302411, 3259730800, 3345764771, 3516065817, 3600352804, 4094571909, 275423344, 430227734, 506948616, 659060556, 883997877, 958139571, 1322822218, 1537002063, 1747873779, 1955562222, 2024104815, 2227730452, 2361852424, 2428436474, 2756734187, 3204031479, 3329325298]
def c8 (l : List Int) : List AV := [.int .u32 (l.getD 0 0), .int .u32 (l.getD 1 0), .int .u32 (l.getD 2 0), .int .u32 (l.getD 3 0), .int .u32 (l.getD 4 0), .int .u32 (l.getD 5 0), .int .u32 (l.getD 6 0), .int .u32 (l.getD 7 0)]
theorem c8_eq {l : List Int} (h : l.length = 8) : u32s l = c8 l := by
 match l, h with
 | [a, b, c, d, e, f, g, i], _ => rfl
theorem first_ok : ACall Try.prog 29 [] (.agg (u32s hF)) [] := by
 refine ACall.of_does TTok Try.func29 rfl Try.call29 rfl (wpc_sound (M := MS) (PL := PL0) (CU := noCut) TTok mixed _ _ _ ?_)
 conv => whnf
 repeat ((first | refine ⟨(⟨by kernel_rfl, by kernel_rfl, Nat.le_of_ble_eq_true (by kernel_rfl)⟩ : AV.ones _ = true ∧ _ ∧ _), ?_⟩ | refine ⟨rfl, ?_⟩ | refine ⟨_, rfl, ?_⟩ | refine ⟨⟨rfl, rfl⟩, ?_⟩); conv => whnf)
 rfl
theorem rounds_ok : ACall Try.prog 46 [] (.own 64 1 (u32s kR)) [] := by
 refine ACall.of_does TTok Try.func46 rfl Try.call46 rfl (wpc_sound (M := MS) (PL := PL0) (CU := noCut) TTok mixed _ _ _ ?_)
 conv => whnf
 exact ⟨⟨rfl, rfl, rfl, rfl, u32s_pure _⟩, rfl⟩
theorem c8_les {o : Nat → Option Nat} (l : List Int) : lesP o (c8 l) (c8 l) := ⟨⟨rfl, rfl⟩, ⟨rfl, rfl⟩, ⟨rfl, rfl⟩, ⟨rfl, rfl⟩, ⟨rfl, rfl⟩, ⟨rfl, rfl⟩, ⟨rfl, rfl⟩, ⟨rfl, rfl⟩, trivial⟩
def z8 : List Int := List.replicate 8 0
theorem matL_u32s : ∀ (l : List Int) (s : Heap × Nat), matL (u32s l) s = (u32s l, s)
 | [], s => rfl
 | x :: l, s => by
  have h := matL_u32s l s
  simp only [u32s, List.map_cons] at h ⊢
  simp only [matL, matV, h]
def nt (x : Int) : Int := bits .xor .u32 4294967295 x
def rOne (v : List Int) (k w : Int) : Int := IntKind.u32.wrap (IntKind.u32.wrap (IntKind.u32.wrap (IntKind.u32.wrap (v.getD 7 0 + bits .xor .u32 (bits .xor .u32 (rotE (v.getD 4 0) (-6)) (rotE (v.getD 4 0) (-11))) (rotE (v.getD 4 0) (-25))) + bits .xor .u32 (bits .and .u32 (v.getD 4 0) (v.getD 5 0)) (bits .and .u32 (nt (v.getD 4 0)) (v.getD 6 0))) + k) + w)
def rTwo (v : List Int) : Int := IntKind.u32.wrap (bits .xor .u32 (bits .xor .u32 (rotE (v.getD 0 0) (-2)) (rotE (v.getD 0 0) (-13))) (rotE (v.getD 0 0) (-22)) + bits .xor .u32 (bits .xor .u32 (bits .and .u32 (v.getD 0 0) (v.getD 1 0)) (bits .and .u32 (v.getD 0 0) (v.getD 2 0))) (bits .and .u32 (v.getD 1 0) (v.getD 2 0)))
def rNd (v : List Int) (k w : Int) : List Int := [IntKind.u32.wrap (rOne v k w + rTwo v), v.getD 0 0, v.getD 1 0, v.getD 2 0, IntKind.u32.wrap (v.getD 3 0 + rOne v k w), v.getD 4 0, v.getD 5 0, v.getD 6 0]
def rN (h w : List Int) : Nat → List Int
 | 0 => h
 | i + 1 => rNd (rN h w i) (kR.getD i 0) (w.getD i 0)
theorem rN_len {h w : List Int} (hh : h.length = 8) : ∀ i, (rN h w i).length = 8
 | 0 => hh
 | i + 1 => rfl
def aN (h v : List Int) : Nat → List Int
 | 0 => h
 | i + 1 => (aN h v i).set i (IntKind.u32.wrap ((aN h v i).getD i 0 + v.getD i 0))
theorem aN_len {h v : List Int} (hh : h.length = 8) : ∀ i, (aN h v i).length = 8
 | 0 => hh
 | i + 1 => by rw [aN, List.length_set, aN_len hh i]
def takeW (h p : List Int) : List Int := aN h (rN h (spN p 64) 64) 8
theorem takeW_len {h p : List Int} (hh : h.length = 8) : (takeW h p).length = 8 := aN_len hh 8
def PLta : Nat → Bool × Plan := plans [(1, (false, (.all [(0, (.all [(1, (.all [(2, (.all [(3, (takes [4]))]))])), (2, (.all [(1, (.all [(3, (takes [4]))]))]))])), (1, (.all [(0, (.all [(2, (.all [(3, (takes [4]))]))])), (2, (.all [(0, (.all [(3, (takes [4]))]))]))])), (2, (.all [(0, (.all [(1, (.all [(3, (takes [4]))]))])), (1, (.all [(0, (.all [(3, (takes [4]))]))]))]))]))), (5, (true, takes [0, 1, 2, 3, 4, 5])), (7, (true, takes [0, 1, 2, 3, 4, 5, 6, 7, 8, 9, 10, 11, 12, 13, 14, 15, 16, 17, 18, 19, 20, 21, 22])), (15, (false, (takesTo [0, 1, 3, 4] (.all [(2, (.all [(5, (takesTo [6, 7] (.all [(8, .done)])))])), (5, (.all [(2, (takesTo [6, 7] (.all [(8, .done)])))]))]))))]
set_option maxRecDepth 20000 in
set_option maxHeartbeats 2000000 in
theorem stake_ok (h p : List Int) (hh : h.length = 8) (hb : Byt p) (hl : p.length = 64) : ACall Try.prog 30 [.agg (c8 h), .ro 64 (bys p)] (.agg (c8 (takeW h p))) [] := by
 have hs := spread_ok p hb hl
 have hw := spN_len p 64
 unfold takeW
 generalize spN p 64 = w at hs hw ⊢
 refine ACall.of_does TTok Try.func30 rfl Try.call30 rfl (wpc_sound (M := MS) (PL := PLta) (CU := cutAt [200001]) TTok mixed _ _ _ ?_)
 conv => whnf
 repeat ((refine ⟨rfl, ?_⟩); conv => whnf)
 refine Does.seqCut (fun _ : Unit => mkSt [(1, .ro 64 (bys p)), (2, .ptr 0 0), (4, .ptr 1 0), (5, .ptr 2 0), (6, .sl 3 0 64 1 false)] [(0, c8 h), (1, c8 z8), (2, c8 h), (3, u32s kR)] 4 115) (fun _ => True) ?_ ?_
 ·refine wpc_sound (M := MS) (PL := PLta) (CU := noCut) TTok mixed _ _ _ ?_
  conv => whnf
  refine ⟨by kernel_rfl, ?_⟩
  conv => whnf
  conv => whnf
  repeat' (first | (refine ⟨(⟨by kernel_rfl, by kernel_rfl, Nat.le_of_ble_eq_true (by kernel_rfl)⟩ : AV.ones _ = true ∧ _ ∧ _), ?_⟩; (conv => whnf)) | (refine ⟨rfl, ?_⟩; (conv => whnf)) | (refine ⟨_, _, rounds_ok, rfl, ?_⟩; conv => whnf) | (refine ⟨_, rfl, ?_⟩; conv => whnf) | (refine And.intro ?_ ?_ <;> conv => whnf))
  all_goals
   first
    | exact ⟨(), trivial, weaker_of [(0, 0), (1, 1), (2, 2), (3, 3)] rfl rfl ⟨⟨rfl, rfl, pureL_bys _⟩, ⟨rfl, rfl⟩, ⟨rfl, rfl⟩, ⟨rfl, rfl⟩, ⟨rfl, rfl, rfl, rfl, fun h => h⟩, trivial⟩ ⟨c8_les _, (show lesP _ (c8 z8) (c8 z8) from c8_les _), c8_les _, u32s_les rfl, trivial⟩⟩
    | exact ⟨(), trivial, weaker_of [(0, 0), (1, 1), (2, 3), (3, 2)] rfl rfl ⟨⟨rfl, rfl, pureL_bys _⟩, ⟨rfl, rfl⟩, ⟨rfl, rfl⟩, ⟨rfl, rfl⟩, ⟨rfl, rfl, rfl, rfl, fun h => h⟩, trivial⟩ ⟨c8_les _, (show lesP _ (c8 z8) (c8 z8) from c8_les _), c8_les _, u32s_les rfl, trivial⟩⟩
 intro _ _
 refine wpc_sound (M := MS) (PL := PLta) (CU := noCut) TTok mixed _ _ _ ?_
 conv => whnf
 repeat ((first | refine ⟨pureL_bys _, ?_⟩ | refine ⟨rfl, ?_⟩); conv => whnf)
 refine ⟨_, _, hs, by first | rfl | simp [noRoIf, noRoL, noRoV, noRoL_bys], ?_⟩
 conv => whnf
 rw [matL_u32s]
 refine Does.loop (fun c : Nat => mkSt [(2, .ptr 0 0), (4, .ptr 1 0), (5, .ptr 2 0), (6, .sl 3 0 64 1 false), (19, .agg (u32s w)), (20, .int .i64 c)] [(0, c8 h), (1, c8 z8), (2, c8 (rN h w c)), (3, u32s kR)] 4 115) (fun c => c ≤ 64) (fun c => 64 - c) ?_ 0 (Nat.zero_le _) ?_
 ·intro c hc
  rcases Nat.lt_or_ge c 64 with c1 | c1
  ·have hn : rN h w (c + 1) = rNd (rN h w c) (kR.getD c 0) (w.getD c 0) := rfl
   generalize rN h w c = v at hn ⊢
   refine wpc_sound (M := MS) (PL := PLta) (CU := noCut) TTok mixed _ _ _ ?_
   conv => whnf
   repeat ((first | (refine ifB_pos (decide_eq_true (by first | omega | rfl | (dsimp only; omega))) ?_) | (refine And.intro (by first | omega | rfl | (dsimp only; omega)) ?_)); conv => whnf)
   refine ⟨_, u32s_get (i := c) (by omega) (by simp), ?_⟩
   conv => whnf
   refine ⟨by kernel_rfl, ?_⟩
   conv => whnf
   repeat ((first | refine ⟨rfl, ?_⟩ | refine ⟨_, rfl, ?_⟩ | (refine And.intro (by first | omega | rfl | (dsimp only; omega)) ?_)); conv => whnf)
   refine ⟨_, _, rot_ok _ _, by first | rfl | simp [noRoIf, noRoL, noRoV, noRoL_bys], ?_⟩
   conv => whnf
   repeat ((refine ⟨rfl, ?_⟩); conv => whnf)
   refine ⟨_, _, rot_ok _ _, by first | rfl | simp [noRoIf, noRoL, noRoV, noRoL_bys], ?_⟩
   conv => whnf
   repeat ((refine ⟨rfl, ?_⟩); conv => whnf)
   refine ⟨_, _, rot_ok _ _, by first | rfl | simp [noRoIf, noRoL, noRoV, noRoL_bys], ?_⟩
   conv => whnf
   refine ⟨by kernel_rfl, ?_⟩
   conv => whnf
   repeat ((first | refine ⟨_, rfl, ?_⟩ | (refine And.intro (by first | omega | rfl | (dsimp only; omega)) ?_)); conv => whnf)
   refine fit_wrap ?_
   conv => whnf
   repeat ((first | refine ⟨_, rfl, ?_⟩ | (refine And.intro (by first | omega | rfl | (dsimp only; omega)) ?_)); conv => whnf)
   refine fit_wrap ?_
   conv => whnf
   repeat ((refine And.intro (by first | omega | rfl | (dsimp only; omega)) ?_); conv => whnf)
   refine ⟨_, u32s_get (l := kR) (i := c) c1 (by simp), ?_⟩
   conv => whnf
   refine fit_wrap ?_
   conv => whnf
   refine fit_wrap ?_
   conv => whnf
   repeat ((refine ⟨rfl, ?_⟩); conv => whnf)
   refine ⟨_, _, rot_ok _ _, by first | rfl | simp [noRoIf, noRoL, noRoV, noRoL_bys], ?_⟩
   conv => whnf
   repeat ((refine ⟨rfl, ?_⟩); conv => whnf)
   refine ⟨_, _, rot_ok _ _, by first | rfl | simp [noRoIf, noRoL, noRoV, noRoL_bys], ?_⟩
   conv => whnf
   repeat ((refine ⟨rfl, ?_⟩); conv => whnf)
   refine ⟨_, _, rot_ok _ _, by first | rfl | simp [noRoIf, noRoL, noRoV, noRoL_bys], ?_⟩
   conv => whnf
   repeat ((first | refine ⟨_, rfl, ?_⟩ | (refine And.intro (by first | omega | rfl | (dsimp only; omega)) ?_)); conv => whnf)
   refine fit_wrap ?_
   conv => whnf
   refine fit_wrap ?_
   conv => whnf
   repeat ((first | refine ⟨_, rfl, ?_⟩ | (refine And.intro (by first | omega | rfl | (dsimp only; omega)) ?_)); conv => whnf)
   refine fit_wrap ?_
   conv => whnf
   repeat ((first | (refine fit_i64 ⟨by first | omega | rfl | (dsimp only; omega), by first | omega | rfl | (dsimp only; omega)⟩ ?_) | refine ⟨(⟨by kernel_rfl, by kernel_rfl, Nat.le_of_ble_eq_true (by kernel_rfl)⟩ : AV.ones _ = true ∧ _ ∧ _), ?_⟩ | refine ⟨_, rfl, ?_⟩ | (refine And.intro (by first | omega | rfl | (dsimp only; omega)) ?_)); conv => whnf)
   refine ⟨c + 1, by omega, by omega, weaker_of [(0, 0), (1, 1), (2, 2), (3, 3)] rfl rfl ⟨⟨rfl, rfl⟩, ⟨rfl, rfl⟩, ⟨rfl, rfl⟩, ⟨rfl, rfl, rfl, rfl, fun h => h⟩, u32s_les rfl, ⟨rfl, rfl⟩, trivial⟩ ⟨(show lesP _ (c8 h) (c8 h) from c8_les _), (show lesP _ (c8 z8) (c8 z8) from c8_les _), ?_, u32s_les rfl, trivial⟩⟩
   show lesP _ (c8 (rN h w (c + 1))) _
   rw [hn]
   exact c8_les _
  ·obtain rfl : c = 64 := by omega
   have hv := rN_len (h := h) (w := w) hh 64
   generalize rN h w 64 = v at hv ⊢
   rw [← c8_eq (aN_len hh 8)]
   refine wpc_sound (M := MS) (PL := PLta) (CU := noCut) TTok mixed _ _ _ ?_
   conv => whnf
   repeat ((refine ifB_f ?_); conv => whnf)
   refine Does.loop (fun d : Nat => mkSt [(2, .ptr 0 0), (4, .ptr 1 0), (5, .ptr 2 0), (102, .int .i64 d)] [(0, u32s (aN h v d)), (1, c8 z8), (2, u32s v), (3, u32s kR)] 4 115) (fun d => d ≤ 8) (fun d => 8 - d) ?_ 0 (Nat.zero_le _) ?_
   ·intro d hd
    rcases Nat.lt_or_ge d 8 with d1 | d1
    ·refine wpc_sound (M := MS) (PL := PLta) (CU := noCut) TTok mixed _ _ _ ?_
     conv => whnf
     repeat ((refine ifB_pos (decide_eq_true (by first | omega | rfl | (dsimp only; omega))) ?_); conv => whnf)
     refine ⟨by kernel_rfl, ?_⟩
     conv => whnf
     repeat ((refine And.intro (by first | omega | rfl | (dsimp only; omega)) ?_); conv => whnf)
     refine ⟨?_, ?_⟩
     ·conv => whnf
      refine ⟨_, u32s_get (l := aN h v d) (i := d) (by rw [aN_len hh]; omega) (by simp), ?_⟩
      conv => whnf
      refine ⟨_, u32s_get (l := v) (i := d) (by rw [hv]; omega) (by simp), ?_⟩
      conv => whnf
      refine fit_wrap ?_
      conv => whnf
      refine ⟨⟨by omega, by omega⟩, ?_⟩
      conv => whnf
      refine ⟨⟨rfl, rfl, by rw [u32s_length, aN_len hh]; simp; omega⟩, ?_⟩
      conv => whnf
      conv => whnf
      repeat ((refine fit_i64 ⟨by first | omega | rfl | (dsimp only; omega), by first | omega | rfl | (dsimp only; omega)⟩ ?_); conv => whnf)
      refine ⟨d + 1, by omega, by omega, weaker_of [(0, 0), (1, 1), (2, 2), (3, 3)] rfl rfl ⟨⟨rfl, rfl⟩, ⟨rfl, rfl⟩, ⟨rfl, rfl⟩, ⟨rfl, rfl⟩, trivial⟩ ⟨?_, (show lesP _ (c8 z8) (c8 z8) from c8_les _), u32s_les rfl, u32s_les rfl, trivial⟩⟩
      show lesP _ (u32s (aN h v (d + 1))) _
      refine u32s_les ?_
      rw [aN]
      exact (congrArg (fun i => setN (u32s (aN h v d)) i _) (by simp)).trans (u32s_set _ _ _)
     ·conv => whnf
      refine ⟨_, u32s_get (l := v) (i := d) (by rw [hv]; omega) (by simp), ?_⟩
      conv => whnf
      refine ⟨_, u32s_get (l := aN h v d) (i := d) (by rw [aN_len hh]; omega) (by simp), ?_⟩
      conv => whnf
      refine fit_wrap ?_
      conv => whnf
      refine ⟨⟨by omega, by omega⟩, ?_⟩
      conv => whnf
      refine ⟨⟨rfl, rfl, by rw [u32s_length, aN_len hh]; simp; omega⟩, ?_⟩
      conv => whnf
      conv => whnf
      repeat ((refine fit_i64 ⟨by first | omega | rfl | (dsimp only; omega), by first | omega | rfl | (dsimp only; omega)⟩ ?_); conv => whnf)
      refine ⟨d + 1, by omega, by omega, weaker_of [(0, 0), (1, 1), (2, 2), (3, 3)] rfl rfl ⟨⟨rfl, rfl⟩, ⟨rfl, rfl⟩, ⟨rfl, rfl⟩, ⟨rfl, rfl⟩, trivial⟩ ⟨?_, (show lesP _ (c8 z8) (c8 z8) from c8_les _), u32s_les rfl, u32s_les rfl, trivial⟩⟩
      show lesP _ (u32s (aN h v (d + 1))) _
      refine u32s_les ?_
      rw [aN]
      exact (congrArg (fun i => setN (u32s (aN h v d)) i _) (by simp)).trans (u32s_set _ _ _)
    ·obtain rfl : d = 8 := by omega
     have ha := aN_len (h := h) (v := v) hh 8
     generalize aN h v 8 = x at ha ⊢
     refine wpc_sound (M := MS) (PL := PLta) (CU := noCut) TTok mixed _ _ _ ?_
     conv => whnf
     refine ifB_f ?_
     conv => whnf
     refine ⟨_, takeN_all (cs := u32s x) (by rw [u32s_length, ha]), ?_⟩
     conv => whnf
     refine ⟨⟨u32s_ones x, (by show (u32s x).length = 8; rw [u32s_length, ha]), (by show 0 + 8 ≤ (c8 z8).length; decide)⟩, ?_⟩
     conv => whnf
     refine ⟨u32s x, ?_, ?_⟩
     ·show takeN 8 (setN (c8 z8) 0 (u32s x)) = some (u32s x)
      rw [setN_all (by rw [u32s_length, ha]; rfl)]
      exact takeN_all (by rw [u32s_length, ha])
     conv => whnf
     exact demsP_u32s _ _ rfl
   ·exact weaker_of [(0, 0), (1, 1), (2, 2), (3, 3)] rfl rfl ⟨⟨rfl, rfl⟩, ⟨rfl, rfl⟩, ⟨rfl, rfl⟩, ⟨rfl, rfl⟩, trivial⟩ ⟨u32s_les (c8_eq hh).symm, (show lesP _ (c8 z8) (c8 z8) from c8_les _), u32s_les (c8_eq hv).symm, u32s_les rfl, trivial⟩
 ·exact weaker_of [(0, 0), (1, 1), (2, 2), (3, 3)] rfl rfl ⟨⟨rfl, rfl⟩, ⟨rfl, rfl⟩, ⟨rfl, rfl⟩, ⟨rfl, rfl, rfl, rfl, fun h => h⟩, u32s_les rfl, ⟨rfl, rfl⟩, trivial⟩ ⟨(show lesP _ (c8 h) (c8 h) from c8_les _), (show lesP _ (c8 z8) (c8 z8) from c8_les _), (show lesP _ (c8 h) (c8 h) from c8_les _), u32s_les rfl, trivial⟩
end
end Go.Proofs.Ytbkclacjamlebaa.Abs
