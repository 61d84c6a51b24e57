/- head.Get: what it does. -/
import Derived.Test.YtaefmhdpfmpijaaHC
import Derived.Laws.BitsLemmas
import Derived.Lib.EndianBits
set_option linter.unusedVariables false
set_option linter.unusedSimpArgs false
namespace Go.Proofs.Ytaefmhdpfmpijaa.Abs
open Go
attribute [local irreducible] ifB fitP Does Weaker

def beVal (l : List Int) : Int := l.foldl (fun x c => x * 256 + c) 0
theorem beVal_snoc (l : List Int) (c : Int) : beVal (l ++ [c]) = beVal l * 256 + c := by simp [beVal]
theorem beVal_take {l : List Int} {c : Nat} (h : c < l.length) : beVal (l.take (c + 1)) = beVal (l.take c) * 256 + l[c] := by
  rw [← beVal_snoc, List.take_succ_eq_append_getElem h]
theorem beVal_bound {l : List Int} (h : Byt l) : 0 ≤ beVal l ∧ beVal l < 256 ^ l.length := by
  have : ∀ n, n ≤ l.length → 0 ≤ beVal (l.take n) ∧ beVal (l.take n) < 256 ^ n := by
    intro n
    induction n with
    | zero => simp [beVal]
    | succ n ih =>
      intro hn
      obtain ⟨h0, h1⟩ := ih (by omega)
      rw [beVal_take (by omega)]
      obtain ⟨h2, h3⟩ := h l[n] (by simp)
      rw [Int.pow_succ]
      omega
  simpa using this l.length (Nat.le_refl _)

/-- How many bytes of a number stand behind a first byte. -/
def moreOf (hd : Int) : Nat := if 24 ≤ hd % 32 then 2 ^ (hd % 32 - 24).toNat else 0
/-- The number that a head says. -/
def numOf (hd : Int) (s : List Int) : Int := if 24 ≤ hd % 32 then beVal s else hd % 32

def getR (b : List Int) (at' : Int) : Int × Int × Int × Int :=
  if at' < 0 ∨ (b.length : Int) < at' then (0, 0, 0, 1)
  else if h : at'.toNat < b.length then
    if 27 < b[at'.toNat] % 32 then (0, 0, 0, 3)
    else if b.length < at'.toNat + 1 + moreOf b[at'.toNat] then (0, 0, 0, 3)
    else if 9223372036854775807 < numOf b[at'.toNat] ((b.drop (at'.toNat + 1)).take (moreOf b[at'.toNat])) then (0, 0, 0, 3)
    else if (sizeR (numOf b[at'.toNat] ((b.drop (at'.toNat + 1)).take (moreOf b[at'.toNat])))).1 ≠ moreOf b[at'.toNat] then (0, 0, 0, 3)
    else (b[at'.toNat] / 32, numOf b[at'.toNat] ((b.drop (at'.toNat + 1)).take (moreOf b[at'.toNat])), (at'.toNat + 1 + moreOf b[at'.toNat] : Nat), 0)
  else (0, 0, 0, 3)

def tup4 (r : Int × Int × Int × Int) : AV := .tuple [.int .i64 r.1, .int .i64 r.2.1, .int .i64 r.2.2.1, .int .i64 r.2.2.2]

def PLget : Nat → Bool × Plan := plans [(5, (true, takes [0, 1, 2, 3, 4, 5, 6, 7, 8, 9, 10, 11, 12, 13]))]

/-- The end with four numbers. -/
theorem four_ok {T : Types} {H : Heap} {w x y z : Int} {r : Int × Int × Int × Int} (e : r = (w, x, y, z)) :
    demsP H [tup4 r] [.tuple [.int .i64 w, .int .i64 x, .int .i64 y, .int .i64 z]] fun ids => nodupB ids = true := by
  subst e
  exact ⟨⟨rfl, rfl⟩, ⟨rfl, rfl⟩, ⟨rfl, rfl⟩, ⟨rfl, rfl⟩, rfl⟩

theorem get_ok (b : List Int) (hb : Byt b) (hl : b.length ≤ 1099511627776) (at' : Int) : ACall Try.prog 13 [.ro b.length (bys b), .int .i64 at'] (tup4 (getR b at')) [] := by
  refine ACall.of_does TTok Try.func13 rfl Try.call13 rfl (wpc_sound (M := MH) (PL := PLget) (CU := cutAt [8]) TTok mixed _ _ _ ?_)
  conv => whnf
  refine ifB_dec (fun h1 => ?_) (fun h1 => ?_)
  · conv => whnf
    repeat (refine ifB_t ?_; conv => whnf)
    have e : getR b at' = (0, 0, 0, 1) := by simp [getR, h1]
    exact four_ok (T := TT) e
  conv => whnf
  repeat (refine ifB_f ?_; conv => whnf)
  refine ifB_dec (fun h2 => ?_) (fun h2 => ?_)
  · conv => whnf
    repeat (refine ifB_t ?_; conv => whnf)
    have e : getR b at' = (0, 0, 0, 1) := by simp [getR, h2]
    exact four_ok (T := TT) e
  conv => whnf
  repeat (refine ifB_f ?_; conv => whnf)
  have hat : ∃ k : Nat, at' = k := ⟨at'.toNat, by omega⟩
  obtain ⟨k, rfl⟩ := hat
  refine ifB_dec (fun h3 => ?_) (fun h3 => ?_)
  · conv => whnf
    repeat (refine ifB_t ?_; conv => whnf)
    have e : getR b k = (0, 0, 0, 3) := by
      have hk : ¬ k < b.length := by omega
      simp [getR, h2, hk]
    exact four_ok (T := TT) e
  conv => whnf
  repeat (refine ifB_f ?_; conv => whnf)
  have hk : k < b.length := by omega
  have hbk := hb b[k] (by simp)
  refine ⟨by simp; omega, ?_⟩
  conv => whnf
  repeat (refine ifB_f ?_; conv => whnf)
  refine ⟨_, by simpa using get_bys hk, ?_⟩
  conv => whnf
  repeat (refine ifB_f ?_; conv => whnf)
  have e31 : bits .and .u8 b[k] 31 = b[k] % 32 := u8_and31 _ hbk.1 hbk.2
  refine ifB_dec (fun h4 => ?_) (fun h4 => ?_)
  · conv => whnf
    repeat (refine ifB_t ?_; conv => whnf)
    have e : getR b k = (0, 0, 0, 3) := by
      have h4' : 27 < b[k] % 32 := by rw [e31] at h4; exact h4
      simp [getR, h2, hk, h4']
    exact four_ok (T := TT) e
  conv => whnf
  repeat (refine ifB_f ?_; conv => whnf)
  rw [e31] at h4
  refine ⟨by kernel_rfl, ?_⟩
  conv => whnf
  refine ⟨by simp; omega, ?_⟩
  conv => whnf
  refine ⟨_, by simpa using get_bys hk, ?_⟩
  conv => whnf
  refine ⟨by omega, ?_⟩
  conv => whnf
  have e5 : b[k] / 2 ^ min (Int.toNat 5) IntKind.u8.bits = b[k] / 32 := by
    have : (2 : Int) ^ min (Int.toNat 5) IntKind.u8.bits = 32 := by decide
    rw [this]
  refine fit_i64 (by rw [e5]; omega) ?_
  conv => whnf
  refine ⟨by simp; omega, ?_⟩
  conv => whnf
  refine ⟨_, by simpa using get_bys hk, ?_⟩
  conv => whnf
  refine fit_i64 (by rw [e31]; omega) ?_
  conv => whnf
  refine fit_u64 (by rw [e31]; omega) ?_
  conv => whnf
  refine Does.seqCut (α := Unit) (fun _ => mkSt [(0, .ro b.length (bys b)), (1, .int .i64 k), (4, .int .i64 (b[k] / 32)), (9, .int .i64 (moreOf b[k])), (10, .int .u64 (numOf b[k] []))] [] 0 95) (fun _ => True) ?_ ?_
  · refine wpc_sound (M := MH) (PL := PLget) (CU := noCut) TTok mixed _ _ _ ?_
    conv => whnf
    refine ifB_dec (fun h5 => ?_) (fun h5 => ?_)
    · rw [e31] at h5
      conv => whnf
      refine fit_i64 (by rw [e31]; omega) ?_
      conv => whnf
      refine ⟨by rw [e31]; omega, ?_⟩
      conv => whnf
      have hp : 1 * (2 : Int) ^ min (bits .and .u8 b[k] 31 - 24).toNat IntKind.i64.bits = moreOf b[k] := by
        rw [e31, moreOf, if_pos h5]
        have : (b[k] % 32 - 24).toNat ≤ 3 := by omega
        have e : min (b[k] % 32 - 24).toNat IntKind.i64.bits = (b[k] % 32 - 24).toNat := by simp only [IntKind.bits]; omega
        rw [e]
        simp
      have hm : moreOf b[k] ≤ 8 := by
        rw [moreOf, if_pos h5]
        have : (b[k] % 32 - 24).toNat ≤ 3 := by omega
        exact Nat.le_trans (Nat.pow_le_pow_right (by omega) this) (by decide)
      refine fit_i64 (by rw [hp]; omega) ?_
      conv => whnf
      refine ⟨(), trivial, weaker_of [] rfl rfl ?_ trivial⟩
      exact ⟨⟨rfl, rfl, pureL_bys _⟩, ⟨rfl, rfl⟩, ⟨rfl, e5⟩, ⟨rfl, hp⟩, ⟨rfl, by simp [numOf, h5, beVal]⟩, trivial⟩
    · rw [e31] at h5
      conv => whnf
      refine ⟨(), trivial, weaker_of [] rfl rfl ?_ trivial⟩
      exact ⟨⟨rfl, rfl, pureL_bys _⟩, ⟨rfl, rfl⟩, ⟨rfl, e5⟩, ⟨rfl, by simp [moreOf, h5]⟩, ⟨rfl, by simp [numOf, h5, e31]⟩, trivial⟩
  rintro ⟨⟩ -
  have hm : moreOf b[k] ≤ 8 := by
    unfold moreOf
    split
    · have : (b[k] % 32 - 24).toNat ≤ 3 := by omega
      exact Nat.le_trans (Nat.pow_le_pow_right (by omega) this) (by decide)
    · omega
  refine wpc_sound (M := MH) (PL := PLget) (CU := noCut) TTok mixed _ _ _ ?_
  conv => whnf
  refine fit_i64 ⟨by omega, by omega⟩ ?_
  conv => whnf
  refine fit_i64 ⟨by omega, by omega⟩ ?_
  conv => whnf
  refine ifB_dec (fun h6 => ?_) (fun h6 => ?_)
  · conv => whnf
    have e : getR b k = (0, 0, 0, 3) := by
      have h6' : b.length < k + 1 + moreOf b[k] := by omega
      simp [getR, h2, hk, h4, h6']
    exact four_ok (T := TT) e
  conv => whnf
  refine fit_i64 ⟨by omega, by omega⟩ ?_
  conv => whnf
  refine ⟨⟨by simp, by omega, by omega, by omega⟩, ?_⟩
  conv => whnf
  obtain ⟨s, hs⟩ : ∃ s, s = (b.drop (k + 1)).take (moreOf b[k]) := ⟨_, rfl⟩
  have hsl : s.length = moreOf b[k] := by rw [hs]; simp; omega
  have hsb : Byt s := fun x hx => hb x (by rw [hs] at hx; exact List.mem_of_mem_drop (List.mem_of_mem_take hx))
  have hnum : ∀ c, c ≤ moreOf b[k] → 0 ≤ numOf b[k] (s.take c) ∧ numOf b[k] (s.take c) < 256 ^ (c + 1) := by
    intro c hc
    unfold numOf
    split
    · have := beVal_bound (l := s.take c) (fun x hx => hsb x (List.mem_of_mem_take hx))
      rw [List.length_take, Nat.min_eq_left (by omega)] at this
      rw [Int.pow_succ]
      omega
    · rw [Int.pow_succ]
      have : (0 : Int) < 256 ^ c := Int.pow_pos (by omega)
      omega
  refine Does.loop (fun c : Nat => mkSt [(0, .ro b.length (bys b)), (1, .int .i64 k), (4, .int .i64 (b[k] / 32)), (6, .int .i64 ((k : Int) + 1 + moreOf b[k])), (9, .int .i64 (moreOf b[k])), (10, .int .u64 (numOf b[k] (s.take c))),
      (68, .ro (moreOf b[k]) (bys s)), (69, .int .i64 (moreOf b[k])), (70, .int .i64 c)] [] 0 95)
    (fun c => c ≤ moreOf b[k]) (fun c => moreOf b[k] - c) ?_ 0 (Nat.zero_le _) ?_
  · intro c hc
    refine wpc_sound (M := MH) (PL := PLget) (CU := noCut) TTok mixed _ _ _ ?_
    conv => whnf
    refine ifB_dec (fun h => ?_) (fun h => ?_)
    · have hcs : c < s.length := by omega
      have hsc := hsb s[c] (by simp)
      have h24 : 24 ≤ b[k] % 32 := by
        unfold moreOf at hsl
        split at hsl
        · assumption
        · omega
      conv => whnf
      refine ⟨by simp; omega, ?_⟩
      conv => whnf
      refine ⟨_, by simpa using get_bys hcs, ?_⟩
      conv => whnf
      have hv := beVal_bound (l := s.take c) (fun x hx => hsb x (List.mem_of_mem_take hx))
      rw [List.length_take, Nat.min_eq_left (by omega)] at hv
      have hp7 : (256 : Int) ^ c ≤ 72057594037927936 := by
        have : c = 0 ∨ c = 1 ∨ c = 2 ∨ c = 3 ∨ c = 4 ∨ c = 5 ∨ c = 6 ∨ c = 7 := by omega
        rcases this with rfl | rfl | rfl | rfl | rfl | rfl | rfl | rfl <;> decide
      have hnv : ∀ t : List Int, numOf b[k] t = beVal t := fun t => by simp [numOf, h24]
      have e8 : (2 : Int) ^ min (Int.toNat 8) IntKind.u64.bits = 256 := by decide
      refine ⟨by omega, ?_⟩
      refine fit_u64 (by rw [hnv, e8]; omega) ?_
      conv => whnf
      refine fit_u64 (by omega) ?_
      conv => whnf
      refine fit_i64 ⟨by omega, by omega⟩ ?_
      conv => whnf
      refine ⟨c + 1, by omega, by omega, weaker_of [] rfl rfl ?_ trivial⟩
      refine ⟨⟨rfl, rfl, pureL_bys _⟩, ⟨rfl, rfl⟩, ⟨rfl, rfl⟩, ⟨rfl, rfl⟩, ⟨rfl, rfl⟩, ⟨rfl, ?_⟩, ⟨rfl, rfl, pureL_bys _⟩, ⟨rfl, rfl⟩, ⟨rfl, rfl⟩, trivial⟩
      show bits .or .u64 (numOf b[k] (s.take c) * 2 ^ min (Int.toNat 8) IntKind.u64.bits) s[c] = numOf b[k] (s.take (c + 1))
      rw [hnv, hnv, e8, beVal_take hcs]
      exact bits_join .u64 64 (by decide) wraps_u64 8 _ _ (by omega) (by omega) (by omega) hsc.1 (by omega) (by omega)
    · have hcB : c = moreOf b[k] := by omega
      have hfull : s.take c = s := by rw [hcB, ← hsl, List.take_length]
      have hnn := (hnum c hc).1
      conv => whnf
      rw [hfull] at *
      refine ifB_dec (fun h7 => ?_) (fun h7 => ?_)
      · conv => whnf
        have e : getR b k = (0, 0, 0, 3) := by
          have h6' : ¬ b.length < k + 1 + moreOf b[k] := by omega
          rw [hs] at h7
          simp [getR, h2, hk, h4, h6', h7]
        exact four_ok (T := TT) e
      conv => whnf
      refine fit_i64 ⟨by omega, by omega⟩ ?_
      conv => whnf
      refine ⟨rfl, ?_⟩
      conv => whnf
      refine ⟨rfl, _, _, size_ok _, rfl, ?_⟩
      conv => whnf
      refine ifB_dec (fun h8 => ?_) (fun h8 => ?_)
      · conv => whnf
        have e : getR b k = (0, 0, 0, 3) := by
          have h6' : ¬ b.length < k + 1 + moreOf b[k] := by omega
          rw [hs] at h7 h8
          have h8' : ¬ (sizeR (numOf b[k] ((b.drop (k + 1)).take (moreOf b[k])))).1 = moreOf b[k] := by omega
          simp [getR, h2, hk, h4, h6', h7, h8']
        exact four_ok (T := TT) e
      conv => whnf
      refine fit_i64 ⟨by omega, by omega⟩ ?_
      conv => whnf
      have e : getR b k = (b[k] / 32, numOf b[k] s, (k : Int) + 1 + moreOf b[k], 0) := by
        have h6' : ¬ b.length < k + 1 + moreOf b[k] := by omega
        rw [hs] at h7 h8 ⊢
        have h8' : (sizeR (numOf b[k] ((b.drop (k + 1)).take (moreOf b[k])))).1 = moreOf b[k] := by omega
        simp [getR, h2, hk, h4, h6', h7, h8']
      exact four_ok (T := TT) e
  · refine weaker_of [] rfl rfl ?_ trivial
    refine ⟨⟨rfl, rfl, pureL_bys _⟩, ⟨rfl, rfl⟩, ⟨rfl, rfl⟩, ⟨rfl, rfl⟩, ⟨rfl, rfl⟩, ⟨rfl, rfl⟩, ⟨?_, ?_, pureL_bys _⟩, ⟨rfl, ?_⟩, ⟨rfl, rfl⟩, trivial⟩
    · show lenB (some ((k : Int) + 1)) (some ((k : Int) + 1 + moreOf b[k])) b.length = moreOf b[k]
      simp [lenB]; omega
    · show cutB (bys b) (some ((k : Int) + 1)) (some ((k : Int) + 1 + moreOf b[k])) 1 = bys s
      rw [hs, ← bys_take, ← bys_drop]
      have e1 : ((k : Int) + 1).toNat = k + 1 := by omega
      have e2 : ((k : Int) + 1 + moreOf b[k]).toNat - (k + 1) = moreOf b[k] := by omega
      simp [cutB, e1, e2]
    · show ((lenB (some ((k : Int) + 1)) (some ((k : Int) + 1 + moreOf b[k])) b.length : Nat) : Int) = moreOf b[k]
      simp [lenB]; omega

end Go.Proofs.Ytaefmhdpfmpijaa.Abs
