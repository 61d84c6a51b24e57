/- Texts HA to CW, merged. -/
import Derived.Laws.BitsLemmas
import Derived.Lib.EndianBits
import Derived.ChangeShapes
import Derived.Test.YtbkclacjamlebaaGreatDoorV5
set_option linter.unusedVariables false
set_option linter.unusedSimpArgs false
namespace Go.Proofs.YtbkclacjamlebaaGreatDoor.Abs
open Go
section

attribute [local irreducible] ifB fitP Does Weaker
def M0 : FuncId → List Mode := fun _ => []
def PL0 : Nat → Bool × Plan := fun _ => (true, .done)
def byteAt (n : Int) (i : Nat) : Int := (n / 2 ^ (8 * i)) % 256
def beAcc (n : Int) (size c : Nat) : List Int := (List.range c).map fun j => byteAt n (size - 1 - j)
@[simp] theorem beAcc_length (n : Int) (size c : Nat) : (beAcc n size c).length = c := by simp [beAcc]
theorem beAcc_succ (n : Int) (size c : Nat) : beAcc n size (c + 1) = beAcc n size c ++ [byteAt n (size - 1 - c)] := by
 simp [beAcc, List.range_succ]
theorem byteAt_shr (n : Int) (size c : Nat) (hs : size ≤ 8) (hc : c < size) :
  IntKind.u8.wrap (n / 2 ^ min (8 * ((size : Int) - 1 - c)).toNat IntKind.i64.bits) = byteAt n (size - 1 - c) := by
 have : min (8 * ((size : Int) - 1 - c)).toNat IntKind.i64.bits = 8 * (size - 1 - c) := by
  simp only [IntKind.bits]; omega
 rw [this, wrap_u8]
 rfl
theorem be_ok (n : Int) (size : Nat) (hs : size ≤ 8) : ACall Tryz.prog 137 [.int .i64 n, .int .i64 size] (.own size 1 (bys (beAcc n size size))) [] := by
 refine ACall.of_does TTok Tryz.func137 rfl Tryz.call137 rfl (wpc_sound (M := M0) (PL := PL0) (CU := noCut) TTok mixed _ _ _ ?_)
 conv => whnf
 refine fit_i64 ⟨by omega, by omega⟩ ?_
 conv => whnf
 refine Does.loop (fun c : Nat => mkSt [(0, .int .i64 n), (1, .int .i64 size), (6, .int .i64 ((size : Int) - 1 - c)), (5, .sl 0 0 c 1 false)] [(0, bys (beAcc n size c))] 1 23)
  (fun c => c ≤ size) (fun c => size - c) ?_ 0 (Nat.zero_le _) ?_
 ·intro c hc
  refine wpc_sound (M := M0) (PL := PL0) (CU := noCut) TTok mixed _ _ _ ?_
  conv => whnf
  refine ifB_dec (fun h => ?_) (fun h => ?_)
  ·conv => whnf
   refine fit_i64 ⟨by omega, by omega⟩ ?_
   conv => whnf
   refine fit_u64 ⟨by omega, by omega⟩ ?_
   conv => whnf
   refine ⟨by omega, ?_⟩
   conv => whnf
   refine fit_wrap ?_
   conv => whnf
   refine Or.inl ⟨⟨rfl, rfl, rfl⟩, ?_⟩
   conv => whnf
   refine ⟨rfl, ?_⟩
   conv => whnf
   refine ⟨⟨rfl, rfl, by simp, by simp [limB]; omega⟩, ?_⟩
   conv => whnf
   refine fit_i64 ⟨by omega, by omega⟩ ?_
   conv => whnf
   refine ⟨c + 1, by omega, by omega, weaker_of [(0, 2)] rfl rfl ?_ ?_⟩
   ·refine ⟨⟨rfl, rfl⟩, ⟨rfl, rfl⟩, ⟨rfl, ?_⟩, ⟨rfl, rfl, rfl, rfl, id⟩, trivial⟩
    show (size : Int) - 1 - c - 1 = size - 1 - (c + 1 : Nat)
    omega
   ·refine ⟨lesP_bys ?_, trivial⟩
    show bys (beAcc n size c) ++ [.int .u8 _] = bys (beAcc n size (c + 1))
    rw [byteAt_shr n size c hs (by omega), bys_snoc, beAcc_succ]
  ·conv => whnf
   have hcs : c = size := by omega
   subst hcs
   refine ⟨⟨rfl, rfl, rfl, by simp, pureL_bys _⟩, ?_⟩
   rfl
 ·refine weaker_of [] rfl rfl ?_ ?_
  ·refine ⟨⟨rfl, rfl⟩, ⟨rfl, rfl⟩, ⟨rfl, ?_⟩, rfl, trivial⟩
   show (size : Int) - 1 = size - 1 - (0 : Nat)
   omega
  ·exact ⟨rfl, trivial⟩
theorem clone_ok (l : List Int) (hl : l.length ≤ 17592186044416) : ACall Tryz.prog 113 [.ro l.length (bys l)] (.own l.length 1 (bys l)) [] := by
 refine ACall.of_does TTok Tryz.func113 rfl Tryz.call113 rfl (wpc_sound (M := M0) (PL := PL0) (CU := noCut) TTok mixed _ _ _ ?_)
 conv => whnf
 refine ⟨fun h => ?_, ?_⟩
 ·conv => whnf
  refine ifB_t ?_
  conv => whnf
  have h0 : l = [] := bys_nil h
  subst h0
  exact ⟨⟨rfl, rfl⟩, rfl⟩
 ·conv => whnf
  refine ifB_f ?_
  conv => whnf
  refine ⟨by simp, ?_⟩
  conv => whnf
  refine ⟨ones_bys l, ?_⟩
  conv => whnf
  refine ⟨⟨rfl, by simp, Or.inl rfl, by simp [limB]; omega⟩, ?_⟩
  conv => whnf
  refine ⟨⟨by simp, rfl, ?_, by simp, pureL_bys _⟩, ?_⟩
  ·rfl
  ·rfl
theorem twin_ok (l : List Int) (hl : l.length ≤ 17592186044416) : ACall Tryz.prog 45 [.ro l.length (bys l)] (.own l.length 1 (bys l)) [] := by
 refine ACall.of_does TTok Tryz.func45 rfl Tryz.call45 rfl (wpc_sound (M := M0) (PL := PL0) (CU := noCut) TTok mixed _ _ _ ?_)
 conv => whnf
 refine ⟨by simp, ?_⟩
 conv => whnf
 refine ⟨ones_bys l, ?_⟩
 conv => whnf
 refine ⟨by simp [limB]; omega, ?_⟩
 conv => whnf
 refine ⟨⟨rfl, rfl, rfl, by simp, pureL_bys _⟩, ?_⟩
 rfl
theorem in_ok (n lo hi : Int) : ACall Tryz.prog 49 [.int .i64 n, .int .i64 lo, .int .i64 hi] (.bool (decide (lo ≤ n ∧ n ≤ hi))) [] := by
 refine ACall.of_does TTok Tryz.func49 rfl Tryz.call49 rfl (wpc_sound (M := M0) (PL := PL0) (CU := noCut) TTok mixed _ _ _ ?_)
 conv => whnf
 refine ifB_dec (fun h => ?_) (fun h => ?_)
 ·conv => whnf
  repeat (refine ifB_t ?_; conv => whnf)
  exact ⟨by simp [h], rfl⟩
 ·conv => whnf
  repeat (refine ifB_f ?_; conv => whnf)
  exact ⟨by simp [h], rfl⟩
def sizeR (n : Int) : Nat × Int := if n < 24 then (0, n) else if n < 256 then (1, 24) else if n < 65536 then (2, 25) else if n < 4294967296 then (4, 26) else (8, 27)
theorem size_ok (n : Int) : ACall Tryz.prog 153 [.int .i64 n] (.tuple [.int .i64 (sizeR n).1, .int .i64 (sizeR n).2]) [] := by
 refine ACall.of_does TTok Tryz.func153 rfl Tryz.call153 rfl (wpc_sound (M := M0) (PL := PL0) (CU := noCut) TTok mixed _ _ _ ?_)
 conv => whnf
 refine ifB_dec (fun h1 => ?_) (fun h1 => ?_)
 ·conv => whnf
  refine ⟨⟨rfl, by simp [sizeR, h1]⟩, ?_⟩
  conv => whnf
  exact ⟨⟨rfl, by simp [sizeR, h1]⟩, rfl⟩
 conv => whnf
 refine ifB_dec (fun h2 => ?_) (fun h2 => ?_)
 ·conv => whnf
  refine ⟨⟨rfl, by simp [sizeR, h1, h2]⟩, ?_⟩
  conv => whnf
  exact ⟨⟨rfl, by simp [sizeR, h1, h2]⟩, rfl⟩
 conv => whnf
 refine ifB_dec (fun h3 => ?_) (fun h3 => ?_)
 ·conv => whnf
  refine ⟨⟨rfl, by simp [sizeR, h1, h2, h3]⟩, ?_⟩
  conv => whnf
  exact ⟨⟨rfl, by simp [sizeR, h1, h2, h3]⟩, rfl⟩
 conv => whnf
 refine ifB_dec (fun h4 => ?_) (fun h4 => ?_)
 ·conv => whnf
  refine ⟨⟨rfl, by simp [sizeR, h1, h2, h3, h4]⟩, ?_⟩
  conv => whnf
  exact ⟨⟨rfl, by simp [sizeR, h1, h2, h3, h4]⟩, rfl⟩
 conv => whnf
 refine ⟨⟨rfl, by simp [sizeR, h1, h2, h3, h4]⟩, ?_⟩
 conv => whnf
 exact ⟨⟨rfl, by simp [sizeR, h1, h2, h3, h4]⟩, rfl⟩
end
section

attribute [local irreducible] ifB fitP Does Weaker
def MH : FuncId → List Mode := modes [(153, [.rd]), (113, [.bw]), (137, [.rd, .rd]), (49, [.rd, .rd, .rd]), (45, [.bw]),
 (167, [.bw, .rd, .rd]), (118, [.rd, .rd]), (25, [.bw, .bw]), (44, [.mv 1]), (135, [.bw, .rd]), (999999, [.bw, .rd])]
theorem sizeR_le (n : Int) (h : 0 ≤ n) : (sizeR n).1 ≤ 8 ∧ 0 ≤ (sizeR n).2 ∧ (sizeR n).2 < 32 := by
 unfold sizeR
 repeat' split
 all_goals simp
 omega
def putL (major n : Int) : List Int := (major * 32 + (sizeR n).2) :: beAcc n (sizeR n).1 (sizeR n).1
theorem wrap_i64_63 (n : Int) (h0 : 0 ≤ n) (h1 : n < 2 ^ 63) : IntKind.i64.wrap n = n := wrap_in (k := .i64) (by simp [IntKind.lo]; omega) (by simp [IntKind.hi]; omega)
theorem put_bad (b : List Int) (major n : Int) (h : major < 0 ∨ 8 ≤ major ∨ n < 0) : ACall Tryz.prog 167 [.ro b.length (bys b), .int .i64 major, .int .i64 n] (.tuple [.own 0 1 [], .int .i64 1]) [] := by
 refine ACall.of_does TTok Tryz.func167 rfl Tryz.call167 rfl (wpc_sound (M := MH) (PL := PL0) (CU := noCut) TTok mixed _ _ _ ?_)
 conv => whnf
 refine ifB_dec (fun h1 => ?_) (fun h1 => ?_)
 ·conv => whnf
  repeat (refine ifB_t ?_; conv => whnf)
  exact ⟨⟨rfl, rfl⟩, ⟨rfl, rfl⟩, rfl⟩
 conv => whnf
 repeat (refine ifB_f ?_; conv => whnf)
 refine ifB_dec (fun h2 => ?_) (fun h2 => ?_)
 ·conv => whnf
  repeat (refine ifB_t ?_; conv => whnf)
  exact ⟨⟨rfl, rfl⟩, ⟨rfl, rfl⟩, rfl⟩
 conv => whnf
 repeat (refine ifB_f ?_; conv => whnf)
 refine ifB_dec (fun h3 => ?_) (fun h3 => ?_)
 ·conv => whnf
  repeat (refine ifB_t ?_; conv => whnf)
  exact ⟨⟨rfl, rfl⟩, ⟨rfl, rfl⟩, rfl⟩
 omega
theorem put_ok (b : List Int) (hb : b.length ≤ 1048576) (major n : Int) (h0 : 0 ≤ major) (h1 : major < 8) (h2 : 0 ≤ n) (h3 : n < 9223372036854775808) :
  ACall Tryz.prog 167 [.ro b.length (bys b), .int .i64 major, .int .i64 n] (.tuple [.own (b ++ putL major n).length 1 (bys (b ++ putL major n)), .int .i64 0]) [] := by
 obtain ⟨s1, s2, s3⟩ := sizeR_le n h2
 refine ACall.of_does TTok Tryz.func167 rfl Tryz.call167 rfl (wpc_sound (M := MH) (PL := PL0) (CU := noCut) TTok mixed _ _ _ ?_)
 conv => whnf
 refine ifB_neg (by simp; omega) ?_
 conv => whnf
 repeat (refine ifB_f ?_; conv => whnf)
 refine ifB_neg (by simp; omega) ?_
 conv => whnf
 repeat (refine ifB_f ?_; conv => whnf)
 refine ifB_neg (by simp; omega) ?_
 conv => whnf
 repeat (refine ifB_f ?_; conv => whnf)
 refine ⟨rfl, ?_⟩
 conv => whnf
 refine ⟨rfl, _, _, size_ok n, rfl, ?_⟩
 conv => whnf
 refine ⟨pureL_bys b, ?_⟩
 conv => whnf
 refine ⟨rfl, _, _, clone_ok b (by omega), rfl, ?_⟩
 conv => whnf
 refine ⟨by omega, ?_⟩
 conv => whnf
 have e5 : (2 : Int) ^ min (Int.toNat 5) IntKind.i64.bits = 32 := by decide
 refine fit_i64 (by rw [e5]; omega) ?_
 conv => whnf
 refine fit_wrap ?_
 conv => whnf
 refine Or.inl ⟨⟨rfl, rfl, rfl⟩, ?_⟩
 conv => whnf
 refine ⟨rfl, ?_⟩
 conv => whnf
 refine ⟨⟨rfl, rfl, by simp, by simp [limB]; omega⟩, ?_⟩
 conv => whnf
 refine fit_i64 ⟨by omega, by omega⟩ ?_
 conv => whnf
 have hor : IntKind.u8.wrap (bits .or .i64 (major * 2 ^ min (Int.toNat 5) IntKind.i64.bits) (sizeR n).2) = major * 32 + (sizeR n).2 := by
  rw [e5, bits_join .i64 63 (by decide) wrap_i64_63 5 (major * 32) (sizeR n).2 (by omega) (by omega) (by omega) s2 (by omega) (by omega), wrap_u8]
  omega
 refine Does.loop (fun c : Nat => mkSt [(2, .int .i64 n), (11, .int .i64 (((sizeR n).1 : Int) - 1 - c)), (10, .sl 0 0 (b.length + 1 + c) 1 false)]
   [(0, bys (b ++ [major * 32 + (sizeR n).2] ++ beAcc n (sizeR n).1 c))] 1 51)
  (fun c => c ≤ (sizeR n).1) (fun c => (sizeR n).1 - c) ?_ 0 (Nat.zero_le _) ?_
 ·intro c hc
  refine wpc_sound (M := MH) (PL := PL0) (CU := noCut) TTok mixed _ _ _ ?_
  conv => whnf
  refine ifB_dec (fun h => ?_) (fun h => ?_)
  ·conv => whnf
   refine fit_i64 ⟨by omega, by omega⟩ ?_
   conv => whnf
   refine ⟨by omega, ?_⟩
   conv => whnf
   refine fit_wrap ?_
   conv => whnf
   refine Or.inl ⟨⟨rfl, rfl, rfl⟩, ?_⟩
   conv => whnf
   refine ⟨rfl, ?_⟩
   conv => whnf
   refine ⟨⟨rfl, rfl, by simp; omega, by simp [limB]; omega⟩, ?_⟩
   conv => whnf
   refine fit_i64 ⟨by omega, by omega⟩ ?_
   conv => whnf
   refine ⟨c + 1, by omega, by omega, weaker_of [(0, 2)] rfl rfl ?_ ?_⟩
   ·refine ⟨⟨rfl, rfl⟩, ⟨rfl, ?_⟩, ⟨rfl, rfl, rfl, rfl, id⟩, trivial⟩
    show ((sizeR n).1 : Int) - 1 - c - 1 = (sizeR n).1 - 1 - (c + 1 : Nat)
    omega
   ·refine ⟨lesP_bys ?_, trivial⟩
    show bys (b ++ [major * 32 + (sizeR n).2] ++ beAcc n (sizeR n).1 c) ++ [.int .u8 _] = bys (b ++ [major * 32 + (sizeR n).2] ++ beAcc n (sizeR n).1 (c + 1))
    rw [byteAt_shr n (sizeR n).1 c s1 (by omega), bys_snoc, beAcc_succ]
    simp
  ·conv => whnf
   have hcs : c = (sizeR n).1 := by omega
   refine ⟨⟨by simp [putL]; omega, rfl, by rw [hcs]; simp [putL], by simp, pureL_bys _⟩, ?_⟩
   conv => whnf
   exact ⟨⟨rfl, rfl⟩, rfl⟩
 ·refine weaker_of [(0, 2)] rfl rfl ?_ ?_
  ·refine ⟨⟨rfl, rfl⟩, ⟨rfl, ?_⟩, ⟨rfl, rfl, rfl, rfl, id⟩, trivial⟩
   show ((sizeR n).1 : Int) - 1 = (sizeR n).1 - 1 - (0 : Nat)
   omega
  ·refine ⟨lesP_bys ?_, trivial⟩
   show bys b ++ [.int .u8 _] = _
   rw [hor, bys_snoc]
   simp [beAcc]
def putS (b : List Int) (major n : Int) : List Int × Int := if major < 0 ∨ 8 ≤ major ∨ n < 0 then ([], 1) else (b ++ putL major n, 0)
theorem put_any (b : List Int) (hb : b.length ≤ 1048576) (major n : Int) (h3 : n < 9223372036854775808) :
  ACall Tryz.prog 167 [.ro b.length (bys b), .int .i64 major, .int .i64 n] (.tuple [.own (putS b major n).1.length 1 (bys (putS b major n).1), .int .i64 (putS b major n).2]) [] := by
 by_cases h : major < 0 ∨ 8 ≤ major ∨ n < 0
 ·simp only [putS, if_pos h]
  exact put_bad b major n h
 ·simp only [putS, if_neg h]
  exact put_ok b hb major n (by omega) (by omega) (by omega) h3
end
section

attribute [local irreducible] ifB fitP Does Weaker
def PLbytes : Nat → Bool × Plan := plans [(6, (true, takes [0, 1, 2, 3, 4, 5, 6, 7, 8]))]
theorem bytes_ok (x y : List Int) (hx : x.length ≤ 1099511627776) : ACall Tryz.prog 25 [.ro x.length (bys x), .ro y.length (bys y)] (.bool (decide (x = y))) [] := by
 refine ACall.of_does TTok Tryz.func25 rfl Tryz.call25 rfl (wpc_sound (M := MH) (PL := PLbytes) (CU := noCut) TTok mixed _ _ _ ?_)
 conv => whnf
 refine ifB_dec (fun h => ?_) (fun h => ?_)
 ·conv => whnf
  refine ⟨?_, rfl⟩
  have : x ≠ y := fun e => h (by rw [e])
  simp [this]
 have hl : x.length = y.length := by omega
 conv => whnf
 refine Does.loop (fun c : Nat => mkSt [(0, .ro x.length (bys x)), (1, .ro y.length (bys y)), (5, .int .i64 c)] [] 0 26)
  (fun c => c ≤ x.length ∧ ∀ (j : Nat) (h1 : j < x.length) (h2 : j < y.length), j < c → x[j] = y[j]) (fun c => x.length - c) ?_ 0 ⟨Nat.zero_le _, fun j _ _ h => by omega⟩ ?_
 ·intro c hc
  refine wpc_sound (M := MH) (PL := PLbytes) (CU := noCut) TTok mixed _ _ _ ?_
  conv => whnf
  refine ifB_dec (fun h => ?_) (fun h => ?_)
  ·have h1 : c < x.length := by omega
   have h2 : c < y.length := by omega
   conv => whnf
   refine ⟨by kernel_rfl, ?_⟩
   conv => whnf
   refine ⟨by simp; omega, ?_⟩
   conv => whnf
   refine ⟨_, by simpa using get_bys h1, ?_⟩
   conv => whnf
   refine ⟨by simp; omega, ?_⟩
   conv => whnf
   refine ⟨_, by simpa using get_bys h2, ?_⟩
   conv => whnf
   refine ifB_dec (fun hne => ?_) (fun he => ?_)
   ·conv => whnf
    refine ⟨?_, rfl⟩
    have : x ≠ y := fun e => by subst e; exact hne rfl
    simp [this]
   ·conv => whnf
    refine fit_i64 ⟨by omega, by omega⟩ ?_
    conv => whnf
    refine ⟨c + 1, ⟨by omega, fun j k1 k2 hj => ?_⟩, by omega, weaker_of [] rfl rfl ?_ trivial⟩
    ·rcases Nat.lt_or_ge j c with hjc | hjc
     ·exact hc.2 j k1 k2 hjc
     ·obtain rfl : j = c := by omega
      exact Classical.not_not.1 he
    ·exact ⟨⟨rfl, rfl, pureL_bys _⟩, ⟨rfl, rfl, pureL_bys _⟩, ⟨rfl, rfl⟩, trivial⟩
  ·conv => whnf
   refine ⟨?_, rfl⟩
   have : x = y := List.ext_getElem hl fun j k1 k2 => hc.2 j k1 k2 (by omega)
   simp [this]
 ·refine weaker_of [] rfl rfl ?_ ?_
  ·exact ⟨⟨rfl, rfl, pureL_bys _⟩, ⟨rfl, rfl, pureL_bys _⟩, ⟨rfl, rfl⟩, trivial⟩
  ·exact trivial
end
section

attribute [local irreducible] ifB fitP Does Weaker
def beVal (l : List Int) : Int := l.foldl (fun x c => x * 256 + c) 0
theorem beVal_snoc (l : List Int) (c : Int) : beVal (l ++ [c]) = beVal l * 256 + c := by simp [beVal]
def moreOf (hd : Int) : Nat := if 24 ≤ hd % 32 then 2 ^ (hd % 32 - 24).toNat else 0
def numOf (hd : Int) (s : List Int) : Int := if 24 ≤ hd % 32 then beVal s else hd % 32
def getR (b : List Int) (at' : Int) : Int × Int × Int × Int :=
 if at' < 0 ∨ (b.length : Int) < at' then (0, 0, 0, 1)
 else if h : at'.toNat < b.length then
  if 27 < b[at'.toNat] % 32 then (0, 0, 0, 3)
  else if b.length < at'.toNat + 1 + moreOf b[at'.toNat] then (0, 0, 0, 3)
  else if 9223372036854775807 < numOf b[at'.toNat] ((b.drop (at'.toNat + 1)).take (moreOf b[at'.toNat])) then (0, 0, 0, 3)
  else if (sizeR (numOf b[at'.toNat] ((b.drop (at'.toNat + 1)).take (moreOf b[at'.toNat])))).1 ≠ moreOf b[at'.toNat] then (0, 0, 0, 3)
  else (b[at'.toNat] / 32, numOf b[at'.toNat] ((b.drop (at'.toNat + 1)).take (moreOf b[at'.toNat])), (at'.toNat + 1 + moreOf b[at'.toNat] : Nat), 0)
 else (0, 0, 0, 3)
end
section

attribute [local irreducible] ifB fitP Does Weaker
theorem refHead_ok (major n : Int) (h0 : 0 ≤ major) (h1 : major < 8) (h2 : 0 ≤ n) : ACall Tryz.prog 118 [.int .i64 major, .int .i64 n] (.own (putL major n).length 1 (bys (putL major n))) [] := by
 have e5 : (2 : Int) ^ min (Int.toNat 5) IntKind.i64.bits = 32 := by decide
 have e8 : IntKind.u8.wrap (major * 2 ^ min (Int.toNat 5) IntKind.i64.bits) = major * 32 := by rw [e5, wrap_u8]; omega
 have hor : ∀ y : Int, 0 ≤ y → y < 32 → bits .or .u8 (IntKind.u8.wrap (major * 2 ^ min (Int.toNat 5) IntKind.i64.bits)) y = major * 32 + y := fun y k0 k1 => by
  rw [e8]
  exact bits_join .u8 8 (by decide) wraps_u8 5 _ _ (by omega) (by omega) (by omega) k0 (by omega) (by omega)
 refine ACall.of_does TTok Tryz.func118 rfl Tryz.call118 rfl (wpc_sound (M := MH) (PL := PL0) (CU := noCut) TTok mixed _ _ _ ?_)
 conv => whnf
 refine ⟨by omega, ?_⟩
 conv => whnf
 refine fit_i64 (by rw [e5]; omega) ?_
 conv => whnf
 refine fit_wrap ?_
 conv => whnf
 refine ifB_dec (fun h3 => ?_) (fun h3 => ?_)
 ·conv => whnf
  refine fit_u8 ⟨by omega, by omega⟩ ?_
  conv => whnf
  have ep : putL major n = [major * 32 + n] := by simp [putL, sizeR, h3, beAcc]
  refine ⟨⟨by simp [ep], rfl, ?_, by simp, pureL_bys _⟩, rfl⟩
  show [AV.int .u8 _] = _
  rw [ep, hor n h2 (by omega)]
  rfl
 conv => whnf
 refine ifB_dec (fun h4 => ?_) (fun h4 => ?_)
 ·skip
  conv => whnf
  repeat (refine ⟨rfl, ?_⟩; conv => whnf)
  refine ⟨_, _, be_ok n 1 (by omega), rfl, ?_⟩
  conv => whnf
  refine Or.inl ⟨⟨rfl, rfl, by simp⟩, ?_⟩
  conv => whnf
  refine ⟨ones_bys _, ?_⟩
  conv => whnf
  refine ⟨⟨rfl, by simp, Or.inr (by omega), by simp [limB]⟩, ?_⟩
  conv => whnf
  have ep : putL major n = (major * 32 + 24) :: beAcc n 1 1 := by simp [putL, sizeR, h3, h4]
  refine ⟨⟨by simp [ep], rfl, ?_, by simp, pureL_bys _⟩, rfl⟩
  show [AV.int .u8 (bits .or .u8 (IntKind.u8.wrap (major * 2 ^ min (Int.toNat 5) IntKind.i64.bits)) 24)] ++ bys (beAcc n 1 1) = _
  rw [ep, hor 24 (by omega) (by omega)]
  rfl
 conv => whnf
 refine ifB_dec (fun h5 => ?_) (fun h5 => ?_)
 ·skip
  conv => whnf
  repeat (refine ⟨rfl, ?_⟩; conv => whnf)
  refine ⟨_, _, be_ok n 2 (by omega), rfl, ?_⟩
  conv => whnf
  refine Or.inl ⟨⟨rfl, rfl, by simp⟩, ?_⟩
  conv => whnf
  refine ⟨ones_bys _, ?_⟩
  conv => whnf
  refine ⟨⟨rfl, by simp, Or.inr (by omega), by simp [limB]⟩, ?_⟩
  conv => whnf
  have ep : putL major n = (major * 32 + 25) :: beAcc n 2 2 := by simp [putL, sizeR, h3, h4, h5]
  refine ⟨⟨by simp [ep], rfl, ?_, by simp, pureL_bys _⟩, rfl⟩
  show [AV.int .u8 (bits .or .u8 (IntKind.u8.wrap (major * 2 ^ min (Int.toNat 5) IntKind.i64.bits)) 25)] ++ bys (beAcc n 2 2) = _
  rw [ep, hor 25 (by omega) (by omega)]
  rfl
 conv => whnf
 refine ifB_dec (fun h6 => ?_) (fun h6 => ?_)
 ·skip
  conv => whnf
  repeat (refine ⟨rfl, ?_⟩; conv => whnf)
  refine ⟨_, _, be_ok n 4 (by omega), rfl, ?_⟩
  conv => whnf
  refine Or.inl ⟨⟨rfl, rfl, by simp⟩, ?_⟩
  conv => whnf
  refine ⟨ones_bys _, ?_⟩
  conv => whnf
  refine ⟨⟨rfl, by simp, Or.inr (by omega), by simp [limB]⟩, ?_⟩
  conv => whnf
  have ep : putL major n = (major * 32 + 26) :: beAcc n 4 4 := by simp [putL, sizeR, h3, h4, h5, h6]
  refine ⟨⟨by simp [ep], rfl, ?_, by simp, pureL_bys _⟩, rfl⟩
  show [AV.int .u8 (bits .or .u8 (IntKind.u8.wrap (major * 2 ^ min (Int.toNat 5) IntKind.i64.bits)) 26)] ++ bys (beAcc n 4 4) = _
  rw [ep, hor 26 (by omega) (by omega)]
  rfl
 conv => whnf
 repeat (refine ⟨rfl, ?_⟩; conv => whnf)
 refine ⟨_, _, be_ok n 8 (by omega), rfl, ?_⟩
 conv => whnf
 refine Or.inl ⟨⟨rfl, rfl, by simp⟩, ?_⟩
 conv => whnf
 refine ⟨ones_bys _, ?_⟩
 conv => whnf
 refine ⟨⟨rfl, by simp, Or.inr (by omega), by simp [limB]⟩, ?_⟩
 conv => whnf
 have ep : putL major n = (major * 32 + 27) :: beAcc n 8 8 := by simp [putL, sizeR, h3, h4, h5, h6]
 refine ⟨⟨by simp [ep], rfl, ?_, by simp, pureL_bys _⟩, rfl⟩
 show [AV.int .u8 (bits .or .u8 (IntKind.u8.wrap (major * 2 ^ min (Int.toNat 5) IntKind.i64.bits)) 27)] ++ bys (beAcc n 8 8) = _
 rw [ep, hor 27 (by omega) (by omega)]
 rfl
end
section

theorem byteAt_succ (v c : Int) (h0 : 0 ≤ c) (h1 : c < 256) (i : Nat) : byteAt (v * 256 + c) (i + 1) = byteAt v i := by
 unfold byteAt
 have e : (2 : Int) ^ (8 * (i + 1)) = 256 * 2 ^ (8 * i) := by
  rw [Nat.mul_add, Int.pow_add]
  have : (2 : Int) ^ (8 * 1) = 256 := by decide
  rw [this, Int.mul_comm]
 rw [e, ← Int.ediv_ediv_of_nonneg (by omega)]
 congr 2
 omega
theorem beAcc_snoc (v c : Int) (h0 : 0 ≤ c) (h1 : c < 256) (m : Nat) : beAcc (v * 256 + c) (m + 1) (m + 1) = beAcc v m m ++ [c] := by
 rw [beAcc_succ]
 congr 1
 ·unfold beAcc
  apply List.map_congr_left
  intro j hj
  have hj := List.mem_range.1 hj
  have : m + 1 - 1 - j = (m - 1 - j) + 1 := by omega
  rw [this, byteAt_succ _ _ h0 h1]
 ·have : m + 1 - 1 - m = 0 := by omega
  rw [this]
  simp [byteAt]
  omega
theorem byt_beAcc (n : Int) (m c : Nat) : Byt (beAcc n m c) := by
 intro x hx
 simp only [beAcc, List.mem_map, List.mem_range] at hx
 obtain ⟨j, _, rfl⟩ := hx
 unfold byteAt
 omega
theorem beVal_beAcc (n : Int) (h0 : 0 ≤ n) : ∀ m : Nat, beVal (beAcc n m m) = n % 256 ^ m := by
 intro m
 induction m generalizing n with
 | zero => simp [beAcc, beVal]
 | succ m ih =>
  have e : n = n / 256 * 256 + n % 256 := by omega
  have : beAcc n (m + 1) (m + 1) = beAcc (n / 256) m m ++ [n % 256] := by
   conv => lhs; rw [e]
   exact beAcc_snoc _ _ (by omega) (by omega) m
  rw [this, beVal_snoc, ih (n / 256) (by omega), Int.pow_succ]
  have hp : (0 : Int) < 256 ^ m := Int.pow_pos (by omega)
  rw [Int.mul_comm (256 ^ m) 256]
  have h1 := Int.emod_add_mul_ediv n (256 * 256 ^ m)
  have h2 := Int.emod_add_mul_ediv (n / 256) (256 ^ m)
  rw [Int.ediv_ediv_of_nonneg (by omega)] at h2
  generalize n / (256 * 256 ^ m) = q at h1 h2
  generalize (256 : Int) ^ m = p at h1 h2 ⊢
  have : 256 * p * q = 256 * (p * q) := by rw [Int.mul_assoc]
  omega
theorem sizeR_cases (n : Int) : sizeR n = (0, n) ∧ n < 24 ∨ sizeR n = (1, 24) ∨ sizeR n = (2, 25) ∨ sizeR n = (4, 26) ∨ sizeR n = (8, 27) := by
 unfold sizeR
 repeat' split
 all_goals simp
 assumption
end
section

end
section

theorem sizeR_bound (n : Int) (h0 : 0 ≤ n) (h1 : n < 9223372036854775808) : n < 256 ^ (sizeR n).1 ∨ n < 24 := by
 unfold sizeR
 repeat' split
 all_goals first | (right; assumption) | (left; simp; omega)
theorem putL_length (M n : Int) : (putL M n).length = 1 + (sizeR n).1 := by simp [putL]; omega
theorem moreOf_put (M n : Int) (hn : 0 ≤ n) : moreOf (M * 32 + (sizeR n).2) = (sizeR n).1 ∧ (M * 32 + (sizeR n).2) / 32 = M ∧ (M * 32 + (sizeR n).2) % 32 = (sizeR n).2 ∧ (sizeR n).2 ≤ 27 := by
 rcases sizeR_cases n with ⟨e, h⟩ | e | e | e | e <;> rw [e]
 ·have h1 : (M * 32 + n) % 32 = n := by omega
  have h2 : ¬ 24 ≤ n := by omega
  refine ⟨by simp only [moreOf, h1, if_neg h2], by omega, h1, by omega⟩
 all_goals
  refine ⟨?_, by omega, by omega, by omega⟩
  simp only [moreOf]
 ·have h1 : (M * 32 + 24) % 32 = 24 := by omega
  simp [h1]
 ·have h1 : (M * 32 + 25) % 32 = 25 := by omega
  simp [h1]
 ·have h1 : (M * 32 + 26) % 32 = 26 := by omega
  simp [h1]
 ·have h1 : (M * 32 + 27) % 32 = 27 := by omega
  simp [h1]
theorem numOf_put (M n : Int) (hn : 0 ≤ n) (h1 : n < 9223372036854775808) : numOf (M * 32 + (sizeR n).2) (beAcc n (sizeR n).1 (sizeR n).1) = n := by
 obtain ⟨k1, k2, k3, k4⟩ := moreOf_put M n hn
 unfold numOf
 rw [k3]
 rcases sizeR_cases n with ⟨e, h⟩ | e | e | e | e
 ·rw [e]
  have h2 : ¬ 24 ≤ n := by omega
  simp [h2]
 all_goals
  have hb := sizeR_bound n hn h1
  rw [e] at hb ⊢
  simp only
  rw [if_pos (by omega), beVal_beAcc n hn]
  apply Int.emod_eq_of_lt hn
  rcases hb with hb | hb
  ·simpa using hb
  ·exfalso
   have : sizeR n = (0, n) := by simp [sizeR, hb]
   rw [e] at this
   simp at this
theorem getR_put (p q : List Int) (M n : Int) (hM : 0 ≤ M) (hn : 0 ≤ n) (h1 : n < 9223372036854775808) :
  getR (p ++ putL M n ++ q) p.length = (M, n, ((p ++ putL M n).length : Int), 0) := by
 obtain ⟨k1, k2, k3, k4⟩ := moreOf_put M n hn
 have hlen : (p ++ putL M n ++ q).length = p.length + (1 + (sizeR n).1) + q.length := by simp [putL_length]; omega
 have hk : p.length < (p ++ putL M n ++ q).length := by rw [hlen]; omega
 have hget : (p ++ putL M n ++ q)[p.length] = M * 32 + (sizeR n).2 := by
  simp [putL]
 have hdr : ((p ++ putL M n ++ q).drop (p.length + 1)).take (sizeR n).1 = beAcc n (sizeR n).1 (sizeR n).1 := by
  have : (p ++ putL M n ++ q) = (p ++ [M * 32 + (sizeR n).2]) ++ (beAcc n (sizeR n).1 (sizeR n).1 ++ q) := by simp [putL]
  rw [this]
  have e : p.length + 1 = (p ++ [M * 32 + (sizeR n).2]).length := by simp
  rw [e, List.drop_left]
  have e2 : (sizeR n).1 = (beAcc n (sizeR n).1 (sizeR n).1).length := by simp
  conv => lhs; rw [e2]
  rw [beAcc_length]
  exact List.take_left' (by simp)
 have h0 : ¬ ((p.length : Int) < 0 ∨ (((p ++ putL M n ++ q).length : Nat) : Int) < p.length) := by omega
 unfold getR
 rw [if_neg h0]
 have ht : (p.length : Int).toNat = p.length := by omega
 simp only [ht]
 rw [dif_pos hk]
 simp only [hget, k1, k2, k3, hdr, numOf_put M n hn h1]
 rw [if_neg (by omega), if_neg (by rw [hlen]; omega), if_neg (by omega)]
 simp [putL_length]
 omega
end
section

mutual
theorem border_pure {E : Env} : ∀ (x : AV) (v : Value), pureV x = true → RepV E x v → RepB E x v []
 | .own _ _ _, v, hp, _ => by simp [pureV] at hp
 | .ref _, v, hp, _ => by simp [pureV] at hp
 | .sl _ _ _ _ _, v, hp, _ => by simp [pureV] at hp
 | .ptr _ _, v, hp, _ => by simp [pureV] at hp
 | .agg cs, v, hp, h => by
  simp only [RepV] at h
  obtain ⟨vs, rfl, hl⟩ := h
  simp only [RepB]
  exact ⟨vs, rfl, borderL_pure cs _ (by simpa [pureV] using hp) hl⟩
 | .tuple cs, v, hp, h => by
  simp only [RepV] at h
  obtain ⟨vs, rfl, hl⟩ := h
  simp only [RepB]
  exact ⟨vs, rfl, borderL_pure cs _ (by simpa [pureV] using hp) hl⟩
 | .top, v, hp, h => by simp only [RepB]; exact ⟨hp, h, trivial⟩
 | .int k n, v, hp, h => by simp only [RepB]; exact ⟨hp, h, trivial⟩
 | .bool b, v, hp, h => by simp only [RepB]; exact ⟨hp, h, trivial⟩
 | .anyb, v, hp, h => by simp only [RepB]; exact ⟨hp, h, trivial⟩
 | .str s, v, hp, h => by simp only [RepB]; exact ⟨hp, h, trivial⟩
 | .nil, v, hp, h => by simp only [RepB]; exact ⟨hp, h, trivial⟩
 | .ro len cs, v, hp, h => by simp only [RepB]; exact ⟨hp, h, trivial⟩
 | .rop cs, v, hp, h => by simp only [RepB]; exact ⟨hp, h, trivial⟩
 | .nilp, v, hp, h => by simp only [RepB]; exact ⟨hp, h, trivial⟩
 | .hid i, v, hp, h => by simp only [RepB]; exact ⟨hp, h, trivial⟩
 | .fn f cs, v, hp, h => by simp only [RepB]; exact ⟨hp, h, trivial⟩
theorem borderL_pure {E : Env} : ∀ (cs : List AV) (vs : List Value), pureL cs = true → RepL E cs vs → RepBL E cs vs []
 | [], vs, _, h => by simp only [RepL] at h; simp [RepBL, h]
 | c :: cs, vs, hp, h => by
  simp only [pureL, Bool.and_eq_true] at hp
  simp only [RepL] at h
  obtain ⟨u, us, rfl, hu, h⟩ := h
  simp only [RepBL]
  exact ⟨u, us, [], [], rfl, rfl, border_pure c u hp.1 hu, borderL_pure cs us hp.2 h⟩
end
def env0 (W : World) : Env := ⟨fun _ => .bool false, fun _ => none, fun _ => False, W⟩
theorem refVals_pure : ∀ (ys : List AV) (vs : List Value), pureL ys = true → refVals ys vs = []
 | [], vs, _ => by simp [refVals]
 | y :: ys, [], _ => by simp [refVals]
 | y :: ys, v :: vs, hp => by
  simp only [pureL, Bool.and_eq_true] at hp
  have : isRef y = false := by
   cases y <;> simp [isRef, pureV] at hp ⊢
  simp [refVals, this, refVals_pure ys vs hp.2]
theorem ACall.row {P : Program} {f : FuncId} {args : List AV} (h : ACall P f args (.bool true) []) (hp : pureL args = true) {W : World} {vals : List Value} (hr : RepL (env0 W) args vals) (ht : TabOk (env0 W)) :
  Calls P f vals.toArray W fun e W' => e = .returned (.bool true) ∧ Go.RowKit.Below W.heap.size W W' := by
 have h0 : HeapRep (fun b => (fun _ => False) b ∨ b ∈ ([] : List Nat)) (env0 W) noHeap 0 :=
  ⟨fun id cs hh => by simp [noHeap] at hh, fun id id' n h1 => by simp [noHeap] at h1, fun b => by simp [env0, Wr, noHeap], fun id n h1 => by simp [noHeap] at h1,
   fun id _ => ⟨rfl, rfl⟩, fun _ => rfl, fun id n h1 => by simp [env0] at h1, fun b hb => by simp at hb, ht⟩
 have := h.2 (fun _ => False) (env0 W) vals [] h0 (borderL_pure args vals hp hr) (by simp) (by simp)
 refine this.mono ?_
 rintro e w' ⟨v, E', Xr, rfl, rfl, _, hev, _, hres, _, _⟩
 rw [refVals_pure args vals hp] at hres
 simp only [List.nil_append, RepBL, RepB, RepV] at hres
 obtain ⟨u, us, Y, Y', he, _, ⟨_, rfl, _⟩, _⟩ := hres
 injection he with he _
 subst he
 refine ⟨rfl, Evo.below (hev.mono fun b hb => by simp at hb)⟩
theorem wf_i64 {n : Int} (h : (Lit.int .i64 n).wf = true) : -9223372036854775808 ≤ n ∧ n < 9223372036854775808 := by
 simp [Lit.wf, IntKind.min, IntKind.max, IntKind.signed, IntKind.bits] at h
 omega
end
section

def takesTo : List Nat → Plan → Plan
 | [], p => p
 | i :: r, p => .take i (takesTo r p)
theorem roLoad_ok {ops : Array Oper} {st : St} {dst : Option Tmp} {ty : TypeId} {pos : String} {af : Array Edge} {t : TypeId} {a : Operand} {cs : List AV} (he : evalO st.env a = .rop cs) (hne : cs.length ≠ 0) : takeOk ops ⟨dst, .load t a, ty, pos, af, none⟩ st = true := by
 show roLoad st (.load t a) = true
 simp only [roLoad, he]
 cases cs with
 | nil => simp at hne
 | cons x r => rfl
theorem get_intsM {k : IntKind} {l : List Int} {c m : Nat} (h : c < l.length) (hm : m = c) : ((l.map (AV.int k)).drop m)[0]? = some (.int k (l.getD c 0)) := by
 subst hm
 simp [h, List.getD_eq_getElem?_getD]
theorem get_bysM {l : List Int} {c m : Nat} (h : c < l.length) (hm : m = c) : ((bys l).drop m)[0]? = some (.int .u8 l[c]) := by
 subst hm
 exact get_bys h
mutual
def frzV (id : Nat) (zs : List AV) : AV → AV
 | .sl i off len esz full => cond (Nat.beq i id) (.ro len ((zs.drop off).take (len * esz))) (.sl i off len esz full)
 | .ptr i off => cond (Nat.beq i id) (.rop (zs.drop off)) (.ptr i off)
 | .agg cs => .agg (frzL id zs cs)
 | .tuple cs => .tuple (frzL id zs cs)
 | .top => .top
 | .int k n => .int k n
 | .bool b => .bool b
 | .anyb => .anyb
 | .str s => .str s
 | .nil => .nil
 | .ro len cs => .ro len cs
 | .own a b c => .own a b c
 | .ref cs => .ref cs
 | .rop cs => .rop cs
 | .nilp => .nilp
 | .hid i => .hid i
 | .fn f cs => .fn f cs
def frzL (id : Nat) (zs : List AV) : List AV → List AV
 | [] => []
 | c :: cs => frzV id zs c :: frzL id zs cs
end
theorem frzL_get {id : Nat} {zs : List AV} : ∀ {cs : List AV} {j : Nat} {y : AV}, (frzL id zs cs)[j]? = some y → ∃ x, cs[j]? = some x ∧ y = frzV id zs x
 | [], j, y, h => by simp [frzL] at h
 | c :: cs, 0, y, h => by simp [frzL] at h; exact ⟨c, by simp, h.symm⟩
 | c :: cs, j + 1, y, h => by simp [frzL] at h ⊢; exact frzL_get h
theorem frzL_length {id : Nat} {zs : List AV} : ∀ cs : List AV, (frzL id zs cs).length = cs.length
 | [] => rfl
 | c :: cs => by simp [frzL, frzL_length cs]
def St.frz (st : St) (id : Nat) (zs : List AV) : St :=
 ⟨fun t => frzV id zs (st.env t), fun i => cond (Nat.beq i id) none (match st.heap i with | some cs => some (frzL id zs cs) | none => none), st.nx, st.n⟩
section
variable {Z : Nat → Prop} {E E' : Env} {H : Heap} {nx id : Nat} {zs : List AV}
theorem blk_repM (h : HeapRep Z E H nx) (hi : H id = some zs) {n : Nat} (hn : E.ρ id = some n) (off : Nat) : RepM E (zs.drop off) n off := by
 refine repM_of_get _ _ _ fun j x hx => ?_
 rw [List.getElem?_drop] at hx
 exact blk_cells h hi hn (off + j) x hx
mutual
theorem frzV_ok (h : HeapRep Z E H nx) (hi : H id = some zs) (L : Later E E') (hw : E'.w = E.w) (hρ : E'.ρ = E.ρ) (hV : ∀ n, E.ρ id = some n → ¬ E'.V n) :
  ∀ (x : AV) (v : Value), RepV E x v → RepV E' (frzV id zs x) v
 | .sl i off len esz full, v, hr => by
  simp only [frzV]
  cases hb : Nat.beq i id with
  | false => exact RepV.later L _ v hr
  | true =>
   obtain rfl := Nat.eq_of_beq_eq_true hb
   simp only [cond_true]
   simp only [RepV] at hr ⊢
   obtain ⟨a, cap, rfl, hl, _, hc⟩ := hr
   refine ⟨a, cap, rfl, hl, ?_⟩
   rcases hc with rfl | ⟨n, c, e, fr, hn, rfl, hh, hs⟩
   ·left
    obtain rfl : len = 0 := by omega
    simp
   ·right
    refine ⟨n, off, rfl, hV n hn, repM_take ?_ _⟩
    have hm := blk_repM h hi hn off
    refine repM_of_get _ _ _ fun j x hx => ?_
    obtain ⟨u, h1, h2⟩ := repM_get _ _ _ hm j x hx
    exact ⟨u, by rw [hw]; exact h1, RepV.later L x u h2⟩
 | .ptr i off, v, hr => by
  simp only [frzV]
  cases hb : Nat.beq i id with
  | false => exact RepV.later L _ v hr
  | true =>
   obtain rfl := Nat.eq_of_beq_eq_true hb
   simp only [cond_true]
   simp only [RepV] at hr ⊢
   obtain ⟨n, hn, rfl⟩ := hr
   refine ⟨n, off, rfl, .inr ⟨hV n hn, ?_⟩⟩
   have hm := blk_repM h hi hn off
   refine repM_of_get _ _ _ fun j x hx => ?_
   obtain ⟨u, h1, h2⟩ := repM_get _ _ _ hm j x hx
   exact ⟨u, by rw [hw]; exact h1, RepV.later L x u h2⟩
 | .agg cs, v, hr => by
  simp only [frzV, RepV] at hr ⊢
  obtain ⟨vs, rfl, hr⟩ := hr
  exact ⟨vs, rfl, frzL_ok h hi L hw hρ hV cs _ hr⟩
 | .tuple cs, v, hr => by
  simp only [frzV, RepV] at hr ⊢
  obtain ⟨vs, rfl, hr⟩ := hr
  exact ⟨vs, rfl, frzL_ok h hi L hw hρ hV cs _ hr⟩
 | .top, v, hr => RepV.later L .top v hr
 | .int k n, v, hr => RepV.later L (.int k n) v hr
 | .bool b, v, hr => RepV.later L (.bool b) v hr
 | .anyb, v, hr => RepV.later L .anyb v hr
 | .str s, v, hr => RepV.later L (.str s) v hr
 | .nil, v, hr => RepV.later L .nil v hr
 | .ro len cs, v, hr => RepV.later L (.ro len cs) v hr
 | .own a b c, v, hr => RepV.later L (.own a b c) v hr
 | .ref cs, v, hr => RepV.later L (.ref cs) v hr
 | .rop cs, v, hr => RepV.later L (.rop cs) v hr
 | .nilp, v, hr => RepV.later L .nilp v hr
 | .hid i, v, hr => RepV.later L (.hid i) v hr
 | .fn f cs, v, hr => RepV.later L (.fn f cs) v hr
theorem frzL_ok (h : HeapRep Z E H nx) (hi : H id = some zs) (L : Later E E') (hw : E'.w = E.w) (hρ : E'.ρ = E.ρ) (hV : ∀ n, E.ρ id = some n → ¬ E'.V n) :
  ∀ (cs : List AV) (vs : List Value), RepL E cs vs → RepL E' (frzL id zs cs) vs
 | [], vs, hr => by simpa [frzL, RepL] using hr
 | c :: cs, vs, hr => by
  simp only [frzL, RepL] at hr ⊢
  obtain ⟨u, us, rfl, h1, h2⟩ := hr
  exact ⟨u, us, rfl, frzV_ok h hi L hw hρ hV c u h1, frzL_ok h hi L hw hρ hV cs us h2⟩
end
end
theorem Weaker.trans {k : Nat} {a b c : St} (h : Weaker k a b) (g : Weaker k b c) : Weaker k a c := by
 intro Z E act S
 obtain ⟨E1, S1, e1, f1⟩ := h Z E act S
 obtain ⟨E2, S2, e2, f2⟩ := g Z E1 act S1
 exact ⟨E2, S2, e2.trans e1, f1.trans f2⟩
theorem Weaker.freeze {k : Nat} {st : St} (id : Nat) {zs : List AV} (hi : st.heap id = some zs) : Weaker k st (st.frz id zs) := by
 intro Z E a S
 have h := S.heap
 let H' : Heap := (st.frz id zs).heap
 have hH : ∀ i ys, H' i = some ys → i ≠ id ∧ ∃ xs, st.heap i = some xs ∧ ys = frzL id zs xs := by
  intro i ys hy
  simp only [H', St.frz] at hy
  cases hb : Nat.beq i id with
  | true => rw [hb] at hy; cases hy
  | false =>
   rw [hb] at hy
   simp only [cond_false] at hy
   refine ⟨fun e => ?_, ?_⟩
   ·subst e
    simp at hb
   ·cases hs : st.heap i with
    | none => rw [hs] at hy; cases hy
    | some xs => rw [hs] at hy; exact ⟨xs, rfl, (Option.some.inj hy).symm⟩
 have hHn : ∀ i, H' i ≠ none → i ≠ id ∧ st.heap i ≠ none := by
  intro i hne
  cases hy : H' i with
  | none => exact absurd hy hne
  | some ys =>
   obtain ⟨h1, xs, h2, _⟩ := hH i ys hy
   exact ⟨h1, by rw [h2]; simp⟩
 let E' : Env := { E with V := fun b => Z b ∨ Wr E.ρ H' b }
 have hwr : ∀ b, Wr E.ρ H' b → Wr E.ρ st.heap b := by
  rintro b ⟨i, ys, h1, h2⟩
  obtain ⟨_, xs, h3, _⟩ := hH i ys h1
  exact ⟨i, xs, h3, h2⟩
 have hVV : ∀ b, E'.V b → E.V b := by
  rintro b (hz | hw)
  ·exact (h.V b).2 (.inl hz)
  ·exact (h.V b).2 (.inr (hwr b hw))
 have L : Later E E' := ⟨rfl, fun _ _ hh => hh, Nat.le_refl _, fun _ c _ fr hh => ⟨c, fr, hh, rfl⟩, fun _ _ _ => rfl, fun b _ hh => hVV b hh⟩
 have hid : ∀ n, E.ρ id = some n → ¬ E'.V n := by
  rintro n hn (hz | ⟨i, ys, h1, h2⟩)
  ·exact h.apart id n (by rw [hi]; simp) hn hz
  ·obtain ⟨hne, xs, h3, _⟩ := hH i ys h1
   exact hne (h.inj i id n (by rw [h3]; simp) (by rw [hi]; simp) h2 hn)
 refine ⟨E', ⟨fun t => frzV_ok h hi L rfl rfl hid _ _ (S.env t), S.sz, S.dfr, ?_⟩, rfl, ⟨rfl, Evo.refl _ _, fun b _ hb => hwr b hb, fun _ _ _ hn => hn⟩⟩
 refine ⟨fun i ys hy => ?_, fun i i' n h1 h2 h3 h4 => h.inj i i' n (hHn i h1).2 (hHn i' h2).2 h3 h4, fun b => Iff.rfl, fun i n h1 h2 => h.apart i n (hHn i h1).2 h2, fun i hx => ⟨(h.fresh i hx).1, ?_⟩, h.one, h.old, h.zold, h.tab.later L⟩
 ·obtain ⟨_, xs, h3, rfl⟩ := hH i ys hy
  rcases h.blk i xs h3 with ⟨b1, rfl⟩ | ⟨n, b1, c, e, fr, b2, b3, b4, b5⟩
  ·exact .inl ⟨b1, rfl⟩
  ·refine .inr ⟨n, b1, c, e, fr, b2, b3, by rw [frzL_length]; exact b4, fun j y hj => ?_⟩
   obtain ⟨x, hx, rfl⟩ := frzL_get hj
   obtain ⟨u, h4, h5⟩ := b5 j x hx
   exact ⟨u, h4, frzV_ok h hi L rfl rfl hid _ _ h5⟩
 ·cases hy : H' i with
  | none => exact hy
  | some ys =>
   obtain ⟨_, xs, h3, _⟩ := hH i ys hy
   rw [(h.fresh i hx).2] at h3
   cases h3
theorem Does.freeze {P : Program} {k : Nat} {c : Code} {Q : AX → St → Prop} {st : St} (id : Nat) {zs : List AV} (hi : st.heap id = some zs) (h : Does P k c Q (st.frz id zs)) : Does P k c Q st :=
 Does.weaker (Weaker.freeze id hi) h
theorem ACall.arg1 {P : Program} {f : FuncId} {n n' : Nat} {c c' : List AV} {az : List AV} {r : AV} {outs : List AV} (h : ACall P f (.ro n c :: az) r outs) (e1 : n' = n) (e2 : c' = c) : ACall P f (.ro n' c' :: az) r outs := by
 subst e1; subst e2; exact h
theorem ACall.arg2 {P : Program} {f : FuncId} {n n' m m' : Nat} {c c' d d' : List AV} {az : List AV} {r : AV} {outs : List AV} (h : ACall P f (.ro n c :: .ro m d :: az) r outs) (e1 : n' = n) (e2 : c' = c) (e3 : m' = m) (e4 : d' = d) : ACall P f (.ro n' c' :: .ro m' d' :: az) r outs := by
 subst e1; subst e2; subst e3; subst e4; exact h
theorem part_bys {l : List Int} {a b : Nat} {o n : Nat} (ho : o = a) (hn : n = b - a) (h : b ≤ l.length) : ((bys l).drop o).take n = bys ((l.drop a).take (b - a)) := by
 subst ho; subst hn
 rw [bys_drop, bys_take]
theorem leP_bool {o : Nat → Option Nat} {b b' : Bool} (h : b' = b) : leP o (.bool b) (.bool b') := h
theorem leP_int {o : Nat → Option Nat} {k : IntKind} {n n' : Int} (h : n' = n) : leP o (.int k n) (.int k n') := ⟨rfl, h⟩
theorem ifB_bool {b : Bool} {A B : Prop} (h1 : b = true → A) (h2 : b = false → B) : ifB b A B := ⟨h1, h2⟩
theorem pureL_cutB (l : List Int) (lo hi : Option Int) (sz : Nat) : pureL (cutB (bys l) lo hi sz) = true := by
 cases lo <;> cases hi <;> simp only [cutB, bys_take, bys_drop, pureL_bys]
end
section

structure Tok where
 k : Int
 n : Int
 b : List Int
 deriving DecidableEq
def tokC (t : Tok) : List AV := [.int .i64 t.k, .int .i64 t.n, .ro t.b.length (bys t.b)]
def toksC : List Tok → List AV
 | [] => []
 | t :: l => .int .i64 t.k :: .int .i64 t.n :: .ro t.b.length (bys t.b) :: toksC l
theorem toksC_length : ∀ l : List Tok, (toksC l).length = 3 * l.length
 | [] => rfl
 | t :: l => by simp [toksC, toksC_length l]; omega
theorem pureL_toks : ∀ l : List Tok, pureL (toksC l) = true
 | [] => rfl
 | t :: l => by simp [toksC, pureL, pureV, pureL_bys, pureL_toks l]
theorem toksC_drop : ∀ (l : List Tok) (j : Nat), (toksC l).drop (3 * j) = toksC (l.drop j)
 | l, 0 => by simp
 | [], j + 1 => by simp [toksC]
 | t :: l, j + 1 => by
  rw [show 3 * (j + 1) = 3 * j + 1 + 1 + 1 by omega]
  simp only [toksC, List.drop_succ_cons]
  exact toksC_drop l j
theorem toksC_at {l : List Tok} {j m : Nat} (h : j < l.length) (hm : m = 3 * j) : (toksC l).drop m = .int .i64 l[j].k :: .int .i64 l[j].n :: .ro l[j].b.length (bys l[j].b) :: toksC (l.drop (j + 1)) := by
 subst hm
 rw [toksC_drop, List.drop_eq_getElem_cons h]
 rfl
theorem takeN_tok {l : List Tok} {j m s : Nat} (h : j < l.length) (hm : m = 3 * j) (hs : s = 3) : takeN s ((toksC l).drop m) = some (tokC l[j]) := by
 subst hs
 rw [toksC_at h hm]
 rfl
def TokOk (t : Tok) : Prop := (-9223372036854775808 ≤ t.k ∧ t.k < 9223372036854775808) ∧ (-9223372036854775808 ≤ t.n ∧ t.n < 9223372036854775808) ∧ Byt t.b
def ToksOk (l : List Tok) : Prop := ∀ t ∈ l, TokOk t
structure W where
 at' : Nat
 out : List Int
 bad : Bool
def wC (len : Nat) (L : List AV) (w : W) : List AV := [.ro len L, .int .i64 (w.at' : Int), .own w.out.length 1 (bys w.out), .bool w.bad]
def wHead (major n : Int) (w : W) : W := { w with out := (putS w.out major n).1, bad := w.bad || decide ((putS w.out major n).2 ≠ 0) }
def wNumber (major : Int) (t : Tok) (w : W) : W := wHead major t.n { w with bad := w.bad || decide (0 < (t.b.length : Int)) }
def wBytes (u : List Int → Bool) (t : Tok) (w : W) : W :=
 if w.bad || (decide (t.k = 4) && !u t.b) || decide (t.n ≠ 0) || decide (32768 < (t.b.length : Int)) then { w with bad := true }
 else { wHead (if t.k = 4 then 3 else 2) t.b.length w with out := (wHead (if t.k = 4 then 3 else 2) t.b.length w).out ++ t.b }
def wArr (g : W → W) : Nat → W → W
 | 0, w => w
 | n + 1, w => if w.bad then w else wArr g n (g w)
def wMap (g : W → W) : Nat → Nat → Nat → Nat → W → W
 | 0, _, _, _, w => w
 | n + 1, i, a, b, w =>
  if w.bad then w
  else if (g w).bad || (decide (0 < i) && decide (0 ≤ cmpI (((g w).out.drop a).take (b - a)) ((g w).out.drop w.out.length))) then { g w with bad := true }
  else wMap g n (i + 1) w.out.length (g w).out.length (g (g w))
def wManyBad (t : Tok) : Bool := decide (0 < (t.b.length : Int)) || decide (t.n < 0) || decide (64 < t.n)
def wItem (u : List Int → Bool) (l : List Tok) : Nat → W → W
 | f, w =>
  if h : l.length ≤ w.at' ∨ 32768 < w.out.length then { w with bad := true }
  else
   let t := l[w.at']'(by omega)
   let w' : W := { w with at' := w.at' + 1 }
   if t.k = 1 then wNumber 0 t w'
   else if t.k = 2 then wNumber 1 t w'
   else if t.k = 3 ∨ t.k = 4 then wBytes u t w'
   else if t.k = 5 ∨ t.k = 6 then
    match f with
    | 0 => { w' with bad := true }
    | f + 1 =>
     if wManyBad t then { w' with bad := true }
     else if t.k = 5 then wArr (wItem u l f) t.n.toNat (wHead 4 t.n w')
     else wMap (wItem u l f) t.n.toNat 0 0 0 (wHead 5 t.n w')
   else { w' with bad := true }
def encR (u : List Int → Bool) (l : List Tok) : List Int × Int :=
 if 600 < l.length then ([], 1)
 else if (wItem u l 6 ⟨0, [], false⟩).bad || decide ((wItem u l 6 ⟨0, [], false⟩).at' ≠ l.length) || decide (32768 < (wItem u l 6 ⟨0, [], false⟩).out.length) then ([], 1)
 else ((wItem u l 6 ⟨0, [], false⟩).out, 0)
end
section

attribute [local irreducible] ifB fitP Does Weaker
def wrM : Mode := .rf [.bw, .rd, .mv 1, .rd]
def paM : Mode := .rf [.bw, .rd, .mv 3, .rd]
def MC : FuncId → List Mode := modes [(153, [.rd]), (113, [.bw]), (137, [.rd, .rd]), (49, [.rd, .rd, .rd]), (45, [.bw]),
 (167, [.bw, .rd, .rd]), (118, [.rd, .rd]), (25, [.bw, .bw]), (135, [.bw, .rd]), (999999, [.bw, .rd]),
 (147, [wrM, .rd, .rd]), (124, [wrM, .rd, .rd]), (125, [wrM, .rd]), (126, [wrM, .rd, .rd]), (105, [wrM, .rd]),
 (86, [.bw]), (114, [.bw]), (130, [.bw]), (63, [.bw]), (77, [.bw, .bw]), (99, [.cmp]), (117, [.bw, .bw]),
 (136, [.rf [.bw, .rd, .hd, .rd], .rd]), (116, [paM, .rd]), (81, [.bw]), (88, [.bw]), (999999, [.bw]),
 (91, [.bw, .rd, .rd]), (69, [.bw]), (999999, [.bw, .rd, .mv 3, .rd]), (999999, [.bw]), (78, [.bw]),
 (999999, [.bw, .bw]), (999999, [.bw]), (999999, [.bw])]
theorem whead_ok (len : Nat) (L : List AV) (hL : pureL L = true) (w : W) (hb : w.out.length ≤ 1048576) (major n : Int) (h3 : n < 9223372036854775808) :
  ACall Tryz.prog 147 [.ref (wC len L w), .int .i64 major, .int .i64 n] (.tuple []) [.ref (wC len L (wHead major n w))] := by
 obtain ⟨at', out, bad⟩ := w
 refine ACall.of_does TTok Tryz.func147 rfl Tryz.call147 rfl (wpc_sound (M := MC) (PL := PL0) (CU := noCut) TTok mixed _ _ _ ?_)
 conv => whnf
 repeat ((first | refine ⟨pureL_bys _, ?_⟩ | (refine Or.inl ⟨⟨rfl, ?_⟩, ?_⟩; (focus (first | rfl | (simp; done) | (rw [toksC_length]; omega)))) | refine ⟨rfl, ?_⟩ | refine ⟨_, rfl, ?_⟩); conv => whnf)
 refine ⟨_, _, put_any out hb major n h3, by first | rfl | simp [noRoIf, noRoL, noRoV, noRoL_bys], ?_⟩
 conv => whnf
 repeat ((refine ⟨_, rfl, ?_⟩); conv => whnf)
 cases bad
 ·conv => whnf
  repeat ((first | refine ifB_f ?_ | refine ⟨rfl, ?_⟩ | refine ⟨⟨rfl, rfl⟩, ?_⟩ | (refine ⟨⟨rfl, rfl, rfl, ?_, pureL_bys _⟩, ?_⟩; (focus (simp; done))) | (refine ⟨⟨rfl, rfl, ?_⟩, ?_⟩; (focus (first | assumption | exact pureL_bys _ | exact pureL_toks _))) | (refine ⟨⟨rfl, rfl, ?_⟩, ?_⟩; (focus (first | exact Nat.le_of_ble_eq_true rfl | (simp; done))))); conv => whnf)
  rfl
 ·conv => whnf
  repeat ((first | refine ifB_t ?_ | refine ⟨rfl, ?_⟩ | refine ⟨⟨rfl, rfl⟩, ?_⟩ | (refine ⟨⟨rfl, rfl, rfl, ?_, pureL_bys _⟩, ?_⟩; (focus (simp; done))) | (refine ⟨⟨rfl, rfl, ?_⟩, ?_⟩; (focus (first | assumption | exact pureL_bys _ | exact pureL_toks _))) | (refine ⟨⟨rfl, rfl, ?_⟩, ?_⟩; (focus (first | exact Nat.le_of_ble_eq_true rfl | (simp; done))))); conv => whnf)
  rfl
theorem wnumber_ok (len : Nat) (L : List AV) (hL : pureL L = true) (w : W) (hb : w.out.length ≤ 1048576) (major : Int) (t : Tok) (h3 : t.n < 9223372036854775808) :
  ACall Tryz.prog 124 [.ref (wC len L w), .int .i64 major, .agg (tokC t)] (.tuple []) [.ref (wC len L (wNumber major t w))] := by
 obtain ⟨at', out, bad⟩ := w
 refine ACall.of_does TTok Tryz.func124 rfl Tryz.call124 rfl (wpc_sound (M := MC) (PL := PL0) (CU := noCut) TTok mixed _ _ _ ?_)
 cases bad
 ·conv => whnf
  repeat ((first | refine ifB_f ?_ | refine ⟨rfl, ?_⟩ | refine ⟨_, rfl, ?_⟩ | (refine ⟨⟨rfl, rfl, ?_, pureL_bys _⟩, ?_⟩; (focus (simp; done))) | (refine ⟨⟨rfl, rfl, ?_⟩, ?_⟩; (focus (first | exact Nat.le_of_ble_eq_true rfl | (simp; done)))) | (refine And.intro (by first | omega | rfl | (dsimp only; omega)) ?_)); conv => whnf)
  refine ⟨_, _, whead_ok len L hL ⟨at', out, false || decide (0 < (t.b.length : Int))⟩ hb major t.n h3, by first | rfl | simp [noRoIf, noRoL, noRoV, noRoL_bys], ?_⟩
  conv => whnf
  repeat ((first | refine ⟨rfl, ?_⟩ | refine ⟨⟨rfl, rfl⟩, ?_⟩ | (refine ⟨⟨rfl, rfl, rfl, ?_, pureL_bys _⟩, ?_⟩; (focus (simp; done))) | (refine ⟨⟨rfl, rfl, ?_⟩, ?_⟩; (focus (first | assumption | exact pureL_bys _ | exact pureL_toks _)))); conv => whnf)
  rfl
 ·conv => whnf
  repeat ((first | refine ifB_t ?_ | refine ⟨rfl, ?_⟩ | refine ⟨_, rfl, ?_⟩ | (refine ⟨⟨rfl, rfl, ?_, pureL_bys _⟩, ?_⟩; (focus (simp; done))) | (refine ⟨⟨rfl, rfl, ?_⟩, ?_⟩; (focus (first | exact Nat.le_of_ble_eq_true rfl | (simp; done)))) | (refine And.intro (by first | omega | rfl | (dsimp only; omega)) ?_)); conv => whnf)
  refine ⟨_, _, whead_ok len L hL ⟨at', out, true⟩ hb major t.n h3, by first | rfl | simp [noRoIf, noRoL, noRoV, noRoL_bys], ?_⟩
  conv => whnf
  repeat ((first | refine ⟨rfl, ?_⟩ | refine ⟨⟨rfl, rfl⟩, ?_⟩ | (refine ⟨⟨rfl, rfl, rfl, ?_, pureL_bys _⟩, ?_⟩; (focus (simp; done))) | (refine ⟨⟨rfl, rfl, ?_⟩, ?_⟩; (focus (first | assumption | exact pureL_bys _ | exact pureL_toks _)))); conv => whnf)
  rfl
end
section

attribute [local irreducible] ifB fitP Does Weaker
theorem or_u64 (a b : Nat) (ha : a < 18446744073709551616) (hb : b < 18446744073709551616) : bits .or .u64 (a : Int) (b : Int) = ((a ||| b : Nat) : Int) ∧ a ||| b < 18446744073709551616 := by
 refine ⟨(bits_nat .u64 64 (by decide) (fun n h0 h1 => ?_) a b ha hb).2, Nat.or_lt_two_pow (n := 64) ha hb⟩
 rw [wrap_u64]
 omega
theorem and_u64 (a b : Nat) (ha : a < 18446744073709551616) (hb : b < 18446744073709551616) : bits .and .u64 (a : Int) (b : Int) = ((a &&& b : Nat) : Int) := by
 refine (bits_nat .u64 64 (by decide) (fun n h0 h1 => ?_) a b ha hb).1
 rw [wrap_u64]
 omega
def hiBits (w : Nat) (s : Nat → Int) : Prop := ∀ i, i < 8 → w.testBit (8 * i + 7) = decide (128 ≤ s i)
theorem byte_bit (c : Nat) (hc : c < 256) (j i : Nat) : (c * 2 ^ (8 * j)).testBit (8 * i + 7) = (decide (i = j) && decide (128 ≤ c)) := by
 rw [Nat.mul_comm, Nat.testBit_two_pow_mul]
 by_cases h : i = j
 ·subst h
  have h2 : 8 * i ≤ 8 * i + 7 := by omega
  have e : 8 * i + 7 - 8 * i = 7 := by omega
  simp only [h2, decide_true, Bool.true_and, e]
  rw [Nat.testBit_eq_decide_div_mod_eq]
  congr 1
  rw [eq_iff_iff]
  omega
 ·by_cases h2 : 8 * j ≤ 8 * i + 7
  ·have e : ∃ m, 8 * i + 7 - 8 * j = 8 + m := ⟨8 * i + 7 - 8 * j - 8, by omega⟩
   obtain ⟨m, hm⟩ := e
   rw [hm]
   have : c < 2 ^ (8 + m) := by
    rw [Nat.pow_add]
    have := Nat.two_pow_pos m
    have : 2 ^ 8 * 1 ≤ 2 ^ 8 * 2 ^ m := Nat.mul_le_mul_left _ this
    omega
   rw [Nat.testBit_lt_two_pow this]
   simp [h]
  ·simp [h2, h]
def PLword : Nat → Bool × Plan := plans [(1, (true, takes (List.range 23))), (2, (true, takes (List.range 47)))]
theorem word_ok (s : List Int) (hs : 8 ≤ s.length) (hb : Byt s) : ∃ W : Nat, ACall Tryz.prog 130 [.ro s.length (bys s)] (.int .u64 (W : Int)) [] ∧ W < 18446744073709551616 ∧ hiBits W (fun i => s.getD i 0) := by
 match s, hs with
 | s0 :: s1 :: s2 :: s3 :: s4 :: s5 :: s6 :: s7 :: r, hs =>
  obtain ⟨c0, rfl⟩ : ∃ c : Nat, s0 = c := ⟨s0.toNat, by have := hb s0 (by simp); omega⟩
  obtain ⟨c1, rfl⟩ : ∃ c : Nat, s1 = c := ⟨s1.toNat, by have := hb s1 (by simp); omega⟩
  obtain ⟨c2, rfl⟩ : ∃ c : Nat, s2 = c := ⟨s2.toNat, by have := hb s2 (by simp); omega⟩
  obtain ⟨c3, rfl⟩ : ∃ c : Nat, s3 = c := ⟨s3.toNat, by have := hb s3 (by simp); omega⟩
  obtain ⟨c4, rfl⟩ : ∃ c : Nat, s4 = c := ⟨s4.toNat, by have := hb s4 (by simp); omega⟩
  obtain ⟨c5, rfl⟩ : ∃ c : Nat, s5 = c := ⟨s5.toNat, by have := hb s5 (by simp); omega⟩
  obtain ⟨c6, rfl⟩ : ∃ c : Nat, s6 = c := ⟨s6.toNat, by have := hb s6 (by simp); omega⟩
  obtain ⟨c7, rfl⟩ : ∃ c : Nat, s7 = c := ⟨s7.toNat, by have := hb s7 (by simp); omega⟩
  have h0 : c0 < 256 := by have := hb (c0 : Int) (by simp); omega
  have h1 : c1 < 256 := by have := hb (c1 : Int) (by simp); omega
  have h2 : c2 < 256 := by have := hb (c2 : Int) (by simp); omega
  have h3 : c3 < 256 := by have := hb (c3 : Int) (by simp); omega
  have h4 : c4 < 256 := by have := hb (c4 : Int) (by simp); omega
  have h5 : c5 < 256 := by have := hb (c5 : Int) (by simp); omega
  have h6 : c6 < 256 := by have := hb (c6 : Int) (by simp); omega
  have h7 : c7 < 256 := by have := hb (c7 : Int) (by simp); omega
  obtain ⟨a0, ha0⟩ : ∃ a, a = c0 := ⟨_, rfl⟩
  have b0 : a0 < 18446744073709551616 := by omega
  obtain ⟨a1, ha1⟩ : ∃ a, a = a0 ||| c1 * 2 ^ 8 := ⟨_, rfl⟩
  obtain ⟨o1, b1⟩ := or_u64 a0 (c1 * 2 ^ 8) b0 (by omega)
  rw [← ha1] at o1 b1
  obtain ⟨a2, ha2⟩ : ∃ a, a = a1 ||| c2 * 2 ^ 16 := ⟨_, rfl⟩
  obtain ⟨o2, b2⟩ := or_u64 a1 (c2 * 2 ^ 16) b1 (by omega)
  rw [← ha2] at o2 b2
  obtain ⟨a3, ha3⟩ : ∃ a, a = a2 ||| c3 * 2 ^ 24 := ⟨_, rfl⟩
  obtain ⟨o3, b3⟩ := or_u64 a2 (c3 * 2 ^ 24) b2 (by omega)
  rw [← ha3] at o3 b3
  obtain ⟨a4, ha4⟩ : ∃ a, a = a3 ||| c4 * 2 ^ 32 := ⟨_, rfl⟩
  obtain ⟨o4, b4⟩ := or_u64 a3 (c4 * 2 ^ 32) b3 (by omega)
  rw [← ha4] at o4 b4
  obtain ⟨a5, ha5⟩ : ∃ a, a = a4 ||| c5 * 2 ^ 40 := ⟨_, rfl⟩
  obtain ⟨o5, b5⟩ := or_u64 a4 (c5 * 2 ^ 40) b4 (by omega)
  rw [← ha5] at o5 b5
  obtain ⟨a6, ha6⟩ : ∃ a, a = a5 ||| c6 * 2 ^ 48 := ⟨_, rfl⟩
  obtain ⟨o6, b6⟩ := or_u64 a5 (c6 * 2 ^ 48) b5 (by omega)
  rw [← ha6] at o6 b6
  obtain ⟨a7, ha7⟩ : ∃ a, a = a6 ||| c7 * 2 ^ 56 := ⟨_, rfl⟩
  obtain ⟨o7, b7⟩ := or_u64 a6 (c7 * 2 ^ 56) b6 (by omega)
  rw [← ha7] at o7 b7
  refine ⟨a7, ?_, b7, ?_⟩
  ·refine ACall.of_does TTok Tryz.func130 rfl Tryz.call130 rfl (wpc_sound (M := MC) (PL := PLword) (CU := noCut) TTok mixed _ _ _ ?_)
   conv => whnf
   repeat ((first | refine ifB_t ?_ | refine ifB_f ?_); conv => whnf)
   refine ⟨by kernel_rfl, ?_⟩
   conv => whnf
   repeat ((first | (refine fit_u64 ⟨by first | omega | rfl | (dsimp only; omega), by first | omega | rfl | (dsimp only; omega)⟩ ?_) | refine ⟨_, rfl, ?_⟩ | (refine And.intro (by first | omega | rfl | (dsimp only; omega)) ?_) | (refine ⟨⟨?_, ?_, ?_⟩, ?_⟩; (focus omega); (focus (first | omega | (simp; done) | (simp; omega))); (focus (first | (simp; done) | (simp; omega) | (rw [toksC_length]; simp; omega))))); conv => whnf)
   conv => whnf
   have e1 : (c1 : Int) * 2 ^ min (Int.toNat 8) IntKind.u64.bits = ((c1 * 2 ^ 8 : Nat) : Int) := by rw [show min (Int.toNat 8) IntKind.u64.bits = 8 from by decide]; rw [Int.natCast_mul]; rfl
   refine fit_u64 (by rw [e1]; omega) ?_
   conv => whnf
   repeat ((first | (refine fit_u64 ⟨by first | omega | rfl | (dsimp only; omega), by first | omega | rfl | (dsimp only; omega)⟩ ?_) | refine ⟨_, rfl, ?_⟩ | (refine And.intro (by first | omega | rfl | (dsimp only; omega)) ?_) | (refine ⟨⟨?_, ?_, ?_⟩, ?_⟩; (focus omega); (focus (first | omega | (simp; done) | (simp; omega))); (focus (first | (simp; done) | (simp; omega) | (rw [toksC_length]; simp; omega))))); conv => whnf)
   conv => whnf
   have e2 : (c2 : Int) * 2 ^ min (Int.toNat 16) IntKind.u64.bits = ((c2 * 2 ^ 16 : Nat) : Int) := by rw [show min (Int.toNat 16) IntKind.u64.bits = 16 from by decide]; rw [Int.natCast_mul]; rfl
   refine fit_u64 (by rw [e2]; omega) ?_
   conv => whnf
   repeat ((first | (refine fit_u64 ⟨by first | omega | rfl | (dsimp only; omega), by first | omega | rfl | (dsimp only; omega)⟩ ?_) | refine ⟨_, rfl, ?_⟩ | (refine And.intro (by first | omega | rfl | (dsimp only; omega)) ?_) | (refine ⟨⟨?_, ?_, ?_⟩, ?_⟩; (focus omega); (focus (first | omega | (simp; done) | (simp; omega))); (focus (first | (simp; done) | (simp; omega) | (rw [toksC_length]; simp; omega))))); conv => whnf)
   conv => whnf
   have e3 : (c3 : Int) * 2 ^ min (Int.toNat 24) IntKind.u64.bits = ((c3 * 2 ^ 24 : Nat) : Int) := by rw [show min (Int.toNat 24) IntKind.u64.bits = 24 from by decide]; rw [Int.natCast_mul]; rfl
   refine fit_u64 (by rw [e3]; omega) ?_
   conv => whnf
   repeat ((first | (refine fit_u64 ⟨by first | omega | rfl | (dsimp only; omega), by first | omega | rfl | (dsimp only; omega)⟩ ?_) | refine ⟨_, rfl, ?_⟩ | (refine And.intro (by first | omega | rfl | (dsimp only; omega)) ?_) | (refine ⟨⟨?_, ?_, ?_⟩, ?_⟩; (focus omega); (focus (first | omega | (simp; done) | (simp; omega))); (focus (first | (simp; done) | (simp; omega) | (rw [toksC_length]; simp; omega))))); conv => whnf)
   conv => whnf
   have e4 : (c4 : Int) * 2 ^ min (Int.toNat 32) IntKind.u64.bits = ((c4 * 2 ^ 32 : Nat) : Int) := by rw [show min (Int.toNat 32) IntKind.u64.bits = 32 from by decide]; rw [Int.natCast_mul]; rfl
   refine fit_u64 (by rw [e4]; omega) ?_
   conv => whnf
   repeat ((first | (refine fit_u64 ⟨by first | omega | rfl | (dsimp only; omega), by first | omega | rfl | (dsimp only; omega)⟩ ?_) | refine ⟨_, rfl, ?_⟩ | (refine And.intro (by first | omega | rfl | (dsimp only; omega)) ?_) | (refine ⟨⟨?_, ?_, ?_⟩, ?_⟩; (focus omega); (focus (first | omega | (simp; done) | (simp; omega))); (focus (first | (simp; done) | (simp; omega) | (rw [toksC_length]; simp; omega))))); conv => whnf)
   conv => whnf
   have e5 : (c5 : Int) * 2 ^ min (Int.toNat 40) IntKind.u64.bits = ((c5 * 2 ^ 40 : Nat) : Int) := by rw [show min (Int.toNat 40) IntKind.u64.bits = 40 from by decide]; rw [Int.natCast_mul]; rfl
   refine fit_u64 (by rw [e5]; omega) ?_
   conv => whnf
   repeat ((first | (refine fit_u64 ⟨by first | omega | rfl | (dsimp only; omega), by first | omega | rfl | (dsimp only; omega)⟩ ?_) | refine ⟨_, rfl, ?_⟩ | (refine And.intro (by first | omega | rfl | (dsimp only; omega)) ?_) | (refine ⟨⟨?_, ?_, ?_⟩, ?_⟩; (focus omega); (focus (first | omega | (simp; done) | (simp; omega))); (focus (first | (simp; done) | (simp; omega) | (rw [toksC_length]; simp; omega))))); conv => whnf)
   conv => whnf
   have e6 : (c6 : Int) * 2 ^ min (Int.toNat 48) IntKind.u64.bits = ((c6 * 2 ^ 48 : Nat) : Int) := by rw [show min (Int.toNat 48) IntKind.u64.bits = 48 from by decide]; rw [Int.natCast_mul]; rfl
   refine fit_u64 (by rw [e6]; omega) ?_
   conv => whnf
   repeat ((first | (refine fit_u64 ⟨by first | omega | rfl | (dsimp only; omega), by first | omega | rfl | (dsimp only; omega)⟩ ?_) | refine ⟨_, rfl, ?_⟩ | (refine And.intro (by first | omega | rfl | (dsimp only; omega)) ?_) | (refine ⟨⟨?_, ?_, ?_⟩, ?_⟩; (focus omega); (focus (first | omega | (simp; done) | (simp; omega))); (focus (first | (simp; done) | (simp; omega) | (rw [toksC_length]; simp; omega))))); conv => whnf)
   conv => whnf
   have e7 : (c7 : Int) * 2 ^ min (Int.toNat 56) IntKind.u64.bits = ((c7 * 2 ^ 56 : Nat) : Int) := by rw [show min (Int.toNat 56) IntKind.u64.bits = 56 from by decide]; rw [Int.natCast_mul]; rfl
   refine fit_u64 (by rw [e7]; omega) ?_
   conv => whnf
   rw [e1, e2, e3, e4, e5, e6, e7, show (c0 : Int) = (a0 : Int) by rw [ha0], o1, o2, o3, o4, o5, o6, o7]
   conv => whnf
   repeat ((refine ⟨⟨rfl, rfl⟩, ?_⟩); conv => whnf)
   rfl
  ·intro i hi
   simp only [ha7, ha6, ha5, ha4, ha3, ha2, ha1, ha0, Nat.testBit_or]
   have t0 : (c0 * 2 ^ 0).testBit (8 * i + 7) = (decide (i = 0) && decide (128 ≤ c0)) := byte_bit c0 h0 0 i
   have t1 : (c1 * 2 ^ 8).testBit (8 * i + 7) = (decide (i = 1) && decide (128 ≤ c1)) := byte_bit c1 h1 1 i
   have t2 : (c2 * 2 ^ 16).testBit (8 * i + 7) = (decide (i = 2) && decide (128 ≤ c2)) := byte_bit c2 h2 2 i
   have t3 : (c3 * 2 ^ 24).testBit (8 * i + 7) = (decide (i = 3) && decide (128 ≤ c3)) := byte_bit c3 h3 3 i
   have t4 : (c4 * 2 ^ 32).testBit (8 * i + 7) = (decide (i = 4) && decide (128 ≤ c4)) := byte_bit c4 h4 4 i
   have t5 : (c5 * 2 ^ 40).testBit (8 * i + 7) = (decide (i = 5) && decide (128 ≤ c5)) := byte_bit c5 h5 5 i
   have t6 : (c6 * 2 ^ 48).testBit (8 * i + 7) = (decide (i = 6) && decide (128 ≤ c6)) := byte_bit c6 h6 6 i
   have t7 : (c7 * 2 ^ 56).testBit (8 * i + 7) = (decide (i = 7) && decide (128 ≤ c7)) := byte_bit c7 h7 7 i
   have t0' : c0.testBit (8 * i + 7) = (decide (i = 0) && decide (128 ≤ c0)) := by rw [← t0]; simp
   rw [t0', t1, t2, t3, t4, t5, t6, t7]
   have hc : i = 0 ∨ i = 1 ∨ i = 2 ∨ i = 3 ∨ i = 4 ∨ i = 5 ∨ i = 6 ∨ i = 7 := by omega
   rcases hc with rfl | rfl | rfl | rfl | rfl | rfl | rfl | rfl <;> simp <;> omega
end
section

def uLead (c : Int) : Nat × Int × Int :=
 if 192 ≤ c ∧ c < 224 then (1, c % 32, 128) else if 224 ≤ c ∧ c < 240 then (2, c % 16, 2048) else if 240 ≤ c ∧ c < 248 then (3, c % 8, 65536) else (0, 0, 0)
def uCont (c : Int) : Bool := decide (128 ≤ c ∧ c < 192)
def uVal (v : Int) (l : List Int) : Int := l.foldl (fun x c => x * 64 + c % 64) v
def uRight (low v : Int) : Bool := decide (low ≤ v ∧ v ≤ 1114111 ∧ ¬ (55296 ≤ v ∧ v ≤ 57343))
def validF : Nat → List Int → Bool
 | 0, _ => true
 | _ + 1, [] => true
 | n + 1, c :: r =>
  if c < 128 then validF n r
  else if (uLead c).1 = 0 ∨ r.length < (uLead c).1 then false
  else (r.take (uLead c).1).all uCont && uRight (uLead c).2.2 (uVal (uLead c).2.1 (r.take (uLead c).1)) && validF n (r.drop (uLead c).1)
def validR (l : List Int) : Bool := validF l.length l
theorem validF_le : ∀ (n m : Nat) (l : List Int), l.length ≤ n → l.length ≤ m → validF n l = validF m l
 | 0, 0, l, _, _ => rfl
 | 0, m + 1, l, h, _ => by
  obtain rfl : l = [] := List.length_eq_zero_iff.1 (by omega)
  rfl
 | n + 1, 0, l, _, h => by
  obtain rfl : l = [] := List.length_eq_zero_iff.1 (by omega)
  rfl
 | n + 1, m + 1, [], _, _ => rfl
 | n + 1, m + 1, c :: r, h1, h2 => by
  simp only [List.length_cons] at h1 h2
  unfold validF
  rw [validF_le n m r (by omega) (by omega), validF_le n m (r.drop (uLead c).1) (by simp; omega) (by simp; omega)]
theorem validR_nil : validR [] = true := rfl
theorem validR_asc {c : Int} (h : c < 128) (r : List Int) : validR (c :: r) = validR r := by
 show validF (r.length + 1) (c :: r) = _
 unfold validF
 rw [if_pos h]
 rfl
theorem validR_big {c : Int} (h : ¬ c < 128) (r : List Int) : validR (c :: r) = if (uLead c).1 = 0 ∨ r.length < (uLead c).1 then false
  else (r.take (uLead c).1).all uCont && uRight (uLead c).2.2 (uVal (uLead c).2.1 (r.take (uLead c).1)) && validR (r.drop (uLead c).1) := by
 show validF (r.length + 1) (c :: r) = _
 unfold validF
 rw [if_neg h]
 congr 2
 exact validF_le _ _ _ (by simp) (by simp)
theorem validR_skip : ∀ (k : Nat) (s : List Int), k ≤ s.length → (∀ i, i < k → s.getD i 0 < 128) → validR (s.drop k) = validR s
 | 0, s, _, _ => rfl
 | k + 1, [], h, _ => by simp at h
 | k + 1, c :: r, h, ha => by
  have h0 : c < 128 := by simpa using ha 0 (by omega)
  rw [validR_asc h0, List.drop_succ_cons]
  exact validR_skip k r (by simpa using h) (fun i hi => by simpa using ha (i + 1) (by omega))
def inR (lo hi x : Int) : Bool := decide (lo ≤ x) && decide (x ≤ hi)
theorem first_cases : ∀ c : Fin 256, 128 ≤ c.val →
  (utf8First.getD c.val 0 = 241 ∧ (c.val < 194 ∨ 245 ≤ c.val)) ∨ (utf8First.getD c.val 0 = 2 ∧ 194 ≤ c.val ∧ c.val < 224) ∨ (utf8First.getD c.val 0 = 19 ∧ c.val = 224) ∨
  (utf8First.getD c.val 0 = 3 ∧ 225 ≤ c.val ∧ c.val < 240 ∧ c.val ≠ 237) ∨ (utf8First.getD c.val 0 = 35 ∧ c.val = 237) ∨ (utf8First.getD c.val 0 = 52 ∧ c.val = 240) ∨
  (utf8First.getD c.val 0 = 4 ∧ 241 ≤ c.val ∧ c.val < 244) ∨ (utf8First.getD c.val 0 = 68 ∧ c.val = 244) := by decide +kernel
theorem utf8First_length : utf8First.length = 256 := by decide +kernel
def Tab (c z lo hi : Int) : Prop :=
 bits .and .u8 (utf8First.getD c.toNat 0) 7 = z ∧ (0 ≤ utf8First.getD c.toNat 0 / 2 ^ min (Int.toNat 4) IntKind.u8.bits ∧ utf8First.getD c.toNat 0 / 2 ^ min (Int.toNat 4) IntKind.u8.bits < 16) ∧
  takeN 2 ((utf8Ranges.map (AV.int .u8)).drop ((utf8First.getD c.toNat 0 / 2 ^ min (Int.toNat 4) IntKind.u8.bits).toNat * 2)) = some [.int .u8 lo, .int .u8 hi]
theorem tab_of (c : Int) (h0 : 128 ≤ c) (h1 : c < 256) :
  (Tab c 1 128 191 ∧ (c < 194 ∨ 245 ≤ c)) ∨ (Tab c 1 0 0 ∧ (c < 194 ∨ 245 ≤ c)) ∨ (Tab c 2 128 191 ∧ 194 ≤ c ∧ c < 224) ∨ (Tab c 3 160 191 ∧ c = 224) ∨ (Tab c 3 128 191 ∧ 225 ≤ c ∧ c < 240 ∧ c ≠ 237) ∨
  (Tab c 3 128 159 ∧ c = 237) ∨ (Tab c 4 144 191 ∧ c = 240) ∨ (Tab c 4 128 191 ∧ 241 ≤ c ∧ c < 244) ∨ (Tab c 4 128 143 ∧ c = 244) := by
 have h := first_cases ⟨c.toNat, by omega⟩ (by simp; omega)
 simp only at h
 unfold Tab
 rcases h with ⟨e, h⟩ | ⟨e, h⟩ | ⟨e, h⟩ | ⟨e, h⟩ | ⟨e, h⟩ | ⟨e, h⟩ | ⟨e, h⟩ | ⟨e, h⟩ <;> rw [e]
 ·exact .inr (.inl ⟨⟨by decide, by decide, rfl⟩, by omega⟩)
 ·exact .inr (.inr (.inl ⟨⟨by decide, by decide, rfl⟩, by omega⟩))
 ·exact .inr (.inr (.inr (.inl ⟨⟨by decide, by decide, rfl⟩, by omega⟩)))
 ·exact .inr (.inr (.inr (.inr (.inl ⟨⟨by decide, by decide, rfl⟩, by omega⟩))))
 ·exact .inr (.inr (.inr (.inr (.inr (.inl ⟨⟨by decide, by decide, rfl⟩, by omega⟩)))))
 ·exact .inr (.inr (.inr (.inr (.inr (.inr (.inl ⟨⟨by decide, by decide, rfl⟩, by omega⟩))))))
 ·exact .inr (.inr (.inr (.inr (.inr (.inr (.inr (.inl ⟨⟨by decide, by decide, rfl⟩, by omega⟩)))))))
 ·exact .inr (.inr (.inr (.inr (.inr (.inr (.inr (.inr ⟨⟨by decide, by decide, rfl⟩, by omega⟩)))))))
theorem bool_ext {a b : Bool} (h : a = true ↔ b = true) : a = b := by
 cases a <;> cases b <;> simp_all
theorem go_step (c : Int) (r : List Int) (hr : Byt r) (h0 : 128 ≤ c) (h1 : c < 256) : ∃ z lo hi : Int, Tab c z lo hi ∧ (0 ≤ lo ∧ lo < 256 ∧ 0 ≤ hi ∧ hi < 256) ∧
  ((z = 1 ∧ validR (c :: r) = false) ∨
   (z = 2 ∧ validR (c :: r) = (decide (1 ≤ r.length) && inR lo hi (r.getD 0 0) && validR (r.drop 1))) ∨
   (z = 3 ∧ validR (c :: r) = (decide (2 ≤ r.length) && inR lo hi (r.getD 0 0) && inR 128 191 (r.getD 1 0) && validR (r.drop 2))) ∨
   (z = 4 ∧ validR (c :: r) = (decide (3 ≤ r.length) && inR lo hi (r.getD 0 0) && inR 128 191 (r.getD 1 0) && inR 128 191 (r.getD 2 0) && validR (r.drop 3)))) := by
 have hbig := validR_big (c := c) (by omega) r
 have two : ∀ lo hi, Tab c 3 lo hi → (∀ x y : Int, (0 ≤ x ∧ x < 256) → (0 ≤ y ∧ y < 256) → ((uCont x && uCont y) = true ∧ uRight 2048 (((c % 16) * 64 + x % 64) * 64 + y % 64) = true ↔ (lo ≤ x ∧ x ≤ hi) ∧ (128 ≤ y ∧ y ≤ 191))) → 224 ≤ c → c < 240 →
   validR (c :: r) = (decide (2 ≤ r.length) && inR lo hi (r.getD 0 0) && inR 128 191 (r.getD 1 0) && validR (r.drop 2)) := by
  intro lo hi _ hk a1 a2
  have hu : uLead c = (2, c % 16, 2048) := by unfold uLead; rw [if_neg (by omega), if_pos ⟨a1, a2⟩]
  rw [hbig, hu]
  match r, hr with
  | [], _ => simp
  | [x], _ => simp
  | x :: y :: r, hr =>
   have hx := hr x (by simp)
   have hy := hr y (by simp)
   have := hk x y hx hy
   rw [if_neg (by simp)]
   apply bool_ext
   simp only [List.take_succ_cons, List.take_zero, List.all_cons, List.all_nil, Bool.and_true, uVal, List.foldl_cons, List.foldl_nil, Bool.and_eq_true, inR, decide_eq_true_eq] at this ⊢
   simp only [List.length_cons, List.getD_cons_zero, List.getD_cons_succ, List.drop_succ_cons, List.drop_zero]
   constructor
   ·rintro ⟨⟨a, b⟩, d⟩
    obtain ⟨e, f⟩ := this.1 ⟨a, b⟩
    exact ⟨⟨⟨by omega, e⟩, f⟩, d⟩
   ·rintro ⟨⟨⟨_, e⟩, f⟩, d⟩
    exact ⟨this.2 ⟨e, f⟩, d⟩
 have three : ∀ lo hi, Tab c 4 lo hi → (∀ x y z : Int, (0 ≤ x ∧ x < 256) → (0 ≤ y ∧ y < 256) → (0 ≤ z ∧ z < 256) → ((uCont x && (uCont y && uCont z)) = true ∧ uRight 65536 ((((c % 8) * 64 + x % 64) * 64 + y % 64) * 64 + z % 64) = true ↔ (lo ≤ x ∧ x ≤ hi) ∧ (128 ≤ y ∧ y ≤ 191) ∧ (128 ≤ z ∧ z ≤ 191))) → 240 ≤ c → c < 248 →
   validR (c :: r) = (decide (3 ≤ r.length) && inR lo hi (r.getD 0 0) && inR 128 191 (r.getD 1 0) && inR 128 191 (r.getD 2 0) && validR (r.drop 3)) := by
  intro lo hi _ hk a1 a2
  have hu : uLead c = (3, c % 8, 65536) := by unfold uLead; rw [if_neg (by omega), if_neg (by omega), if_pos ⟨a1, a2⟩]
  rw [hbig, hu]
  match r, hr with
  | [], _ => simp
  | [x], _ => simp
  | [x, y], _ => simp
  | x :: y :: z :: r, hr =>
   have hx := hr x (by simp)
   have hy := hr y (by simp)
   have hz := hr z (by simp)
   have := hk x y z hx hy hz
   rw [if_neg (by simp)]
   apply bool_ext
   simp only [List.take_succ_cons, List.take_zero, List.all_cons, List.all_nil, Bool.and_true, uVal, List.foldl_cons, List.foldl_nil, Bool.and_eq_true, inR, decide_eq_true_eq] at this ⊢
   simp only [List.length_cons, List.getD_cons_zero, List.getD_cons_succ, List.drop_succ_cons, List.drop_zero]
   constructor
   ·rintro ⟨⟨a, b⟩, d⟩
    obtain ⟨e, f, g⟩ := this.1 ⟨a, b⟩
    exact ⟨⟨⟨⟨by omega, e⟩, f⟩, g⟩, d⟩
   ·rintro ⟨⟨⟨⟨_, e⟩, f⟩, g⟩, d⟩
    exact ⟨this.2 ⟨e, f, g⟩, d⟩
 have bad : (c < 194 ∨ 245 ≤ c) → validR (c :: r) = false := by
  intro h
  rw [hbig]
  split
  ·rfl
  rename_i hh
  simp only [not_or] at hh
  obtain ⟨g1, g2⟩ := hh
  unfold uLead at g1 g2 ⊢
  split at g1
  ·rename_i k
   rw [if_pos k] at g2 ⊢
   match r, hr with
   | [], _ => simp at g2
   | x :: r, hr =>
    have hx := hr x (by simp)
    have hf : uRight 128 (c % 32 * 64 + x % 64) = false := decide_eq_false (by omega)
    simp only [List.take_succ_cons, List.take_zero, uVal, List.foldl_cons, List.foldl_nil]
    rw [hf]; simp
  split at g1
  ·omega
  split at g1
  ·rename_i k1 k2 k
   rw [if_neg k1, if_neg k2, if_pos k] at g2 ⊢
   match r, hr with
   | [], _ => simp at g2
   | [x], _ => simp at g2
   | [x, y], _ => simp at g2
   | x :: y :: z :: r, hr =>
    have hf : uRight 65536 (((c % 8 * 64 + x % 64) * 64 + y % 64) * 64 + z % 64) = false := decide_eq_false (by omega)
    simp only [List.take_succ_cons, List.take_zero, uVal, List.foldl_cons, List.foldl_nil]
    rw [hf]; simp
  ·exact absurd rfl g1
 rcases tab_of c h0 h1 with ⟨t, h⟩ | ⟨t, h⟩ | ⟨t, h⟩ | ⟨t, h⟩ | ⟨t, h⟩ | ⟨t, h⟩ | ⟨t, h⟩ | ⟨t, h⟩ | ⟨t, h⟩
 ·exact ⟨_, _, _, t, by omega, .inl ⟨rfl, bad h⟩⟩
 ·exact ⟨_, _, _, t, by omega, .inl ⟨rfl, bad h⟩⟩
 ·refine ⟨_, _, _, t, by omega, .inr (.inl ⟨rfl, ?_⟩)⟩
  have hu : uLead c = (1, c % 32, 128) := by unfold uLead; rw [if_pos (by omega)]
  rw [hbig, hu]
  match r, hr with
  | [], _ => simp
  | x :: r, hr =>
   have hx := hr x (by simp)
   have key : (uCont x = true ∧ uRight 128 (c % 32 * 64 + x % 64) = true) ↔ (128 ≤ x ∧ x ≤ 191) := by
    simp only [uCont, uRight, decide_eq_true_eq]
    omega
   rw [if_neg (by simp)]
   apply bool_ext
   simp only [List.take_succ_cons, List.take_zero, List.all_cons, List.all_nil, Bool.and_true, uVal, List.foldl_cons, List.foldl_nil, Bool.and_eq_true, inR, decide_eq_true_eq]
   simp only [List.length_cons, List.getD_cons_zero, List.drop_succ_cons, List.drop_zero]
   constructor
   ·rintro ⟨⟨a, b⟩, d⟩; exact ⟨⟨by omega, key.1 ⟨a, b⟩⟩, d⟩
   ·rintro ⟨⟨_, e⟩, d⟩; exact ⟨key.2 e, d⟩
 ·exact ⟨_, _, _, t, by omega, .inr (.inr (.inl ⟨rfl, two _ _ t (fun x y hx hy => by simp only [uCont, uRight, Bool.and_eq_true, decide_eq_true_eq]; omega) (by omega) (by omega)⟩))⟩
 ·exact ⟨_, _, _, t, by omega, .inr (.inr (.inl ⟨rfl, two _ _ t (fun x y hx hy => by simp only [uCont, uRight, Bool.and_eq_true, decide_eq_true_eq]; omega) (by omega) (by omega)⟩))⟩
 ·exact ⟨_, _, _, t, by omega, .inr (.inr (.inl ⟨rfl, two _ _ t (fun x y hx hy => by simp only [uCont, uRight, Bool.and_eq_true, decide_eq_true_eq]; omega) (by omega) (by omega)⟩))⟩
 ·exact ⟨_, _, _, t, by omega, .inr (.inr (.inr ⟨rfl, three _ _ t (fun x y z hx hy hz => by simp only [uCont, uRight, Bool.and_eq_true, decide_eq_true_eq]; omega) (by omega) (by omega)⟩))⟩
 ·exact ⟨_, _, _, t, by omega, .inr (.inr (.inr ⟨rfl, three _ _ t (fun x y z hx hy hz => by simp only [uCont, uRight, Bool.and_eq_true, decide_eq_true_eq]; omega) (by omega) (by omega)⟩))⟩
 ·exact ⟨_, _, _, t, by omega, .inr (.inr (.inr ⟨rfl, three _ _ t (fun x y z hx hy hz => by simp only [uCont, uRight, Bool.and_eq_true, decide_eq_true_eq]; omega) (by omega) (by omega)⟩))⟩
end
section

attribute [local irreducible] ifB fitP Does Weaker
def PLvalid : Nat → Bool × Plan := plans [(8, (false, takesTo [0, 1, 2, 3, 4, 6, 7] (.all [(5, .all [(8, takes [9, 10, 11, 12])])]))),
 (10, (false, takesTo [0, 1, 2, 3, 4, 6, 7, 10, 11, 13, 14] (.all [(5, .all [(8, takesTo [9] (.all [(12, .all [(15, takes [16, 17, 18, 19, 20])])]))])]))),
 (18, (true, takes (List.range 19))), (22, (true, takes (List.range 31))), (26, (true, takes (List.range 43)))]
theorem asc_of_word {W : Nat} (hW : W < 18446744073709551616) {s : List Int} (hs : 8 ≤ s.length) (hb : hiBits W (fun i => s.getD i 0)) (h : bits .and .u64 (W : Int) 9259542123273814144 = 0) : ∀ i, i < 8 → s.getD i 0 < 128 := by
 intro i hi
 have e : bits .and .u64 (W : Int) ((9259542123273814144 : Nat) : Int) = ((W &&& 9259542123273814144 : Nat) : Int) := and_u64 W 9259542123273814144 hW (by decide)
 have h' : bits .and .u64 (W : Int) ((9259542123273814144 : Nat) : Int) = 0 := h
 rw [e] at h'
 have h0 : W &&& 9259542123273814144 = 0 := by omega
 have hbit := congrArg (fun n => n.testBit (8 * i + 7)) h0
 simp only [Nat.testBit_and, Nat.zero_testBit] at hbit
 have hm : (9259542123273814144 : Nat).testBit (8 * i + 7) = true := by
  have hc : i = 0 ∨ i = 1 ∨ i = 2 ∨ i = 3 ∨ i = 4 ∨ i = 5 ∨ i = 6 ∨ i = 7 := by omega
  rcases hc with rfl | rfl | rfl | rfl | rfl | rfl | rfl | rfl <;> decide
 rw [hm, Bool.and_true, hb i hi] at hbit
 simpa using hbit
theorem and0_or {a b : Nat} (ha : a < 18446744073709551616) (hb : b < 18446744073709551616) (h : bits .and .u64 (bits .or .u64 (a : Int) (b : Int)) 9259542123273814144 = 0) :
  bits .and .u64 (a : Int) 9259542123273814144 = 0 ∧ bits .and .u64 (b : Int) 9259542123273814144 = 0 := by
 obtain ⟨e1, e2⟩ := or_u64 a b ha hb
 rw [e1] at h
 have e3 : bits .and .u64 ((a ||| b : Nat) : Int) ((9259542123273814144 : Nat) : Int) = _ := and_u64 _ 9259542123273814144 e2 (by decide)
 have h' : bits .and .u64 ((a ||| b : Nat) : Int) ((9259542123273814144 : Nat) : Int) = 0 := h
 rw [e3, Nat.and_or_distrib_right] at h'
 have h0 : (a &&& 9259542123273814144) ||| (b &&& 9259542123273814144) = 0 := by omega
 obtain ⟨h1, h2⟩ := Nat.or_eq_zero_iff.1 h0
 have f1 : bits .and .u64 (a : Int) ((9259542123273814144 : Nat) : Int) = _ := and_u64 a 9259542123273814144 ha (by decide)
 have f2 : bits .and .u64 (b : Int) ((9259542123273814144 : Nat) : Int) = _ := and_u64 b 9259542123273814144 hb (by decide)
 rw [h1] at f1
 rw [h2] at f2
 exact ⟨f1, f2⟩
theorem and0_or4 {a b c d : Nat} (ha : a < 18446744073709551616) (hb : b < 18446744073709551616) (hc : c < 18446744073709551616) (hd : d < 18446744073709551616)
  (h : bits .and .u64 (bits .or .u64 (bits .or .u64 (a : Int) (b : Int)) (bits .or .u64 (c : Int) (d : Int))) 9259542123273814144 = 0) :
  (bits .and .u64 (a : Int) 9259542123273814144 = 0 ∧ bits .and .u64 (b : Int) 9259542123273814144 = 0) ∧ (bits .and .u64 (c : Int) 9259542123273814144 = 0 ∧ bits .and .u64 (d : Int) 9259542123273814144 = 0) := by
 obtain ⟨e1, l1⟩ := or_u64 a b ha hb
 obtain ⟨e2, l2⟩ := or_u64 c d hc hd
 rw [e1, e2] at h
 obtain ⟨h1, h2⟩ := and0_or l1 l2 h
 rw [← e1] at h1
 rw [← e2] at h2
 exact ⟨and0_or ha hb h1, and0_or hc hd h2⟩
theorem pureL_cut' {cs : List AV} (h : pureL cs = true) (lo hi : Option Int) (sz : Nat) : pureL (cutB cs lo hi sz) = true := by
 cases lo <;> cases hi <;> simp only [cutB] <;> first | exact h | exact pureL_take h _ | exact pureL_drop h _ | exact pureL_take (pureL_drop h _) _
theorem byt_drop {b : List Int} (hb : Byt b) (n : Nat) : Byt (b.drop n) := fun y hy => hb y (List.mem_of_mem_drop hy)
theorem valid_ok (b : List Int) (hb : Byt b) (hl : b.length ≤ 1099511627776) : ACall Tryz.prog 114 [.ro b.length (bys b)] (.bool (validR b)) [] := by
 refine ACall.of_does TTok Tryz.func114 rfl Tryz.call114 rfl (wpc_sound (M := MC) (PL := PLvalid) (CU := noCut) TTok mixed _ _ _ ?_)
 conv => whnf
 repeat ((refine And.intro (by first | omega | rfl | (dsimp only; omega)) ?_); conv => whnf)
 refine Does.loop (fun s : List Int => mkSt [(0, .ro s.length (bys s))] [] 0 188) (fun s => Byt s ∧ s.length ≤ 1099511627776 ∧ validR s = validR b) (fun s => s.length) ?_ b ⟨hb, hl, rfl⟩ ?_
 ·rintro s ⟨hs, hsl, hv⟩
  refine wpc_sound (M := MC) (PL := PLvalid) (CU := cutAt [200014]) TTok mixed _ _ _ ?_
  conv => whnf
  refine ifB_dec (fun k1 => ?_) (fun k1 => ?_)
  ·match s, hs, k1 with
   | c :: r, hs, k1 =>
   have hc := hs c (by simp)
   have hr : Byt r := fun x hx => hs x (by simp [hx])
   conv => whnf
   repeat ((first | refine ⟨_, rfl, ?_⟩ | (refine ⟨⟨?_, ?_, ?_⟩, ?_⟩; (focus omega); (focus (first | omega | (simp; done) | (simp; omega))); (focus (first | (simp; done) | (simp; omega) | (rw [toksC_length]; simp; omega))))); conv => whnf)
   refine ifB_dec (fun k2 => ?_) (fun k2 => ?_)
   ·have hvr : validR r = validR b := by rw [← validR_asc k2 r]; exact hv
    conv => whnf
    repeat ((refine ⟨⟨?_, ?_⟩, ?_⟩; (focus (simp; done)); (focus (first | (simp only [okB]; omega) | (simp [okB]; omega)))); conv => whnf)
    refine ifB_dec (fun k3 => ?_) (fun k3 => ?_)
    ·have k3' : 8 < r.length := by simp [lenB] at k3; omega
     obtain ⟨W1, hw1, hW1, hb1⟩ := word_ok r (by omega) hr
     conv => whnf
     repeat ((first | refine ifB_t ?_ | refine ⟨pureL_bys _, ?_⟩ | refine ⟨rfl, ?_⟩); conv => whnf)
     refine ⟨_, _, ACall.arg1 hw1 rfl rfl, by first | rfl | simp [noRoIf, noRoL, noRoV, noRoL_bys], ?_⟩
     conv => whnf
     repeat ((refine ifB_t ?_); conv => whnf)
     refine ifB_dec (fun k4 => ?_) (fun k4 => ?_)
     ·have hv8 : validR (r.drop 8) = validR b := by
       rw [validR_skip 8 r (by omega) (asc_of_word hW1 (by omega) hb1 k4)]
       exact hvr
      conv => whnf
      repeat ((first | refine ifB_t ?_ | refine ifB_f ?_); conv => whnf)
      refine ⟨⟨by simp [lenB, cutB], by simp [okB, lenB]; omega⟩, ?_⟩
      conv => whnf
      repeat ((first | refine ifB_t ?_ | refine ifB_f ?_); conv => whnf)
      refine ⟨by kernel_rfl, ?_⟩
      conv => whnf
      refine ifB_dec (fun k5 => ?_) (fun k5 => ?_)
      ·have k5' : 16 < (r.drop 8).length := by
        have : (16 : Int) < ((r.length - 8 : Nat) : Int) := k5
        rw [List.length_drop]
        omega
       have k5'' : 24 < r.length := by rw [List.length_drop] at k5'; omega
       obtain ⟨W2, hw2, hW2, hb2⟩ := word_ok (r.drop 8) (by omega) (byt_drop hr 8)
       obtain ⟨W3, hw3, hW3, hb3⟩ := word_ok ((r.drop 8).drop 8) (by rw [List.length_drop]; omega) (byt_drop (byt_drop hr 8) 8)
       conv => whnf
       repeat ((first | refine ifB_t ?_ | refine ifB_f ?_); conv => whnf)
       refine ⟨⟨by simp [lenB, cutB], by simp [okB, lenB]; omega⟩, ?_⟩
       conv => whnf
       repeat ((first | refine ifB_t ?_ | refine ifB_f ?_); conv => whnf)
       refine ⟨pureL_cut' (pureL_cut' (pureL_bys _) _ _ _) _ _ _, ?_⟩
       conv => whnf
       repeat ((first | refine ifB_t ?_ | refine ifB_f ?_); conv => whnf)
       refine ⟨rfl, ?_⟩
       conv => whnf
       repeat ((first | refine ifB_t ?_ | refine ifB_f ?_); conv => whnf)
       conv => whnf
       repeat ((first | refine ifB_t ?_ | refine ifB_f ?_); conv => whnf)
       refine ⟨_, _, ACall.arg1 hw2 List.length_drop.symm (bys_drop r 8), rfl, ?_⟩
       conv => whnf
       repeat ((first | refine ifB_t ?_ | refine ifB_f ?_); conv => whnf)
       refine ⟨pureL_cut' (pureL_cut' (pureL_cut' (pureL_bys _) _ _ _) _ _ _) _ _ _, ?_⟩
       conv => whnf
       repeat ((first | refine ifB_t ?_ | refine ifB_f ?_); conv => whnf)
       refine ⟨rfl, ?_⟩
       conv => whnf
       repeat ((first | refine ifB_t ?_ | refine ifB_f ?_); conv => whnf)
       refine ⟨_, _, ACall.arg1 hw3 (by simp [lenB]; omega) (by show ((bys r).drop 8).drop 8 = _; rw [bys_drop, bys_drop]), rfl, ?_⟩
       conv => whnf
       repeat ((first | refine ifB_t ?_ | refine ifB_f ?_); conv => whnf)
       refine ifB_dec (fun k6 => ?_) (fun k6 => ?_)
       ·obtain ⟨a2, a3⟩ := and0_or hW2 hW3 k6
        have hv24 : validR (((r.drop 8).drop 8).drop 8) = validR b := by
         rw [validR_skip 8 _ (by simp; omega) (asc_of_word hW3 (by simp; omega) hb3 a3), validR_skip 8 _ (by omega) (asc_of_word hW2 (by omega) hb2 a2)]
         exact hv8
        conv => whnf
        repeat ((first | refine ifB_t ?_ | refine ifB_f ?_); conv => whnf)
        refine ⟨⟨by simp [lenB, cutB], by simp [okB, lenB]; omega⟩, ?_⟩
        conv => whnf
        repeat ((first | refine ifB_t ?_ | refine ifB_f ?_); conv => whnf)
        refine Does.loop (fun s : List Int => mkSt [(0, .ro s.length (bys s))] [] 0 188) (fun s => Byt s ∧ s.length ≤ r.length ∧ validR s = validR b) (fun s => s.length) ?_ (((r.drop 8).drop 8).drop 8) ⟨byt_drop (byt_drop (byt_drop hr 8) 8) 8, by simp, hv24⟩ ?_
        ·rintro s ⟨is, isl, iv⟩
         refine wpc_sound (M := MC) (PL := PLvalid) (CU := noCut) TTok mixed _ _ _ ?_
         conv => whnf
         repeat ((first | refine ifB_t ?_ | refine ifB_f ?_); conv => whnf)
         refine ⟨by kernel_rfl, ?_⟩
         conv => whnf
         refine ifB_dec (fun k7 => ?_) (fun k7 => ?_)
         ·have k7' : 32 < s.length := by omega
          obtain ⟨V1, v1, V1l, c1⟩ := word_ok s (by omega) is
          obtain ⟨V2, v2, V2l, c2⟩ := word_ok (s.drop 8) (by simp; omega) (byt_drop is 8)
          obtain ⟨V3, v3, V3l, c3⟩ := word_ok (s.drop 16) (by simp; omega) (byt_drop is 16)
          obtain ⟨V4, v4, V4l, c4⟩ := word_ok (s.drop 24) (by simp; omega) (byt_drop is 24)
          conv => whnf
          repeat ((first | refine ifB_t ?_ | refine ⟨pureL_bys _, ?_⟩ | refine ⟨rfl, ?_⟩ | (refine ⟨⟨?_, ?_⟩, ?_⟩; (focus (simp; done)); (focus (first | (simp only [okB]; omega) | (simp [okB]; omega))))); conv => whnf)
          refine ⟨_, _, v1, by first | rfl | simp [noRoIf, noRoL, noRoV, noRoL_bys], ?_⟩
          conv => whnf
          repeat ((first | refine ifB_t ?_ | refine ⟨pureL_cutB _ _ _ _, ?_⟩ | refine ⟨rfl, ?_⟩); conv => whnf)
          refine ⟨_, _, ACall.arg1 v2 (by simp [lenB]) (by show (bys s).drop 8 = _; rw [bys_drop]), rfl, ?_⟩
          conv => whnf
          repeat ((first | refine ifB_t ?_ | refine ⟨pureL_cutB _ _ _ _, ?_⟩ | refine ⟨rfl, ?_⟩); conv => whnf)
          refine ⟨_, _, ACall.arg1 v3 (by simp [lenB]) (by show (bys s).drop 16 = _; rw [bys_drop]), rfl, ?_⟩
          conv => whnf
          repeat ((first | refine ifB_t ?_ | refine ⟨pureL_cutB _ _ _ _, ?_⟩ | refine ⟨rfl, ?_⟩); conv => whnf)
          refine ⟨_, _, ACall.arg1 v4 (by simp [lenB]) (by show (bys s).drop 24 = _; rw [bys_drop]), rfl, ?_⟩
          conv => whnf
          repeat ((first | refine ifB_t ?_ | refine ifB_f ?_); conv => whnf)
          refine ifB_dec (fun k8 => ?_) (fun k8 => ?_)
          ·obtain ⟨⟨x1, x2⟩, ⟨x3, x4⟩⟩ := and0_or4 V1l V2l V3l V4l k8
           have hv32 : validR (s.drop 32) = validR b := by
            have y1 := validR_skip 8 s (by omega) (asc_of_word V1l (by omega) c1 x1)
            have y2 := validR_skip 8 (s.drop 8) (by simp; omega) (asc_of_word V2l (by simp; omega) c2 x2)
            have y3 := validR_skip 8 (s.drop 16) (by simp; omega) (asc_of_word V3l (by simp; omega) c3 x3)
            have y4 := validR_skip 8 (s.drop 24) (by simp; omega) (asc_of_word V4l (by simp; omega) c4 x4)
            rw [List.drop_drop] at y2 y3 y4
            rw [y4, y3, y2, y1]
            exact iv
           conv => whnf
           repeat ((first | refine ifB_t ?_ | refine ifB_f ?_); conv => whnf)
           refine ⟨⟨by simp, by simp [okB]; omega⟩, ?_⟩
           conv => whnf
           repeat ((first | refine ifB_t ?_ | refine ifB_f ?_); conv => whnf)
           refine ⟨s.drop 32, ⟨byt_drop is 32, by simp; omega, hv32⟩, by simp; omega, weaker_of [] rfl rfl ⟨⟨by simp [lenB], by show (bys s).drop 32 = _; rw [bys_drop], pureL_bys _⟩, trivial⟩ trivial⟩
          ·conv => whnf
           repeat ((first | refine ifB_t ?_ | refine ifB_f ?_); conv => whnf)
           refine ⟨s, ⟨is, by simp at hsl ⊢; omega, iv⟩, by simp; omega, weaker_of [] rfl rfl ⟨⟨rfl, rfl, pureL_bys _⟩, trivial⟩ trivial⟩
         ·conv => whnf
          repeat ((first | refine ifB_t ?_ | refine ifB_f ?_); conv => whnf)
          refine ⟨s, ⟨is, by simp at hsl ⊢; omega, iv⟩, by simp; omega, weaker_of [] rfl rfl ⟨⟨rfl, rfl, pureL_bys _⟩, trivial⟩ trivial⟩
        ·exact weaker_of [] rfl rfl ⟨⟨by simp [lenB]; omega, by show ((bys r).drop 8).drop 16 = _; rw [bys_drop, bys_drop]; simp [List.drop_drop], pureL_bys _⟩, trivial⟩ trivial
       ·conv => whnf
        repeat ((first | refine ifB_t ?_ | refine ifB_f ?_); conv => whnf)
        refine ⟨r.drop 8, ⟨byt_drop hr 8, by simp at hsl ⊢; omega, hv8⟩, by simp; omega, weaker_of [] rfl rfl ⟨⟨List.length_drop.symm, bys_drop r 8, pureL_bys _⟩, trivial⟩ trivial⟩
      ·conv => whnf
       repeat ((first | refine ifB_t ?_ | refine ifB_f ?_); conv => whnf)
       refine ⟨r.drop 8, ⟨byt_drop hr 8, by simp at hsl ⊢; omega, hv8⟩, by simp; omega, weaker_of [] rfl rfl ⟨⟨List.length_drop.symm, bys_drop r 8, pureL_bys _⟩, trivial⟩ trivial⟩
     ·conv => whnf
      repeat ((first | refine ifB_t ?_ | refine ifB_f ?_); conv => whnf)
      refine ⟨r, ⟨hr, by simp at hsl; omega, hvr⟩, by simp, weaker_of [] rfl rfl ⟨⟨rfl, rfl, pureL_bys _⟩, trivial⟩ trivial⟩
    ·conv => whnf
     repeat ((first | refine ifB_t ?_ | refine ifB_f ?_); conv => whnf)
     refine ⟨r, ⟨hr, by simp at hsl; omega, hvr⟩, by simp, weaker_of [] rfl rfl ⟨⟨rfl, rfl, pureL_bys _⟩, trivial⟩ trivial⟩
   ·obtain ⟨z, lo, hi, ⟨t1, t2, t3⟩, hlh, hz⟩ := go_step c r hr (by omega) hc.2
    rw [hv] at hz
    have hfl := utf8First_length
    conv => whnf
    repeat ((refine And.intro (by first | omega | rfl | (dsimp only; omega)) ?_); conv => whnf)
    refine ⟨_, get_intsM (c := c.toNat) (by rw [hfl]; omega) (by simp), ?_⟩
    conv => whnf
    repeat ((refine fit_i64 ⟨by first | omega | rfl | (dsimp only; omega), by first | omega | rfl | (dsimp only; omega)⟩ ?_); conv => whnf)
    refine Does.seqCut (α := Unit) (fun _ => mkSt [(0, .ro (c :: r).length (bys (c :: r))), (5, .int .i64 z), (6, .ptr 0 0)] [(0, [.int .u8 lo, .int .u8 hi])] 1 188) (fun _ => True) ?_ (fun _ _ => ?_)
    ·refine wpc_sound (M := MC) (PL := PLvalid) (CU := noCut) TTok mixed _ _ _ ?_
     conv => whnf
     repeat ((first | refine ifB_t ?_ | refine ifB_f ?_); conv => whnf)
     refine ⟨by omega, ?_⟩
     conv => whnf
     repeat ((first | refine ifB_t ?_ | refine ifB_f ?_); conv => whnf)
     refine ⟨⟨t2.1, t2.2⟩, ?_⟩
     conv => whnf
     repeat ((first | refine ifB_t ?_ | refine ifB_f ?_); conv => whnf)
     refine ⟨_, t3, ?_⟩
     conv => whnf
     repeat ((first | refine ifB_t ?_ | refine ifB_f ?_); conv => whnf)
     conv => whnf
     repeat ((first | refine ⟨rfl, ?_⟩ | (refine ⟨⟨rfl, rfl, ?_⟩, ?_⟩; (focus (first | exact Nat.le_of_ble_eq_true rfl | (simp; done))))); conv => whnf)
     refine ⟨(), trivial, weaker_of [(0, 0)] rfl rfl ?_ ?_⟩
     ·exact ⟨⟨rfl, rfl, pureL_bys _⟩, leP_int t1, ⟨rfl, rfl⟩, trivial⟩
     ·exact ⟨⟨⟨rfl, rfl⟩, ⟨rfl, rfl⟩, trivial⟩, trivial⟩
    ·refine wpc_sound (M := MC) (PL := PLvalid) (CU := noCut) TTok mixed _ _ _ ?_
     rcases hz with ⟨rfl, hz⟩ | ⟨rfl, hz⟩ | ⟨rfl, hz⟩ | ⟨rfl, hz⟩
     ·rw [hz]
      conv => whnf
      repeat ((first | refine ifB_f ?_ | refine ⟨rfl, ?_⟩); conv => whnf)
      rfl
     ·conv => whnf
      repeat ((first | refine ifB_t ?_ | refine ifB_f ?_); conv => whnf)
      refine ⟨by kernel_rfl, ?_⟩
      match r, hr, hz, hs, k1, hsl with
      | [], hr, hz, hs, k1, hsl =>
       have hf : validR b = false := by rw [hz]; simp
       rw [hf]
       conv => whnf
       repeat ((first | refine ifB_t ?_ | refine ⟨rfl, ?_⟩); conv => whnf)
       rfl
      | x :: r, hr, hz, hs, k1, hsl =>
       conv => whnf
       repeat ((first | refine ifB_f ?_ | refine ⟨_, rfl, ?_⟩ | (refine ⟨⟨?_, ?_, ?_⟩, ?_⟩; (focus omega); (focus (first | omega | (simp; done) | (simp; omega))); (focus (first | (simp; done) | (simp; omega) | (rw [toksC_length]; simp; omega))))); conv => whnf)
       refine ifB_dec (fun h1 => ?_) (fun h1 => ?_)
       ·rw [show validR b = false from by rw [hz]; simp [inR]; omega]
        conv => whnf
        repeat ((first | refine ifB_t ?_ | refine ⟨rfl, ?_⟩); conv => whnf)
        rfl
       conv => whnf
       repeat ((first | refine ifB_f ?_ | refine ⟨_, rfl, ?_⟩ | (refine ⟨⟨?_, ?_, ?_⟩, ?_⟩; (focus omega); (focus (first | omega | (simp; done) | (simp; omega))); (focus (first | (simp; done) | (simp; omega) | (rw [toksC_length]; simp; omega))))); conv => whnf)
       refine ifB_dec (fun h2 => ?_) (fun h2 => ?_)
       ·rw [show validR b = false from by rw [hz]; simp [inR]; omega]
        conv => whnf
        repeat ((refine ⟨rfl, ?_⟩); conv => whnf)
        rfl
       conv => whnf
       repeat ((refine ⟨⟨?_, ?_⟩, ?_⟩; (focus (simp; done)); (focus (first | (simp only [okB]; omega) | (simp [okB]; omega)))); conv => whnf)
       have hvv : validR r = validR b := by rw [hz]; simp [inR, show lo ≤ x by omega, show x ≤ hi by omega]
       first
       | exact ⟨⟨fun z hz' => hs z (by simp [hz']), by simp at hsl; omega, hvv⟩, by simp; omega, weaker_of [] rfl rfl ⟨⟨rfl, rfl, pureL_bys _⟩, trivial⟩ trivial⟩
       | exact ⟨r, ⟨fun z hz' => hs z (by simp [hz']), by simp at hsl; omega, hvv⟩, by simp; omega, weaker_of [] rfl rfl ⟨⟨rfl, rfl, pureL_bys _⟩, trivial⟩ trivial⟩
     ·conv => whnf
      repeat ((first | refine ifB_t ?_ | refine ifB_f ?_); conv => whnf)
      refine ⟨by kernel_rfl, ?_⟩
      match r, hr, hz, hs, k1, hsl with
      | [], hr, hz, hs, k1, hsl =>
       have hf : validR b = false := by rw [hz]; simp
       rw [hf]
       conv => whnf
       repeat ((first | refine ifB_t ?_ | refine ⟨rfl, ?_⟩); conv => whnf)
       rfl
      | [x], hr, hz, hs, k1, hsl =>
       have hf : validR b = false := by rw [hz]; simp
       rw [hf]
       conv => whnf
       repeat ((first | refine ifB_t ?_ | refine ⟨rfl, ?_⟩); conv => whnf)
       rfl
      | x :: y :: r, hr, hz, hs, k1, hsl =>
       conv => whnf
       repeat ((first | refine ifB_f ?_ | refine ⟨_, rfl, ?_⟩ | (refine ⟨⟨?_, ?_, ?_⟩, ?_⟩; (focus omega); (focus (first | omega | (simp; done) | (simp; omega))); (focus (first | (simp; done) | (simp; omega) | (rw [toksC_length]; simp; omega))))); conv => whnf)
       refine ifB_dec (fun h1 => ?_) (fun h1 => ?_)
       ·rw [show validR b = false from by rw [hz]; simp [inR]; omega]
        conv => whnf
        repeat ((first | refine ifB_t ?_ | refine ⟨rfl, ?_⟩); conv => whnf)
        rfl
       conv => whnf
       repeat ((first | refine ifB_f ?_ | refine ⟨_, rfl, ?_⟩ | (refine ⟨⟨?_, ?_, ?_⟩, ?_⟩; (focus omega); (focus (first | omega | (simp; done) | (simp; omega))); (focus (first | (simp; done) | (simp; omega) | (rw [toksC_length]; simp; omega))))); conv => whnf)
       refine ifB_dec (fun h2 => ?_) (fun h2 => ?_)
       ·rw [show validR b = false from by rw [hz]; simp [inR]; omega]
        conv => whnf
        repeat ((first | refine ifB_t ?_ | refine ⟨rfl, ?_⟩); conv => whnf)
        rfl
       conv => whnf
       repeat ((first | refine ifB_f ?_ | refine ⟨_, rfl, ?_⟩ | (refine ⟨⟨?_, ?_, ?_⟩, ?_⟩; (focus omega); (focus (first | omega | (simp; done) | (simp; omega))); (focus (first | (simp; done) | (simp; omega) | (rw [toksC_length]; simp; omega))))); conv => whnf)
       refine ifB_dec (fun h3 => ?_) (fun h3 => ?_)
       ·rw [show validR b = false from by rw [hz]; simp [inR]; omega]
        conv => whnf
        repeat ((first | refine ifB_t ?_ | refine ⟨rfl, ?_⟩); conv => whnf)
        rfl
       conv => whnf
       repeat ((first | refine ifB_f ?_ | refine ⟨_, rfl, ?_⟩ | (refine ⟨⟨?_, ?_, ?_⟩, ?_⟩; (focus omega); (focus (first | omega | (simp; done) | (simp; omega))); (focus (first | (simp; done) | (simp; omega) | (rw [toksC_length]; simp; omega))))); conv => whnf)
       refine ifB_dec (fun h4 => ?_) (fun h4 => ?_)
       ·rw [show validR b = false from by rw [hz]; simp [inR]; omega]
        conv => whnf
        repeat ((refine ⟨rfl, ?_⟩); conv => whnf)
        rfl
       conv => whnf
       repeat ((refine ⟨⟨?_, ?_⟩, ?_⟩; (focus (simp; done)); (focus (first | (simp only [okB]; omega) | (simp [okB]; omega)))); conv => whnf)
       have hvv : validR r = validR b := by rw [hz]; simp [inR, show lo ≤ x by omega, show x ≤ hi by omega, show 128 ≤ y by omega, show y ≤ 191 by omega]
       first
       | exact ⟨⟨fun z hz' => hs z (by simp [hz']), by simp at hsl; omega, hvv⟩, by simp; omega, weaker_of [] rfl rfl ⟨⟨rfl, rfl, pureL_bys _⟩, trivial⟩ trivial⟩
       | exact ⟨r, ⟨fun z hz' => hs z (by simp [hz']), by simp at hsl; omega, hvv⟩, by simp; omega, weaker_of [] rfl rfl ⟨⟨rfl, rfl, pureL_bys _⟩, trivial⟩ trivial⟩
     ·conv => whnf
      repeat ((first | refine ifB_t ?_ | refine ifB_f ?_); conv => whnf)
      refine ⟨by kernel_rfl, ?_⟩
      match r, hr, hz, hs, k1, hsl with
      | [], hr, hz, hs, k1, hsl =>
       have hf : validR b = false := by rw [hz]; simp
       rw [hf]
       conv => whnf
       repeat ((first | refine ifB_t ?_ | refine ⟨rfl, ?_⟩); conv => whnf)
       rfl
      | [x], hr, hz, hs, k1, hsl =>
       have hf : validR b = false := by rw [hz]; simp
       rw [hf]
       conv => whnf
       repeat ((first | refine ifB_t ?_ | refine ⟨rfl, ?_⟩); conv => whnf)
       rfl
      | [x, y], hr, hz, hs, k1, hsl =>
       have hf : validR b = false := by rw [hz]; simp
       rw [hf]
       conv => whnf
       repeat ((first | refine ifB_t ?_ | refine ⟨rfl, ?_⟩); conv => whnf)
       rfl
      | x :: y :: w :: r, hr, hz, hs, k1, hsl =>
       conv => whnf
       repeat ((first | refine ifB_f ?_ | refine ⟨_, rfl, ?_⟩ | (refine ⟨⟨?_, ?_, ?_⟩, ?_⟩; (focus omega); (focus (first | omega | (simp; done) | (simp; omega))); (focus (first | (simp; done) | (simp; omega) | (rw [toksC_length]; simp; omega))))); conv => whnf)
       refine ifB_dec (fun h1 => ?_) (fun h1 => ?_)
       ·rw [show validR b = false from by rw [hz]; simp [inR]; omega]
        conv => whnf
        repeat ((first | refine ifB_t ?_ | refine ⟨rfl, ?_⟩); conv => whnf)
        rfl
       conv => whnf
       repeat ((first | refine ifB_f ?_ | refine ⟨_, rfl, ?_⟩ | (refine ⟨⟨?_, ?_, ?_⟩, ?_⟩; (focus omega); (focus (first | omega | (simp; done) | (simp; omega))); (focus (first | (simp; done) | (simp; omega) | (rw [toksC_length]; simp; omega))))); conv => whnf)
       refine ifB_dec (fun h2 => ?_) (fun h2 => ?_)
       ·rw [show validR b = false from by rw [hz]; simp [inR]; omega]
        conv => whnf
        repeat ((first | refine ifB_t ?_ | refine ⟨rfl, ?_⟩); conv => whnf)
        rfl
       conv => whnf
       repeat ((first | refine ifB_f ?_ | refine ⟨_, rfl, ?_⟩ | (refine ⟨⟨?_, ?_, ?_⟩, ?_⟩; (focus omega); (focus (first | omega | (simp; done) | (simp; omega))); (focus (first | (simp; done) | (simp; omega) | (rw [toksC_length]; simp; omega))))); conv => whnf)
       refine ifB_dec (fun h3 => ?_) (fun h3 => ?_)
       ·rw [show validR b = false from by rw [hz]; simp [inR]; omega]
        conv => whnf
        repeat ((first | refine ifB_t ?_ | refine ⟨rfl, ?_⟩); conv => whnf)
        rfl
       conv => whnf
       repeat ((first | refine ifB_f ?_ | refine ⟨_, rfl, ?_⟩ | (refine ⟨⟨?_, ?_, ?_⟩, ?_⟩; (focus omega); (focus (first | omega | (simp; done) | (simp; omega))); (focus (first | (simp; done) | (simp; omega) | (rw [toksC_length]; simp; omega))))); conv => whnf)
       refine ifB_dec (fun h4 => ?_) (fun h4 => ?_)
       ·rw [show validR b = false from by rw [hz]; simp [inR]; omega]
        conv => whnf
        repeat ((first | refine ifB_t ?_ | refine ⟨rfl, ?_⟩); conv => whnf)
        rfl
       conv => whnf
       repeat ((first | refine ifB_f ?_ | refine ⟨_, rfl, ?_⟩ | (refine ⟨⟨?_, ?_, ?_⟩, ?_⟩; (focus omega); (focus (first | omega | (simp; done) | (simp; omega))); (focus (first | (simp; done) | (simp; omega) | (rw [toksC_length]; simp; omega))))); conv => whnf)
       refine ifB_dec (fun h5 => ?_) (fun h5 => ?_)
       ·rw [show validR b = false from by rw [hz]; simp [inR]; omega]
        conv => whnf
        repeat ((first | refine ifB_t ?_ | refine ⟨rfl, ?_⟩); conv => whnf)
        rfl
       conv => whnf
       repeat ((first | refine ifB_f ?_ | refine ⟨_, rfl, ?_⟩ | (refine ⟨⟨?_, ?_, ?_⟩, ?_⟩; (focus omega); (focus (first | omega | (simp; done) | (simp; omega))); (focus (first | (simp; done) | (simp; omega) | (rw [toksC_length]; simp; omega))))); conv => whnf)
       refine ifB_dec (fun h6 => ?_) (fun h6 => ?_)
       ·rw [show validR b = false from by rw [hz]; simp [inR]; omega]
        conv => whnf
        repeat ((refine ⟨rfl, ?_⟩); conv => whnf)
        rfl
       conv => whnf
       repeat ((refine ⟨⟨?_, ?_⟩, ?_⟩; (focus (simp; done)); (focus (first | (simp only [okB]; omega) | (simp [okB]; omega)))); conv => whnf)
       have hvv : validR r = validR b := by rw [hz]; simp [inR, show lo ≤ x by omega, show x ≤ hi by omega, show 128 ≤ y by omega, show y ≤ 191 by omega, show 128 ≤ w by omega, show w ≤ 191 by omega]
       first
       | exact ⟨⟨fun z hz' => hs z (by simp [hz']), by simp at hsl; omega, hvv⟩, by simp; omega, weaker_of [] rfl rfl ⟨⟨rfl, rfl, pureL_bys _⟩, trivial⟩ trivial⟩
       | exact ⟨r, ⟨fun z hz' => hs z (by simp [hz']), by simp at hsl; omega, hvv⟩, by simp; omega, weaker_of [] rfl rfl ⟨⟨rfl, rfl, pureL_bys _⟩, trivial⟩ trivial⟩
  ·have h0 : s = [] := List.length_eq_zero_iff.1 (by omega)
   subst h0
   rw [← hv]
   conv => whnf
   repeat ((refine ⟨rfl, ?_⟩); conv => whnf)
   rfl
 ·exact weaker_of [] rfl rfl ⟨⟨by simp, by simp; exact List.take_of_length_le (by simp), pureL_bys _⟩, trivial⟩ trivial
theorem utf8_ok (b : List Int) (hb : Byt b) (hl : b.length ≤ 1099511627776) : ACall Tryz.prog 86 [.ro b.length (bys b)] (.bool (validR b)) [] := by
 refine ACall.of_does TTok Tryz.func86 rfl Tryz.call86 rfl (wpc_sound (M := MC) (PL := PL0) (CU := noCut) TTok mixed _ _ _ ?_)
 conv => whnf
 repeat ((first | refine ⟨pureL_bys _, ?_⟩ | refine ⟨rfl, ?_⟩); conv => whnf)
 refine ⟨_, _, valid_ok b hb hl, by first | rfl | simp [noRoIf, noRoL, noRoV, noRoL_bys], ?_⟩
 conv => whnf
 repeat ((refine ⟨rfl, ?_⟩); conv => whnf)
 rfl
end
end Go.Proofs.YtbkclacjamlebaaGreatDoor.Abs
