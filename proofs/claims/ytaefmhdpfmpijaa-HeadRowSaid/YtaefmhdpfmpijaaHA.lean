/- Package head and what the laws about it call: what each function does. -/
import Derived.Test.YtaefmhdpfmpijaaGD
import Derived.Test.YtaefmhdpfmpijaaTY
set_option linter.unusedVariables false
set_option linter.unusedSimpArgs false
namespace Go.Proofs.Ytaefmhdpfmpijaa.Abs
open Go
attribute [local irreducible] ifB fitP Does Weaker

def M0 : FuncId → List Mode := fun _ => []
def PL0 : Nat → Bool × Plan := fun _ => (true, .done)

def byteAt (n : Int) (i : Nat) : Int := (n / 2 ^ (8 * i)) % 256
def beAcc (n : Int) (size c : Nat) : List Int := (List.range c).map fun j => byteAt n (size - 1 - j)
@[simp] theorem beAcc_length (n : Int) (size c : Nat) : (beAcc n size c).length = c := by simp [beAcc]
theorem beAcc_succ (n : Int) (size c : Nat) : beAcc n size (c + 1) = beAcc n size c ++ [byteAt n (size - 1 - c)] := by
  simp [beAcc, List.range_succ]

theorem byteAt_shr (n : Int) (size c : Nat) (hs : size ≤ 8) (hc : c < size) :
    IntKind.u8.wrap (n / 2 ^ min (8 * ((size : Int) - 1 - c)).toNat IntKind.i64.bits) = byteAt n (size - 1 - c) := by
  have : min (8 * ((size : Int) - 1 - c)).toNat IntKind.i64.bits = 8 * (size - 1 - c) := by
    simp only [IntKind.bits]; omega
  rw [this, wrap_u8]
  rfl

theorem be_ok (n : Int) (size : Nat) (hs : size ≤ 8) : ACall Try.prog 18 [.int .i64 n, .int .i64 size] (.own size 1 (bys (beAcc n size size))) [] := by
  refine ACall.of_does TTok Try.func18 rfl Try.call18 rfl (wpc_sound (M := M0) (PL := PL0) (CU := noCut) TTok mixed _ _ _ ?_)
  conv => whnf
  refine fit_i64 ⟨by omega, by omega⟩ ?_
  conv => whnf
  refine Does.loop (fun c : Nat => mkSt [(0, .int .i64 n), (1, .int .i64 size), (6, .int .i64 ((size : Int) - 1 - c)), (5, .sl 0 0 c 1 false)] [(0, bys (beAcc n size c))] 1 23)
    (fun c => c ≤ size) (fun c => size - c) ?_ 0 (Nat.zero_le _) ?_
  · intro c hc
    refine wpc_sound (M := M0) (PL := PL0) (CU := noCut) TTok mixed _ _ _ ?_
    conv => whnf
    refine ifB_dec (fun h => ?_) (fun h => ?_)
    · conv => whnf
      refine fit_i64 ⟨by omega, by omega⟩ ?_
      conv => whnf
      refine fit_u64 ⟨by omega, by omega⟩ ?_
      conv => whnf
      refine ⟨by omega, ?_⟩
      conv => whnf
      refine fit_wrap ?_
      conv => whnf
      refine Or.inl ⟨⟨rfl, rfl, rfl⟩, ?_⟩
      conv => whnf
      refine ⟨rfl, ?_⟩
      conv => whnf
      refine ⟨⟨rfl, rfl, by simp, by simp [limB]; omega⟩, ?_⟩
      conv => whnf
      refine fit_i64 ⟨by omega, by omega⟩ ?_
      conv => whnf
      refine ⟨c + 1, by omega, by omega, weaker_of [(0, 2)] rfl rfl ?_ ?_⟩
      · refine ⟨⟨rfl, rfl⟩, ⟨rfl, rfl⟩, ⟨rfl, ?_⟩, ⟨rfl, rfl, rfl, rfl, id⟩, trivial⟩
        show (size : Int) - 1 - c - 1 = size - 1 - (c + 1 : Nat)
        omega
      · refine ⟨lesP_bys ?_, trivial⟩
        show bys (beAcc n size c) ++ [.int .u8 _] = bys (beAcc n size (c + 1))
        rw [byteAt_shr n size c hs (by omega), bys_snoc, beAcc_succ]
    · conv => whnf
      have hcs : c = size := by omega
      subst hcs
      refine ⟨⟨rfl, rfl, rfl, by simp, pureL_bys _⟩, ?_⟩
      rfl
  · refine weaker_of [] rfl rfl ?_ ?_
    · refine ⟨⟨rfl, rfl⟩, ⟨rfl, rfl⟩, ⟨rfl, ?_⟩, rfl, trivial⟩
      show (size : Int) - 1 = size - 1 - (0 : Nat)
      omega
    · exact ⟨rfl, trivial⟩

theorem clone_ok (l : List Int) (hl : l.length ≤ 17592186044416) : ACall Try.prog 17 [.ro l.length (bys l)] (.own l.length 1 (bys l)) [] := by
  refine ACall.of_does TTok Try.func17 rfl Try.call17 rfl (wpc_sound (M := M0) (PL := PL0) (CU := noCut) TTok mixed _ _ _ ?_)
  conv => whnf
  refine ⟨fun h => ?_, ?_⟩
  · conv => whnf
    refine ifB_t ?_
    conv => whnf
    have h0 : l = [] := bys_nil h
    subst h0
    exact ⟨⟨rfl, rfl⟩, rfl⟩
  · conv => whnf
    refine ifB_f ?_
    conv => whnf
    refine ⟨by simp, ?_⟩
    conv => whnf
    refine ⟨ones_bys l, ?_⟩
    conv => whnf
    refine ⟨⟨rfl, by simp, Or.inl rfl, by simp [limB]; omega⟩, ?_⟩
    conv => whnf
    refine ⟨⟨by simp, rfl, ?_, by simp, pureL_bys _⟩, ?_⟩
    · rfl
    · rfl

theorem twin_ok (l : List Int) (hl : l.length ≤ 17592186044416) : ACall Try.prog 8 [.ro l.length (bys l)] (.own l.length 1 (bys l)) [] := by
  refine ACall.of_does TTok Try.func8 rfl Try.call8 rfl (wpc_sound (M := M0) (PL := PL0) (CU := noCut) TTok mixed _ _ _ ?_)
  conv => whnf
  refine ⟨by simp, ?_⟩
  conv => whnf
  refine ⟨ones_bys l, ?_⟩
  conv => whnf
  refine ⟨by simp [limB]; omega, ?_⟩
  conv => whnf
  refine ⟨⟨rfl, rfl, rfl, by simp, pureL_bys _⟩, ?_⟩
  rfl

theorem in_ok (n lo hi : Int) : ACall Try.prog 19 [.int .i64 n, .int .i64 lo, .int .i64 hi] (.bool (decide (lo ≤ n ∧ n ≤ hi))) [] := by
  refine ACall.of_does TTok Try.func19 rfl Try.call19 rfl (wpc_sound (M := M0) (PL := PL0) (CU := noCut) TTok mixed _ _ _ ?_)
  conv => whnf
  refine ifB_dec (fun h => ?_) (fun h => ?_)
  · conv => whnf
    repeat (refine ifB_t ?_; conv => whnf)
    exact ⟨by simp [h], rfl⟩
  · conv => whnf
    repeat (refine ifB_f ?_; conv => whnf)
    exact ⟨by simp [h], rfl⟩

def sizeR (n : Int) : Nat × Int := if n < 24 then (0, n) else if n < 256 then (1, 24) else if n < 65536 then (2, 25) else if n < 4294967296 then (4, 26) else (8, 27)

theorem size_ok (n : Int) : ACall Try.prog 16 [.int .i64 n] (.tuple [.int .i64 (sizeR n).1, .int .i64 (sizeR n).2]) [] := by
  refine ACall.of_does TTok Try.func16 rfl Try.call16 rfl (wpc_sound (M := M0) (PL := PL0) (CU := noCut) TTok mixed _ _ _ ?_)
  conv => whnf
  refine ifB_dec (fun h1 => ?_) (fun h1 => ?_)
  · conv => whnf
    refine ⟨⟨rfl, by simp [sizeR, h1]⟩, ?_⟩
    conv => whnf
    exact ⟨⟨rfl, by simp [sizeR, h1]⟩, rfl⟩
  conv => whnf
  refine ifB_dec (fun h2 => ?_) (fun h2 => ?_)
  · conv => whnf
    refine ⟨⟨rfl, by simp [sizeR, h1, h2]⟩, ?_⟩
    conv => whnf
    exact ⟨⟨rfl, by simp [sizeR, h1, h2]⟩, rfl⟩
  conv => whnf
  refine ifB_dec (fun h3 => ?_) (fun h3 => ?_)
  · conv => whnf
    refine ⟨⟨rfl, by simp [sizeR, h1, h2, h3]⟩, ?_⟩
    conv => whnf
    exact ⟨⟨rfl, by simp [sizeR, h1, h2, h3]⟩, rfl⟩
  conv => whnf
  refine ifB_dec (fun h4 => ?_) (fun h4 => ?_)
  · conv => whnf
    refine ⟨⟨rfl, by simp [sizeR, h1, h2, h3, h4]⟩, ?_⟩
    conv => whnf
    exact ⟨⟨rfl, by simp [sizeR, h1, h2, h3, h4]⟩, rfl⟩
  conv => whnf
  refine ⟨⟨rfl, by simp [sizeR, h1, h2, h3, h4]⟩, ?_⟩
  conv => whnf
  exact ⟨⟨rfl, by simp [sizeR, h1, h2, h3, h4]⟩, rfl⟩

end Go.Proofs.Ytaefmhdpfmpijaa.Abs
