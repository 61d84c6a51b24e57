/- codicilkeep.Bytes, codicilkeep.SpoilBytes, codicilref09.Head: what they do. -/
import Derived.Test.YtaefmhdpfmpijaaHB
set_option linter.unusedVariables false
set_option linter.unusedSimpArgs false
namespace Go.Proofs.Ytaefmhdpfmpijaa.Abs
open Go
attribute [local irreducible] ifB fitP Does Weaker

def PLbytes : Nat → Bool × Plan := plans [(6, (true, takes [0, 1, 2, 3, 4, 5, 6, 7, 8]))]

theorem bytes_ok (x y : List Int) (hx : x.length ≤ 1099511627776) : ACall Try.prog 10 [.ro x.length (bys x), .ro y.length (bys y)] (.bool (decide (x = y))) [] := by
  refine ACall.of_does TTok Try.func10 rfl Try.call10 rfl (wpc_sound (M := MH) (PL := PLbytes) (CU := noCut) TTok mixed _ _ _ ?_)
  conv => whnf
  refine ifB_dec (fun h => ?_) (fun h => ?_)
  · conv => whnf
    refine ⟨?_, rfl⟩
    have : x ≠ y := fun e => h (by rw [e])
    simp [this]
  have hl : x.length = y.length := by omega
  conv => whnf
  refine Does.loop (fun c : Nat => mkSt [(0, .ro x.length (bys x)), (1, .ro y.length (bys y)), (5, .int .i64 c)] [] 0 26)
    (fun c => c ≤ x.length ∧ ∀ (j : Nat) (h1 : j < x.length) (h2 : j < y.length), j < c → x[j] = y[j]) (fun c => x.length - c) ?_ 0 ⟨Nat.zero_le _, fun j _ _ h => by omega⟩ ?_
  · intro c hc
    refine wpc_sound (M := MH) (PL := PLbytes) (CU := noCut) TTok mixed _ _ _ ?_
    conv => whnf
    refine ifB_dec (fun h => ?_) (fun h => ?_)
    · have h1 : c < x.length := by omega
      have h2 : c < y.length := by omega
      conv => whnf
      refine ⟨by kernel_rfl, ?_⟩
      conv => whnf
      refine ⟨by simp; omega, ?_⟩
      conv => whnf
      refine ⟨_, by simpa using get_bys h1, ?_⟩
      conv => whnf
      refine ⟨by simp; omega, ?_⟩
      conv => whnf
      refine ⟨_, by simpa using get_bys h2, ?_⟩
      conv => whnf
      refine ifB_dec (fun hne => ?_) (fun he => ?_)
      · conv => whnf
        refine ⟨?_, rfl⟩
        have : x ≠ y := fun e => by subst e; exact hne rfl
        simp [this]
      · conv => whnf
        refine fit_i64 ⟨by omega, by omega⟩ ?_
        conv => whnf
        refine ⟨c + 1, ⟨by omega, fun j k1 k2 hj => ?_⟩, by omega, weaker_of [] rfl rfl ?_ trivial⟩
        · rcases Nat.lt_or_ge j c with hjc | hjc
          · exact hc.2 j k1 k2 hjc
          · obtain rfl : j = c := by omega
            exact Classical.not_not.1 he
        · exact ⟨⟨rfl, rfl, pureL_bys _⟩, ⟨rfl, rfl, pureL_bys _⟩, ⟨rfl, rfl⟩, trivial⟩
    · conv => whnf
      refine ⟨?_, rfl⟩
      have : x = y := List.ext_getElem hl fun j k1 k2 => hc.2 j k1 k2 (by omega)
      simp [this]
  · refine weaker_of [] rfl rfl ?_ ?_
    · exact ⟨⟨rfl, rfl, pureL_bys _⟩, ⟨rfl, rfl, pureL_bys _⟩, ⟨rfl, rfl⟩, trivial⟩
    · exact trivial

theorem spoil_ok (l : List Int) (hl : l.length ≤ 1099511627776) : ACall Try.prog 12 [.own l.length 1 (bys l)] (.tuple []) [] := by
  refine ACall.of_does TTok Try.func12 rfl Try.call12 rfl (wpc_sound (M := MH) (PL := PL0) (CU := noCut) TTok mixed _ _ _ ?_)
  conv => whnf
  refine Does.loop (fun g : Nat × List Int => mkSt [(0, .sl 0 0 l.length 1 false), (2, .int .i64 g.1)] [(0, bys g.2)] 1 17)
    (fun g => g.1 ≤ l.length ∧ g.2.length = l.length) (fun g => l.length - g.1) ?_ (0, l) ⟨Nat.zero_le _, rfl⟩ ?_
  · rintro ⟨c, m⟩ ⟨hc, hm⟩
    simp only at hc hm
    refine wpc_sound (M := MH) (PL := PL0) (CU := noCut) TTok mixed _ _ _ ?_
    conv => whnf
    refine ifB_dec (fun h => ?_) (fun h => ?_)
    · have h1 : c < m.length := by omega
      conv => whnf
      refine ⟨by simp; omega, ?_⟩
      conv => whnf
      refine ⟨_, by simpa using get_bys h1, ?_⟩
      conv => whnf
      refine fit_wrap ?_
      conv => whnf
      refine ⟨by simp; omega, ?_⟩
      conv => whnf
      refine ⟨⟨rfl, rfl, by simp; omega⟩, ?_⟩
      conv => whnf
      refine fit_i64 ⟨by omega, by omega⟩ ?_
      conv => whnf
      refine ⟨(c + 1, m.set c (IntKind.u8.wrap (m[c] + 101))), ⟨by simp; omega, by simpa using hm⟩, by simp; omega, weaker_of [] rfl rfl ?_ ?_⟩
      · exact ⟨⟨rfl, rfl, rfl, rfl, id⟩, ⟨rfl, rfl⟩, trivial⟩
      · refine ⟨lesP_bys ?_, trivial⟩
        have := setN_bys m c (IntKind.u8.wrap (m[c] + 101)) h1
        simpa [cellsA] using this
    · conv => whnf
      exact rfl
  · refine weaker_of [] rfl rfl ?_ ?_
    · exact ⟨⟨rfl, rfl, rfl, rfl, id⟩, ⟨rfl, rfl⟩, trivial⟩
    · exact ⟨lesP_bys rfl, trivial⟩

end Go.Proofs.Ytaefmhdpfmpijaa.Abs
