/- codicillaw09.HeadRow: it answers true. -/
import Derived.Test.YtaefmhdpfmpijaaHO
import Derived.Test.YtaefmhdpfmpijaaGF
set_option linter.unusedVariables false
set_option linter.unusedSimpArgs false
namespace Go.Proofs.Ytaefmhdpfmpijaa.Abs
open Go
attribute [local irreducible] ifB fitP Does Weaker

def majorOf (x : Int) : Int := (IntKind.u64.wrap x).tmod 8
def numMax (x : Int) : Int := bits .and .i64 x 9223372036854775807

theorem majorOf_bound (x : Int) : 0 ≤ majorOf x ∧ majorOf x < 8 := by
  obtain ⟨r, h1, h2⟩ := uMod x 8 (by omega)
  have : majorOf x = r := h1
  omega
theorem numMax_bound (x : Int) : 0 ≤ numMax x ∧ numMax x < 9223372036854775808 := by
  obtain ⟨r, h1, h2⟩ := and_max x
  have : numMax x = r := h1
  omega

/-- The heads of so many numbers. -/
def rowL (ms ns : List Int) : Nat → List Int
  | 0 => []
  | c + 1 => rowL ms ns c ++ putL (majorOf (ms.getD c 0)) (numMax (ns.getD c 0))
def endsL (ms ns : List Int) (c : Nat) : List Int := (List.range c).map fun j => ((rowL ms ns (j + 1)).length : Int)

theorem endsL_succ (ms ns : List Int) (c : Nat) : endsL ms ns (c + 1) = endsL ms ns c ++ [((rowL ms ns (c + 1)).length : Int)] := by simp [endsL, List.range_succ]
theorem endsL_length (ms ns : List Int) (c : Nat) : (endsL ms ns c).length = c := by simp [endsL]

theorem putL_bound (M n : Int) (hn : 0 ≤ n) : 1 ≤ (putL M n).length ∧ (putL M n).length ≤ 9 := by
  have := sizeR_le n hn
  rw [putL_length]
  omega

theorem byt_putL (M n : Int) (h0 : 0 ≤ M) (h1 : M < 8) (hn : 0 ≤ n) : Byt (putL M n) := by
  intro x hx
  have sn := sizeR_le n hn
  simp only [putL, List.mem_cons] at hx
  rcases hx with rfl | hx
  · omega
  · exact byt_beAcc _ _ _ x hx

theorem rowL_bound (ms ns : List Int) : ∀ c : Nat, (rowL ms ns c).length ≤ 9 * c
  | 0 => by simp [rowL]
  | c + 1 => by
    have := rowL_bound ms ns c
    have := putL_bound (majorOf (ms.getD c 0)) (numMax (ns.getD c 0)) (numMax_bound _).1
    simp only [rowL, List.length_append]
    omega

theorem byt_rowL (ms ns : List Int) : ∀ c : Nat, Byt (rowL ms ns c)
  | 0 => by simp [rowL, Byt]
  | c + 1 => by
    intro x hx
    simp only [rowL, List.mem_append] at hx
    rcases hx with hx | hx
    · exact byt_rowL ms ns c x hx
    · exact byt_putL _ _ (majorOf_bound _).1 (majorOf_bound _).2 (numMax_bound _).1 x hx

/-- The heads from one on. -/
theorem rowL_split (ms ns : List Int) (c : Nat) : ∀ d : Nat, ∃ q, rowL ms ns (c + d) = rowL ms ns c ++ q
  | 0 => ⟨[], by simp⟩
  | d + 1 => by
    obtain ⟨q, h⟩ := rowL_split ms ns c d
    exact ⟨q ++ putL (majorOf (ms.getD (c + d) 0)) (numMax (ns.getD (c + d) 0)), by rw [← Nat.add_assoc, rowL, h, List.append_assoc]⟩

theorem get_ints' {k : IntKind} {l : List Int} {c : Nat} (h : c < l.length) : ((l.map (AV.int k)).drop c)[0]? = some (.int k (l.getD c 0)) := by
  simp [h, List.getD_eq_getElem?_getD]

theorem getR_row (ms ns : List Int) (n c : Nat) (h : c < n) :
    getR (rowL ms ns n) ((rowL ms ns c).length : Int) = (majorOf (ms.getD c 0), numMax (ns.getD c 0), ((rowL ms ns (c + 1)).length : Int), 0) := by
  obtain ⟨q, hq⟩ := rowL_split ms ns (c + 1) (n - (c + 1))
  rw [show c + 1 + (n - (c + 1)) = n by omega] at hq
  rw [hq, rowL]
  exact getR_put _ _ _ _ (majorOf_bound _).1 (numMax_bound _).1 (numMax_bound _).2

def PLrow : Nat → Bool × Plan := plans [(9, (false, takesTo [0, 1, 2, 3, 4, 5, 6, 7, 8, 9, 10, 11, 12] (.all [(13, takes [14, 15, 16, 17, 18])])))]

theorem headRow_ok (ms ns : List Int) (hm : ∀ x ∈ ms, -9223372036854775808 ≤ x ∧ x < 9223372036854775808) (hn' : ∀ x ∈ ns, -9223372036854775808 ≤ x ∧ x < 9223372036854775808) : ACall Try.prog 7 [.ro ms.length (ms.map (AV.int .i64)), .ro ns.length (ns.map (AV.int .i64))] (.bool true) [] := by
  refine ACall.of_does TTok Try.func7 rfl Try.call7 rfl (wpc_sound (M := MH) (PL := PLrow) (CU := noCut) TTok mixed _ _ _ ?_)
  conv => whnf
  repeat (first | (refine ifB_t ?_; conv => whnf) | (refine ifB_f ?_; conv => whnf))
  refine ifB_dec (fun h1 => ?_) (fun h1 => ?_)
  · conv => whnf
    repeat (first | (refine ifB_t ?_; conv => whnf) | (refine ifB_f ?_; conv => whnf))
    exact ⟨rfl, rfl⟩
  conv => whnf
  repeat (first | (refine ifB_t ?_; conv => whnf) | (refine ifB_f ?_; conv => whnf))
  refine ifB_dec (fun h2 => ?_) (fun h2 => ?_)
  · conv => whnf
    repeat (first | (refine ifB_t ?_; conv => whnf) | (refine ifB_f ?_; conv => whnf))
    exact ⟨rfl, rfl⟩
  conv => whnf
  repeat (first | (refine ifB_t ?_; conv => whnf) | (refine ifB_f ?_; conv => whnf) | (refine ifB_neg (decide_eq_false (by first | omega | rfl | (dsimp only; omega))) ?_; conv => whnf) | (refine ifB_pos (decide_eq_true (by first | omega | rfl | (dsimp only; omega))) ?_; conv => whnf) | (refine fit_i64 ⟨by first | omega | rfl | (dsimp only; omega), by first | omega | rfl | (dsimp only; omega)⟩ ?_; conv => whnf) | (refine fit_u64 ⟨by first | omega | rfl | (dsimp only; omega), by first | omega | rfl | (dsimp only; omega)⟩ ?_; conv => whnf) | (refine fit_u8 ⟨by first | omega | rfl | (dsimp only; omega), by first | omega | rfl | (dsimp only; omega)⟩ ?_; conv => whnf) | (refine ⟨pureL_bys _, ?_⟩; conv => whnf) | (refine Or.inl ⟨⟨rfl, ?_⟩, ?_⟩; (focus (first | rfl | (simp; done))); conv => whnf) | (refine ⟨rfl, ?_⟩; conv => whnf) | (refine ⟨by first | omega | rfl | (dsimp only; omega), ?_⟩; conv => whnf) | (refine ⟨⟨rfl, ?_⟩, ?_⟩; (focus (first | (simp only [okB]; omega) | (simp [okB]; omega))); conv => whnf))
  obtain ⟨n, hn⟩ : ∃ n : Nat, n = min ms.length ns.length := ⟨_, rfl⟩
  have hn60 : n ≤ 60 := by omega
  refine Does.loop (fun c : Nat => mkSt [(0, .ro ms.length (ms.map (AV.int .i64))), (1, .ro ns.length (ns.map (AV.int .i64))), (5, .sl 0 0 (rowL ms ns c).length 1 false), (6, .sl 1 0 c 1 false), (7, .int .i64 n), (8, .int .i64 c)]
      [(0, bys (rowL ms ns c)), (1, ints (endsL ms ns c))] 2 152) (fun c => c ≤ n) (fun c => n - c) ?_ 0 (by omega) ?_
  · intro c hc
    refine wpc_sound (M := MH) (PL := PLrow) (CU := noCut) TTok mixed _ _ _ ?_
    conv => whnf
    repeat (first | (refine ifB_t ?_; conv => whnf) | (refine ifB_f ?_; conv => whnf))
    have hrb := rowL_bound ms ns c
    refine ifB_dec (fun h3 => ?_) (fun h3 => ?_)
    · conv => whnf
      repeat (first | (refine ifB_t ?_; conv => whnf) | (refine ifB_f ?_; conv => whnf))
      refine ⟨by kernel_rfl, ?_⟩
      conv => whnf
      repeat (first | (refine ifB_t ?_; conv => whnf) | (refine ifB_f ?_; conv => whnf) | (refine ifB_neg (decide_eq_false (by first | omega | rfl | (dsimp only; omega))) ?_; conv => whnf) | (refine ifB_pos (decide_eq_true (by first | omega | rfl | (dsimp only; omega))) ?_; conv => whnf) | (refine fit_i64 ⟨by first | omega | rfl | (dsimp only; omega), by first | omega | rfl | (dsimp only; omega)⟩ ?_; conv => whnf) | (refine fit_u64 ⟨by first | omega | rfl | (dsimp only; omega), by first | omega | rfl | (dsimp only; omega)⟩ ?_; conv => whnf) | (refine fit_u8 ⟨by first | omega | rfl | (dsimp only; omega), by first | omega | rfl | (dsimp only; omega)⟩ ?_; conv => whnf) | (refine ⟨pureL_bys _, ?_⟩; conv => whnf) | (refine Or.inl ⟨⟨rfl, ?_⟩, ?_⟩; (focus (first | rfl | (simp; done))); conv => whnf) | (refine ⟨rfl, ?_⟩; conv => whnf) | (refine ⟨by first | omega | rfl | (dsimp only; omega), ?_⟩; conv => whnf) | (refine ⟨⟨rfl, ?_⟩, ?_⟩; (focus (first | (simp only [okB]; omega) | (simp [okB]; omega))); conv => whnf))
      refine ⟨by simp; omega, ?_⟩
      conv => whnf
      repeat (first | (refine ifB_t ?_; conv => whnf) | (refine ifB_f ?_; conv => whnf) | (refine ifB_neg (decide_eq_false (by first | omega | rfl | (dsimp only; omega))) ?_; conv => whnf) | (refine ifB_pos (decide_eq_true (by first | omega | rfl | (dsimp only; omega))) ?_; conv => whnf) | (refine fit_i64 ⟨by first | omega | rfl | (dsimp only; omega), by first | omega | rfl | (dsimp only; omega)⟩ ?_; conv => whnf) | (refine fit_u64 ⟨by first | omega | rfl | (dsimp only; omega), by first | omega | rfl | (dsimp only; omega)⟩ ?_; conv => whnf) | (refine fit_u8 ⟨by first | omega | rfl | (dsimp only; omega), by first | omega | rfl | (dsimp only; omega)⟩ ?_; conv => whnf) | (refine ⟨pureL_bys _, ?_⟩; conv => whnf) | (refine Or.inl ⟨⟨rfl, ?_⟩, ?_⟩; (focus (first | rfl | (simp; done))); conv => whnf) | (refine ⟨rfl, ?_⟩; conv => whnf) | (refine ⟨by first | omega | rfl | (dsimp only; omega), ?_⟩; conv => whnf) | (refine ⟨⟨rfl, ?_⟩, ?_⟩; (focus (first | (simp only [okB]; omega) | (simp [okB]; omega))); conv => whnf))
      refine ⟨roLoad_ok rfl (by simp; omega), ?_⟩
      conv => whnf
      repeat (first | (refine ifB_t ?_; conv => whnf) | (refine ifB_f ?_; conv => whnf) | (refine ifB_neg (decide_eq_false (by first | omega | rfl | (dsimp only; omega))) ?_; conv => whnf) | (refine ifB_pos (decide_eq_true (by first | omega | rfl | (dsimp only; omega))) ?_; conv => whnf) | (refine fit_i64 ⟨by first | omega | rfl | (dsimp only; omega), by first | omega | rfl | (dsimp only; omega)⟩ ?_; conv => whnf) | (refine fit_u64 ⟨by first | omega | rfl | (dsimp only; omega), by first | omega | rfl | (dsimp only; omega)⟩ ?_; conv => whnf) | (refine fit_u8 ⟨by first | omega | rfl | (dsimp only; omega), by first | omega | rfl | (dsimp only; omega)⟩ ?_; conv => whnf) | (refine ⟨pureL_bys _, ?_⟩; conv => whnf) | (refine Or.inl ⟨⟨rfl, ?_⟩, ?_⟩; (focus (first | rfl | (simp; done))); conv => whnf) | (refine ⟨rfl, ?_⟩; conv => whnf) | (refine ⟨by first | omega | rfl | (dsimp only; omega), ?_⟩; conv => whnf) | (refine ⟨⟨rfl, ?_⟩, ?_⟩; (focus (first | (simp only [okB]; omega) | (simp [okB]; omega))); conv => whnf))
      have hput := put_ok (rowL ms ns c) (by omega) (majorOf (ms.getD c 0)) (numMax (ns.getD c 0)) (majorOf_bound _).1 (majorOf_bound _).2 (numMax_bound _).1 (numMax_bound _).2
      refine ⟨_, get_intsM (c := c) (by omega) (by simp), ?_⟩
      conv => whnf
      repeat (first | (refine ifB_t ?_; conv => whnf) | (refine ifB_f ?_; conv => whnf) | (refine ifB_neg (decide_eq_false (by first | omega | rfl | (dsimp only; omega))) ?_; conv => whnf) | (refine ifB_pos (decide_eq_true (by first | omega | rfl | (dsimp only; omega))) ?_; conv => whnf) | (refine fit_i64 ⟨by first | omega | rfl | (dsimp only; omega), by first | omega | rfl | (dsimp only; omega)⟩ ?_; conv => whnf) | (refine fit_u64 ⟨by first | omega | rfl | (dsimp only; omega), by first | omega | rfl | (dsimp only; omega)⟩ ?_; conv => whnf) | (refine fit_u8 ⟨by first | omega | rfl | (dsimp only; omega), by first | omega | rfl | (dsimp only; omega)⟩ ?_; conv => whnf) | (refine ⟨pureL_bys _, ?_⟩; conv => whnf) | (refine Or.inl ⟨⟨rfl, ?_⟩, ?_⟩; (focus (first | rfl | (simp; done))); conv => whnf) | (refine ⟨rfl, ?_⟩; conv => whnf) | (refine ⟨by first | omega | rfl | (dsimp only; omega), ?_⟩; conv => whnf) | (refine ⟨⟨rfl, ?_⟩, ?_⟩; (focus (first | (simp only [okB]; omega) | (simp [okB]; omega))); conv => whnf))
      refine fit_wrap ?_
      conv => whnf
      repeat (first | (refine ifB_t ?_; conv => whnf) | (refine ifB_f ?_; conv => whnf) | (refine ifB_neg (decide_eq_false (by first | omega | rfl | (dsimp only; omega))) ?_; conv => whnf) | (refine ifB_pos (decide_eq_true (by first | omega | rfl | (dsimp only; omega))) ?_; conv => whnf) | (refine fit_i64 ⟨by first | omega | rfl | (dsimp only; omega), by first | omega | rfl | (dsimp only; omega)⟩ ?_; conv => whnf) | (refine fit_u64 ⟨by first | omega | rfl | (dsimp only; omega), by first | omega | rfl | (dsimp only; omega)⟩ ?_; conv => whnf) | (refine fit_u8 ⟨by first | omega | rfl | (dsimp only; omega), by first | omega | rfl | (dsimp only; omega)⟩ ?_; conv => whnf) | (refine ⟨pureL_bys _, ?_⟩; conv => whnf) | (refine Or.inl ⟨⟨rfl, ?_⟩, ?_⟩; (focus (first | rfl | (simp; done))); conv => whnf) | (refine ⟨rfl, ?_⟩; conv => whnf) | (refine ⟨by first | omega | rfl | (dsimp only; omega), ?_⟩; conv => whnf) | (refine ⟨⟨rfl, ?_⟩, ?_⟩; (focus (first | (simp only [okB]; omega) | (simp [okB]; omega))); conv => whnf))
      obtain ⟨mb1, mb2⟩ := majorOf_bound (ms.getD c 0)
      obtain ⟨nb1, nb2⟩ := numMax_bound (ns.getD c 0)
      have pb := putL_bound (majorOf (ms.getD c 0)) (numMax (ns.getD c 0)) nb1
      have hrs : (rowL ms ns c ++ putL (majorOf (ms.getD c 0)) (numMax (ns.getD c 0))).length = (rowL ms ns (c + 1)).length := rfl
      have hrl : (rowL ms ns (c + 1)).length = (rowL ms ns c).length + (putL (majorOf (ms.getD c 0)) (numMax (ns.getD c 0))).length := by simp [rowL]
      rw [show (IntKind.u64.wrap (ms.getD c 0)).tmod 8 = majorOf (ms.getD c 0) from rfl]
      refine fit_i64 ⟨by omega, by omega⟩ ?_
      conv => whnf
      repeat (first | (refine ifB_t ?_; conv => whnf) | (refine ifB_f ?_; conv => whnf) | (refine ifB_neg (decide_eq_false (by first | omega | rfl | (dsimp only; omega))) ?_; conv => whnf) | (refine ifB_pos (decide_eq_true (by first | omega | rfl | (dsimp only; omega))) ?_; conv => whnf) | (refine fit_i64 ⟨by first | omega | rfl | (dsimp only; omega), by first | omega | rfl | (dsimp only; omega)⟩ ?_; conv => whnf) | (refine fit_u64 ⟨by first | omega | rfl | (dsimp only; omega), by first | omega | rfl | (dsimp only; omega)⟩ ?_; conv => whnf) | (refine fit_u8 ⟨by first | omega | rfl | (dsimp only; omega), by first | omega | rfl | (dsimp only; omega)⟩ ?_; conv => whnf) | (refine ⟨pureL_bys _, ?_⟩; conv => whnf) | (refine Or.inl ⟨⟨rfl, ?_⟩, ?_⟩; (focus (first | rfl | (simp; done))); conv => whnf) | (refine ⟨rfl, ?_⟩; conv => whnf) | (refine ⟨by first | omega | rfl | (dsimp only; omega), ?_⟩; conv => whnf) | (refine ⟨⟨rfl, ?_⟩, ?_⟩; (focus (first | (simp only [okB]; omega) | (simp [okB]; omega))); conv => whnf))
      refine ⟨by simp; omega, ?_⟩
      conv => whnf
      repeat (first | (refine ifB_t ?_; conv => whnf) | (refine ifB_f ?_; conv => whnf) | (refine ifB_neg (decide_eq_false (by first | omega | rfl | (dsimp only; omega))) ?_; conv => whnf) | (refine ifB_pos (decide_eq_true (by first | omega | rfl | (dsimp only; omega))) ?_; conv => whnf) | (refine fit_i64 ⟨by first | omega | rfl | (dsimp only; omega), by first | omega | rfl | (dsimp only; omega)⟩ ?_; conv => whnf) | (refine fit_u64 ⟨by first | omega | rfl | (dsimp only; omega), by first | omega | rfl | (dsimp only; omega)⟩ ?_; conv => whnf) | (refine fit_u8 ⟨by first | omega | rfl | (dsimp only; omega), by first | omega | rfl | (dsimp only; omega)⟩ ?_; conv => whnf) | (refine ⟨pureL_bys _, ?_⟩; conv => whnf) | (refine Or.inl ⟨⟨rfl, ?_⟩, ?_⟩; (focus (first | rfl | (simp; done))); conv => whnf) | (refine ⟨rfl, ?_⟩; conv => whnf) | (refine ⟨by first | omega | rfl | (dsimp only; omega), ?_⟩; conv => whnf) | (refine ⟨⟨rfl, ?_⟩, ?_⟩; (focus (first | (simp only [okB]; omega) | (simp [okB]; omega))); conv => whnf))
      refine ⟨roLoad_ok rfl (by simp; omega), ?_⟩
      conv => whnf
      repeat (first | (refine ifB_t ?_; conv => whnf) | (refine ifB_f ?_; conv => whnf) | (refine ifB_neg (decide_eq_false (by first | omega | rfl | (dsimp only; omega))) ?_; conv => whnf) | (refine ifB_pos (decide_eq_true (by first | omega | rfl | (dsimp only; omega))) ?_; conv => whnf) | (refine fit_i64 ⟨by first | omega | rfl | (dsimp only; omega), by first | omega | rfl | (dsimp only; omega)⟩ ?_; conv => whnf) | (refine fit_u64 ⟨by first | omega | rfl | (dsimp only; omega), by first | omega | rfl | (dsimp only; omega)⟩ ?_; conv => whnf) | (refine fit_u8 ⟨by first | omega | rfl | (dsimp only; omega), by first | omega | rfl | (dsimp only; omega)⟩ ?_; conv => whnf) | (refine ⟨pureL_bys _, ?_⟩; conv => whnf) | (refine Or.inl ⟨⟨rfl, ?_⟩, ?_⟩; (focus (first | rfl | (simp; done))); conv => whnf) | (refine ⟨rfl, ?_⟩; conv => whnf) | (refine ⟨by first | omega | rfl | (dsimp only; omega), ?_⟩; conv => whnf) | (refine ⟨⟨rfl, ?_⟩, ?_⟩; (focus (first | (simp only [okB]; omega) | (simp [okB]; omega))); conv => whnf))
      refine ⟨_, get_intsM (c := c) (by omega) (by simp), ?_⟩
      conv => whnf
      repeat (first | (refine ifB_t ?_; conv => whnf) | (refine ifB_f ?_; conv => whnf) | (refine ifB_neg (decide_eq_false (by first | omega | rfl | (dsimp only; omega))) ?_; conv => whnf) | (refine ifB_pos (decide_eq_true (by first | omega | rfl | (dsimp only; omega))) ?_; conv => whnf) | (refine fit_i64 ⟨by first | omega | rfl | (dsimp only; omega), by first | omega | rfl | (dsimp only; omega)⟩ ?_; conv => whnf) | (refine fit_u64 ⟨by first | omega | rfl | (dsimp only; omega), by first | omega | rfl | (dsimp only; omega)⟩ ?_; conv => whnf) | (refine fit_u8 ⟨by first | omega | rfl | (dsimp only; omega), by first | omega | rfl | (dsimp only; omega)⟩ ?_; conv => whnf) | (refine ⟨pureL_bys _, ?_⟩; conv => whnf) | (refine Or.inl ⟨⟨rfl, ?_⟩, ?_⟩; (focus (first | rfl | (simp; done))); conv => whnf) | (refine ⟨rfl, ?_⟩; conv => whnf) | (refine ⟨by first | omega | rfl | (dsimp only; omega), ?_⟩; conv => whnf) | (refine ⟨⟨rfl, ?_⟩, ?_⟩; (focus (first | (simp only [okB]; omega) | (simp [okB]; omega))); conv => whnf))
      refine ⟨_, _, hput, by first | rfl | simp [noRoIf, noRoL, noRoV, noRoL_bys], ?_⟩
      conv => whnf
      repeat (first | (refine ifB_t ?_; conv => whnf) | (refine ifB_f ?_; conv => whnf) | (refine ifB_neg (decide_eq_false (by first | omega | rfl | (dsimp only; omega))) ?_; conv => whnf) | (refine ifB_pos (decide_eq_true (by first | omega | rfl | (dsimp only; omega))) ?_; conv => whnf) | (refine fit_i64 ⟨by first | omega | rfl | (dsimp only; omega), by first | omega | rfl | (dsimp only; omega)⟩ ?_; conv => whnf) | (refine fit_u64 ⟨by first | omega | rfl | (dsimp only; omega), by first | omega | rfl | (dsimp only; omega)⟩ ?_; conv => whnf) | (refine fit_u8 ⟨by first | omega | rfl | (dsimp only; omega), by first | omega | rfl | (dsimp only; omega)⟩ ?_; conv => whnf) | (refine ⟨pureL_bys _, ?_⟩; conv => whnf) | (refine Or.inl ⟨⟨rfl, ?_⟩, ?_⟩; (focus (first | rfl | (simp; done))); conv => whnf) | (refine ⟨rfl, ?_⟩; conv => whnf) | (refine ⟨by first | omega | rfl | (dsimp only; omega), ?_⟩; conv => whnf) | (refine ⟨⟨rfl, ?_⟩, ?_⟩; (focus (first | (simp only [okB]; omega) | (simp [okB]; omega))); conv => whnf))
      refine ⟨⟨rfl, rfl, by simp [endsL_length], by simp [limB]; omega⟩, ?_⟩
      conv => whnf
      repeat (first | (refine ifB_t ?_; conv => whnf) | (refine ifB_f ?_; conv => whnf))
      refine fit_i64 ⟨by omega, by omega⟩ ?_
      conv => whnf
      repeat (first | (refine ifB_t ?_; conv => whnf) | (refine ifB_f ?_; conv => whnf))
      refine ⟨c + 1, by omega, by omega, weaker_of [(0, 2), (1, 4)] rfl rfl ?_ ?_⟩
      · exact ⟨⟨rfl, rfl, pureL_map _ _⟩, ⟨rfl, rfl, pureL_map _ _⟩, ⟨rfl, rfl, rfl, rfl, id⟩, ⟨rfl, rfl, rfl, rfl, id⟩, ⟨rfl, rfl⟩, ⟨rfl, rfl⟩, trivial⟩
      · refine ⟨lesP_bys rfl, lesP_ints ?_, trivial⟩
        rw [endsL_succ, ← ints_snoc]
        rfl
    · conv => whnf
      repeat (first | (refine ifB_t ?_; conv => whnf) | (refine ifB_f ?_; conv => whnf))
      have hcn : c = n := by omega
      subst hcn
      have hgc : ∀ d, d < c → ACall Try.prog 13 [.ro (rowL ms ns c).length (bys (rowL ms ns c)), .int .i64 ((rowL ms ns d).length : Int)]
          (tup4 (majorOf (ms.getD d 0), numMax (ns.getD d 0), ((rowL ms ns (d + 1)).length : Int), 0)) [] := fun d hd => by
        rw [← getR_row ms ns c d hd]
        exact get_ok _ (byt_rowL ms ns c) (by omega) _
      refine Does.loop (fun d : Nat => mkSt [(0, .ro ms.length (ms.map (AV.int .i64))), (1, .ro ns.length (ns.map (AV.int .i64))), (5, .sl 0 0 (rowL ms ns c).length 1 false), (6, .sl 1 0 c 1 false), (7, .int .i64 c), (11, .int .i64 ((rowL ms ns d).length : Int)), (12, .int .i64 d)]
          [(0, bys (rowL ms ns c)), (1, ints (endsL ms ns c))] 2 152) (fun d => d ≤ c) (fun d => c - d) ?_ 0 (by omega) ?_
      · intro d hd
        refine wpc_sound (M := MH) (PL := PLrow) (CU := noCut) TTok mixed _ _ _ ?_
        conv => whnf
        repeat (first | (refine ifB_t ?_; conv => whnf) | (refine ifB_f ?_; conv => whnf))
        refine ifB_dec (fun h4 => ?_) (fun h4 => ?_)
        · obtain ⟨mb1, mb2⟩ := majorOf_bound (ms.getD d 0)
          obtain ⟨nb1, nb2⟩ := numMax_bound (ns.getD d 0)
          have hge := hgc d (by omega)
          conv => whnf
          repeat (first | (refine ifB_t ?_; conv => whnf) | (refine ifB_f ?_; conv => whnf) | (refine ifB_neg (decide_eq_false (by first | omega | rfl | (dsimp only; omega))) ?_; conv => whnf) | (refine ifB_pos (decide_eq_true (by first | omega | rfl | (dsimp only; omega))) ?_; conv => whnf) | (refine fit_i64 ⟨by first | omega | rfl | (dsimp only; omega), by first | omega | rfl | (dsimp only; omega)⟩ ?_; conv => whnf) | (refine fit_u64 ⟨by first | omega | rfl | (dsimp only; omega), by first | omega | rfl | (dsimp only; omega)⟩ ?_; conv => whnf) | (refine fit_u8 ⟨by first | omega | rfl | (dsimp only; omega), by first | omega | rfl | (dsimp only; omega)⟩ ?_; conv => whnf) | (refine ⟨pureL_bys _, ?_⟩; conv => whnf) | (refine Or.inl ⟨⟨rfl, ?_⟩, ?_⟩; (focus (first | rfl | (simp; done))); conv => whnf) | (refine ⟨rfl, ?_⟩; conv => whnf) | (refine ⟨by first | omega | rfl | (dsimp only; omega), ?_⟩; conv => whnf) | (refine ⟨⟨rfl, ?_⟩, ?_⟩; (focus (first | (simp only [okB]; omega) | (simp [okB]; omega))); conv => whnf))
          refine ⟨_, _, hge, by first | rfl | simp [noRoIf, noRoL, noRoV, noRoL_bys], ?_⟩
          conv => whnf
          repeat (first | (refine ifB_t ?_; conv => whnf) | (refine ifB_f ?_; conv => whnf) | (refine ifB_neg (decide_eq_false (by first | omega | rfl | (dsimp only; omega))) ?_; conv => whnf) | (refine ifB_pos (decide_eq_true (by first | omega | rfl | (dsimp only; omega))) ?_; conv => whnf) | (refine fit_i64 ⟨by first | omega | rfl | (dsimp only; omega), by first | omega | rfl | (dsimp only; omega)⟩ ?_; conv => whnf) | (refine fit_u64 ⟨by first | omega | rfl | (dsimp only; omega), by first | omega | rfl | (dsimp only; omega)⟩ ?_; conv => whnf) | (refine fit_u8 ⟨by first | omega | rfl | (dsimp only; omega), by first | omega | rfl | (dsimp only; omega)⟩ ?_; conv => whnf) | (refine ⟨pureL_bys _, ?_⟩; conv => whnf) | (refine Or.inl ⟨⟨rfl, ?_⟩, ?_⟩; (focus (first | rfl | (simp; done))); conv => whnf) | (refine ⟨rfl, ?_⟩; conv => whnf) | (refine ⟨by first | omega | rfl | (dsimp only; omega), ?_⟩; conv => whnf) | (refine ⟨⟨rfl, ?_⟩, ?_⟩; (focus (first | (simp only [okB]; omega) | (simp [okB]; omega))); conv => whnf))
          refine ⟨by simp; omega, ?_⟩
          conv => whnf
          repeat (first | (refine ifB_t ?_; conv => whnf) | (refine ifB_f ?_; conv => whnf) | (refine ifB_neg (decide_eq_false (by first | omega | rfl | (dsimp only; omega))) ?_; conv => whnf) | (refine ifB_pos (decide_eq_true (by first | omega | rfl | (dsimp only; omega))) ?_; conv => whnf) | (refine fit_i64 ⟨by first | omega | rfl | (dsimp only; omega), by first | omega | rfl | (dsimp only; omega)⟩ ?_; conv => whnf) | (refine fit_u64 ⟨by first | omega | rfl | (dsimp only; omega), by first | omega | rfl | (dsimp only; omega)⟩ ?_; conv => whnf) | (refine fit_u8 ⟨by first | omega | rfl | (dsimp only; omega), by first | omega | rfl | (dsimp only; omega)⟩ ?_; conv => whnf) | (refine ⟨pureL_bys _, ?_⟩; conv => whnf) | (refine Or.inl ⟨⟨rfl, ?_⟩, ?_⟩; (focus (first | rfl | (simp; done))); conv => whnf) | (refine ⟨rfl, ?_⟩; conv => whnf) | (refine ⟨by first | omega | rfl | (dsimp only; omega), ?_⟩; conv => whnf) | (refine ⟨⟨rfl, ?_⟩, ?_⟩; (focus (first | (simp only [okB]; omega) | (simp [okB]; omega))); conv => whnf))
          refine ⟨_, get_intsM (c := d) (by omega) (by simp), ?_⟩
          conv => whnf
          repeat (first | (refine ifB_t ?_; conv => whnf) | (refine ifB_f ?_; conv => whnf) | (refine ifB_neg (decide_eq_false (by first | omega | rfl | (dsimp only; omega))) ?_; conv => whnf) | (refine ifB_pos (decide_eq_true (by first | omega | rfl | (dsimp only; omega))) ?_; conv => whnf) | (refine fit_i64 ⟨by first | omega | rfl | (dsimp only; omega), by first | omega | rfl | (dsimp only; omega)⟩ ?_; conv => whnf) | (refine fit_u64 ⟨by first | omega | rfl | (dsimp only; omega), by first | omega | rfl | (dsimp only; omega)⟩ ?_; conv => whnf) | (refine fit_u8 ⟨by first | omega | rfl | (dsimp only; omega), by first | omega | rfl | (dsimp only; omega)⟩ ?_; conv => whnf) | (refine ⟨pureL_bys _, ?_⟩; conv => whnf) | (refine Or.inl ⟨⟨rfl, ?_⟩, ?_⟩; (focus (first | rfl | (simp; done))); conv => whnf) | (refine ⟨rfl, ?_⟩; conv => whnf) | (refine ⟨by first | omega | rfl | (dsimp only; omega), ?_⟩; conv => whnf) | (refine ⟨⟨rfl, ?_⟩, ?_⟩; (focus (first | (simp only [okB]; omega) | (simp [okB]; omega))); conv => whnf))
          refine fit_wrap ?_
          conv => whnf
          repeat (first | (refine ifB_t ?_; conv => whnf) | (refine ifB_f ?_; conv => whnf) | (refine ifB_neg (decide_eq_false (by first | omega | rfl | (dsimp only; omega))) ?_; conv => whnf) | (refine ifB_pos (decide_eq_true (by first | omega | rfl | (dsimp only; omega))) ?_; conv => whnf) | (refine fit_i64 ⟨by first | omega | rfl | (dsimp only; omega), by first | omega | rfl | (dsimp only; omega)⟩ ?_; conv => whnf) | (refine fit_u64 ⟨by first | omega | rfl | (dsimp only; omega), by first | omega | rfl | (dsimp only; omega)⟩ ?_; conv => whnf) | (refine fit_u8 ⟨by first | omega | rfl | (dsimp only; omega), by first | omega | rfl | (dsimp only; omega)⟩ ?_; conv => whnf) | (refine ⟨pureL_bys _, ?_⟩; conv => whnf) | (refine Or.inl ⟨⟨rfl, ?_⟩, ?_⟩; (focus (first | rfl | (simp; done))); conv => whnf) | (refine ⟨rfl, ?_⟩; conv => whnf) | (refine ⟨by first | omega | rfl | (dsimp only; omega), ?_⟩; conv => whnf) | (refine ⟨⟨rfl, ?_⟩, ?_⟩; (focus (first | (simp only [okB]; omega) | (simp [okB]; omega))); conv => whnf))
          rw [show (IntKind.u64.wrap (ms.getD d 0)).tmod 8 = majorOf (ms.getD d 0) from rfl]
          refine fit_i64 ⟨by omega, by omega⟩ ?_
          conv => whnf
          repeat (first | (refine ifB_t ?_; conv => whnf) | (refine ifB_f ?_; conv => whnf) | (refine ifB_neg (decide_eq_false (by first | omega | rfl | (dsimp only; omega))) ?_; conv => whnf) | (refine ifB_pos (decide_eq_true (by first | omega | rfl | (dsimp only; omega))) ?_; conv => whnf) | (refine fit_i64 ⟨by first | omega | rfl | (dsimp only; omega), by first | omega | rfl | (dsimp only; omega)⟩ ?_; conv => whnf) | (refine fit_u64 ⟨by first | omega | rfl | (dsimp only; omega), by first | omega | rfl | (dsimp only; omega)⟩ ?_; conv => whnf) | (refine fit_u8 ⟨by first | omega | rfl | (dsimp only; omega), by first | omega | rfl | (dsimp only; omega)⟩ ?_; conv => whnf) | (refine ⟨pureL_bys _, ?_⟩; conv => whnf) | (refine Or.inl ⟨⟨rfl, ?_⟩, ?_⟩; (focus (first | rfl | (simp; done))); conv => whnf) | (refine ⟨rfl, ?_⟩; conv => whnf) | (refine ⟨by first | omega | rfl | (dsimp only; omega), ?_⟩; conv => whnf) | (refine ⟨⟨rfl, ?_⟩, ?_⟩; (focus (first | (simp only [okB]; omega) | (simp [okB]; omega))); conv => whnf))
          refine ⟨by simp; omega, ?_⟩
          conv => whnf
          repeat (first | (refine ifB_t ?_; conv => whnf) | (refine ifB_f ?_; conv => whnf) | (refine ifB_neg (decide_eq_false (by first | omega | rfl | (dsimp only; omega))) ?_; conv => whnf) | (refine ifB_pos (decide_eq_true (by first | omega | rfl | (dsimp only; omega))) ?_; conv => whnf) | (refine fit_i64 ⟨by first | omega | rfl | (dsimp only; omega), by first | omega | rfl | (dsimp only; omega)⟩ ?_; conv => whnf) | (refine fit_u64 ⟨by first | omega | rfl | (dsimp only; omega), by first | omega | rfl | (dsimp only; omega)⟩ ?_; conv => whnf) | (refine fit_u8 ⟨by first | omega | rfl | (dsimp only; omega), by first | omega | rfl | (dsimp only; omega)⟩ ?_; conv => whnf) | (refine ⟨pureL_bys _, ?_⟩; conv => whnf) | (refine Or.inl ⟨⟨rfl, ?_⟩, ?_⟩; (focus (first | rfl | (simp; done))); conv => whnf) | (refine ⟨rfl, ?_⟩; conv => whnf) | (refine ⟨by first | omega | rfl | (dsimp only; omega), ?_⟩; conv => whnf) | (refine ⟨⟨rfl, ?_⟩, ?_⟩; (focus (first | (simp only [okB]; omega) | (simp [okB]; omega))); conv => whnf))
          refine ⟨_, get_intsM (c := d) (by omega) (by simp), ?_⟩
          conv => whnf
          repeat (first | (refine ifB_t ?_; conv => whnf) | (refine ifB_f ?_; conv => whnf) | (refine ifB_neg (decide_eq_false (by first | omega | rfl | (dsimp only; omega))) ?_; conv => whnf) | (refine ifB_pos (decide_eq_true (by first | omega | rfl | (dsimp only; omega))) ?_; conv => whnf) | (refine fit_i64 ⟨by first | omega | rfl | (dsimp only; omega), by first | omega | rfl | (dsimp only; omega)⟩ ?_; conv => whnf) | (refine fit_u64 ⟨by first | omega | rfl | (dsimp only; omega), by first | omega | rfl | (dsimp only; omega)⟩ ?_; conv => whnf) | (refine fit_u8 ⟨by first | omega | rfl | (dsimp only; omega), by first | omega | rfl | (dsimp only; omega)⟩ ?_; conv => whnf) | (refine ⟨pureL_bys _, ?_⟩; conv => whnf) | (refine Or.inl ⟨⟨rfl, ?_⟩, ?_⟩; (focus (first | rfl | (simp; done))); conv => whnf) | (refine ⟨rfl, ?_⟩; conv => whnf) | (refine ⟨by first | omega | rfl | (dsimp only; omega), ?_⟩; conv => whnf) | (refine ⟨⟨rfl, ?_⟩, ?_⟩; (focus (first | (simp only [okB]; omega) | (simp [okB]; omega))); conv => whnf))
          refine ifB_neg (decide_eq_false (fun h => h rfl)) ?_
          conv => whnf
          repeat (first | (refine ifB_t ?_; conv => whnf) | (refine ifB_f ?_; conv => whnf) | (refine ifB_neg (decide_eq_false (by first | omega | rfl | (dsimp only; omega))) ?_; conv => whnf) | (refine ifB_pos (decide_eq_true (by first | omega | rfl | (dsimp only; omega))) ?_; conv => whnf) | (refine fit_i64 ⟨by first | omega | rfl | (dsimp only; omega), by first | omega | rfl | (dsimp only; omega)⟩ ?_; conv => whnf) | (refine fit_u64 ⟨by first | omega | rfl | (dsimp only; omega), by first | omega | rfl | (dsimp only; omega)⟩ ?_; conv => whnf) | (refine fit_u8 ⟨by first | omega | rfl | (dsimp only; omega), by first | omega | rfl | (dsimp only; omega)⟩ ?_; conv => whnf) | (refine ⟨pureL_bys _, ?_⟩; conv => whnf) | (refine Or.inl ⟨⟨rfl, ?_⟩, ?_⟩; (focus (first | rfl | (simp; done))); conv => whnf) | (refine ⟨rfl, ?_⟩; conv => whnf) | (refine ⟨by first | omega | rfl | (dsimp only; omega), ?_⟩; conv => whnf) | (refine ⟨⟨rfl, ?_⟩, ?_⟩; (focus (first | (simp only [okB]; omega) | (simp [okB]; omega))); conv => whnf))
          refine ⟨_, get_intsM (k := .i64) (l := endsL ms ns c) (c := d) (by simp [endsL_length]; omega) (by simp), ?_⟩
          conv => whnf
          repeat (first | (refine ifB_t ?_; conv => whnf) | (refine ifB_f ?_; conv => whnf))
          have hend : (endsL ms ns c).getD d 0 = ((rowL ms ns (d + 1)).length : Int) := by
            simp [endsL, show d < c by omega]
          rw [hend]
          refine ifB_neg (decide_eq_false (fun h => h rfl)) ?_
          conv => whnf
          repeat (first | (refine ifB_t ?_; conv => whnf) | (refine ifB_f ?_; conv => whnf))
          refine fit_i64 ⟨by omega, by omega⟩ ?_
          conv => whnf
          repeat (first | (refine ifB_t ?_; conv => whnf) | (refine ifB_f ?_; conv => whnf))
          refine ⟨d + 1, by omega, by omega, weaker_of [(0, 0), (1, 1)] rfl rfl ?_ ?_⟩
          · exact ⟨⟨rfl, rfl, pureL_map _ _⟩, ⟨rfl, rfl, pureL_map _ _⟩, ⟨rfl, rfl, rfl, rfl, id⟩, ⟨rfl, rfl, rfl, rfl, id⟩, ⟨rfl, rfl⟩, ⟨rfl, rfl⟩, ⟨rfl, rfl⟩, trivial⟩
          · exact ⟨lesP_bys rfl, lesP_ints rfl, trivial⟩
        · obtain rfl : d = c := by omega
          have hE : getR (rowL ms ns d) ((rowL ms ns d).length : Int) = (0, 0, 0, 3) := by simp [getR]
          have hF : getR (rowL ms ns d) ((rowL ms ns d).length + 1 : Int) = (0, 0, 0, 1) := by
            simp [getR]
            omega
          have hge := get_ok (rowL ms ns d) (byt_rowL ms ns d) (by omega) ((rowL ms ns d).length : Int)
          have hgf := get_ok (rowL ms ns d) (byt_rowL ms ns d) (by omega) ((rowL ms ns d).length + 1 : Int)
          rw [hE] at hge
          rw [hF] at hgf
          conv => whnf
          repeat (first | (refine ifB_t ?_; conv => whnf) | (refine ifB_f ?_; conv => whnf) | (refine ifB_neg (decide_eq_false (by first | omega | rfl | (dsimp only; omega))) ?_; conv => whnf) | (refine ifB_pos (decide_eq_true (by first | omega | rfl | (dsimp only; omega))) ?_; conv => whnf) | (refine fit_i64 ⟨by first | omega | rfl | (dsimp only; omega), by first | omega | rfl | (dsimp only; omega)⟩ ?_; conv => whnf) | (refine fit_u64 ⟨by first | omega | rfl | (dsimp only; omega), by first | omega | rfl | (dsimp only; omega)⟩ ?_; conv => whnf) | (refine fit_u8 ⟨by first | omega | rfl | (dsimp only; omega), by first | omega | rfl | (dsimp only; omega)⟩ ?_; conv => whnf) | (refine ⟨pureL_bys _, ?_⟩; conv => whnf) | (refine Or.inl ⟨⟨rfl, ?_⟩, ?_⟩; (focus (first | rfl | (simp; done))); conv => whnf) | (refine ⟨rfl, ?_⟩; conv => whnf) | (refine ⟨by first | omega | rfl | (dsimp only; omega), ?_⟩; conv => whnf) | (refine ⟨⟨rfl, ?_⟩, ?_⟩; (focus (first | (simp only [okB]; omega) | (simp [okB]; omega))); conv => whnf))
          refine ⟨_, _, hge, by first | rfl | simp [noRoIf, noRoL, noRoV, noRoL_bys], ?_⟩
          conv => whnf
          repeat (first | (refine ifB_t ?_; conv => whnf) | (refine ifB_f ?_; conv => whnf) | (refine ifB_neg (decide_eq_false (by first | omega | rfl | (dsimp only; omega))) ?_; conv => whnf) | (refine ifB_pos (decide_eq_true (by first | omega | rfl | (dsimp only; omega))) ?_; conv => whnf) | (refine fit_i64 ⟨by first | omega | rfl | (dsimp only; omega), by first | omega | rfl | (dsimp only; omega)⟩ ?_; conv => whnf) | (refine fit_u64 ⟨by first | omega | rfl | (dsimp only; omega), by first | omega | rfl | (dsimp only; omega)⟩ ?_; conv => whnf) | (refine fit_u8 ⟨by first | omega | rfl | (dsimp only; omega), by first | omega | rfl | (dsimp only; omega)⟩ ?_; conv => whnf) | (refine ⟨pureL_bys _, ?_⟩; conv => whnf) | (refine Or.inl ⟨⟨rfl, ?_⟩, ?_⟩; (focus (first | rfl | (simp; done))); conv => whnf) | (refine ⟨rfl, ?_⟩; conv => whnf) | (refine ⟨by first | omega | rfl | (dsimp only; omega), ?_⟩; conv => whnf) | (refine ⟨⟨rfl, ?_⟩, ?_⟩; (focus (first | (simp only [okB]; omega) | (simp [okB]; omega))); conv => whnf))
          refine ⟨_, _, hgf, by first | rfl | simp [noRoIf, noRoL, noRoV, noRoL_bys], ?_⟩
          conv => whnf
          repeat (first | (refine ifB_t ?_; conv => whnf) | (refine ifB_f ?_; conv => whnf) | (refine ifB_neg (decide_eq_false (by first | omega | rfl | (dsimp only; omega))) ?_; conv => whnf) | (refine ifB_pos (decide_eq_true (by first | omega | rfl | (dsimp only; omega))) ?_; conv => whnf) | (refine fit_i64 ⟨by first | omega | rfl | (dsimp only; omega), by first | omega | rfl | (dsimp only; omega)⟩ ?_; conv => whnf) | (refine fit_u64 ⟨by first | omega | rfl | (dsimp only; omega), by first | omega | rfl | (dsimp only; omega)⟩ ?_; conv => whnf) | (refine fit_u8 ⟨by first | omega | rfl | (dsimp only; omega), by first | omega | rfl | (dsimp only; omega)⟩ ?_; conv => whnf) | (refine ⟨pureL_bys _, ?_⟩; conv => whnf) | (refine Or.inl ⟨⟨rfl, ?_⟩, ?_⟩; (focus (first | rfl | (simp; done))); conv => whnf) | (refine ⟨rfl, ?_⟩; conv => whnf) | (refine ⟨by first | omega | rfl | (dsimp only; omega), ?_⟩; conv => whnf) | (refine ⟨⟨rfl, ?_⟩, ?_⟩; (focus (first | (simp only [okB]; omega) | (simp [okB]; omega))); conv => whnf))
          refine ⟨_, _, wakes_ok, by first | rfl | simp [noRoIf, noRoL, noRoV, noRoL_bys], ?_⟩
          conv => whnf
          repeat (first | (refine ifB_t ?_; conv => whnf) | (refine ifB_f ?_; conv => whnf) | (refine ifB_neg (decide_eq_false (by first | omega | rfl | (dsimp only; omega))) ?_; conv => whnf) | (refine ifB_pos (decide_eq_true (by first | omega | rfl | (dsimp only; omega))) ?_; conv => whnf) | (refine fit_i64 ⟨by first | omega | rfl | (dsimp only; omega), by first | omega | rfl | (dsimp only; omega)⟩ ?_; conv => whnf) | (refine fit_u64 ⟨by first | omega | rfl | (dsimp only; omega), by first | omega | rfl | (dsimp only; omega)⟩ ?_; conv => whnf) | (refine fit_u8 ⟨by first | omega | rfl | (dsimp only; omega), by first | omega | rfl | (dsimp only; omega)⟩ ?_; conv => whnf) | (refine ⟨pureL_bys _, ?_⟩; conv => whnf) | (refine Or.inl ⟨⟨rfl, ?_⟩, ?_⟩; (focus (first | rfl | (simp; done))); conv => whnf) | (refine ⟨rfl, ?_⟩; conv => whnf) | (refine ⟨by first | omega | rfl | (dsimp only; omega), ?_⟩; conv => whnf) | (refine ⟨⟨rfl, ?_⟩, ?_⟩; (focus (first | (simp only [okB]; omega) | (simp [okB]; omega))); conv => whnf))
          rfl
      · refine weaker_of [(0, 0), (1, 1)] rfl rfl ?_ ?_
        · exact ⟨⟨rfl, rfl, pureL_map _ _⟩, ⟨rfl, rfl, pureL_map _ _⟩, ⟨rfl, rfl, rfl, rfl, id⟩, ⟨rfl, rfl, rfl, rfl, id⟩, ⟨rfl, rfl⟩, ⟨rfl, rfl⟩, ⟨rfl, rfl⟩, trivial⟩
        · exact ⟨lesP_bys rfl, lesP_ints rfl, trivial⟩
  · refine weaker_of [] rfl rfl ?_ ?_
    · exact ⟨⟨rfl, rfl, pureL_map _ _⟩, ⟨rfl, rfl, pureL_map _ _⟩, rfl, rfl, ⟨rfl, by show (if (ns.length : Int) < ms.length then (ns.length : Int) else ms.length) = n; split <;> omega⟩, ⟨rfl, rfl⟩, trivial⟩
    · exact ⟨rfl, rfl, trivial⟩

end Go.Proofs.Ytaefmhdpfmpijaa.Abs
