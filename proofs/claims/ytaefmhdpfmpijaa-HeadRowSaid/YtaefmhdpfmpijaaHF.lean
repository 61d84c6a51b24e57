/- Numbers in bytes: there and back. -/
import Derived.Test.YtaefmhdpfmpijaaHE
set_option linter.unusedVariables false
set_option linter.unusedSimpArgs false
namespace Go.Proofs.Ytaefmhdpfmpijaa.Abs
open Go

theorem byteAt_succ (v c : Int) (h0 : 0 ≤ c) (h1 : c < 256) (i : Nat) : byteAt (v * 256 + c) (i + 1) = byteAt v i := by
  unfold byteAt
  have e : (2 : Int) ^ (8 * (i + 1)) = 256 * 2 ^ (8 * i) := by
    rw [Nat.mul_add, Int.pow_add]
    have : (2 : Int) ^ (8 * 1) = 256 := by decide
    rw [this, Int.mul_comm]
  rw [e, ← Int.ediv_ediv_of_nonneg (by omega)]
  congr 2
  omega

theorem beAcc_snoc (v c : Int) (h0 : 0 ≤ c) (h1 : c < 256) (m : Nat) : beAcc (v * 256 + c) (m + 1) (m + 1) = beAcc v m m ++ [c] := by
  rw [beAcc_succ]
  congr 1
  · unfold beAcc
    apply List.map_congr_left
    intro j hj
    have hj := List.mem_range.1 hj
    have : m + 1 - 1 - j = (m - 1 - j) + 1 := by omega
    rw [this, byteAt_succ _ _ h0 h1]
  · have : m + 1 - 1 - m = 0 := by omega
    rw [this]
    simp [byteAt]
    omega

theorem beAcc_beVal {s : List Int} (h : Byt s) : beAcc (beVal s) s.length s.length = s := by
  have : ∀ n, n ≤ s.length → beAcc (beVal (s.take n)) n n = s.take n := by
    intro n
    induction n with
    | zero => intro _; simp [beAcc]
    | succ n ih =>
      intro hn
      have hc := h s[n] (by simp)
      rw [beVal_take (by omega), beAcc_snoc _ _ hc.1 hc.2, ih (by omega), List.take_succ_eq_append_getElem (by omega)]
  simpa using this s.length (Nat.le_refl _)

theorem byt_beAcc (n : Int) (m c : Nat) : Byt (beAcc n m c) := by
  intro x hx
  simp only [beAcc, List.mem_map, List.mem_range] at hx
  obtain ⟨j, _, rfl⟩ := hx
  unfold byteAt
  omega

theorem beVal_beAcc (n : Int) (h0 : 0 ≤ n) : ∀ m : Nat, beVal (beAcc n m m) = n % 256 ^ m := by
  intro m
  induction m generalizing n with
  | zero => simp [beAcc, beVal]
  | succ m ih =>
    have e : n = n / 256 * 256 + n % 256 := by omega
    have : beAcc n (m + 1) (m + 1) = beAcc (n / 256) m m ++ [n % 256] := by
      conv => lhs; rw [e]
      exact beAcc_snoc _ _ (by omega) (by omega) m
    rw [this, beVal_snoc, ih (n / 256) (by omega), Int.pow_succ]
    have hp : (0 : Int) < 256 ^ m := Int.pow_pos (by omega)
    rw [Int.mul_comm (256 ^ m) 256]
    have h1 := Int.emod_add_mul_ediv n (256 * 256 ^ m)
    have h2 := Int.emod_add_mul_ediv (n / 256) (256 ^ m)
    rw [Int.ediv_ediv_of_nonneg (by omega)] at h2
    generalize n / (256 * 256 ^ m) = q at h1 h2
    generalize (256 : Int) ^ m = p at h1 h2 ⊢
    have : 256 * p * q = 256 * (p * q) := by rw [Int.mul_assoc]
    omega

theorem beVal_cons (x : Int) (t : List Int) : beVal (x :: t) = x * 256 ^ t.length + beVal t := by
  have : ∀ (t : List Int) (a : Int), t.foldl (fun x c => x * 256 + c) a = a * 256 ^ t.length + t.foldl (fun x c => x * 256 + c) 0 := by
    intro t
    induction t with
    | nil => intro a; simp
    | cons y t ih =>
      intro a
      simp only [List.foldl_cons, List.length_cons]
      rw [ih (a * 256 + y), ih (0 * 256 + y), Int.pow_succ, Int.add_mul, Int.add_mul, Int.mul_assoc, Int.mul_comm 256]
      simp
      omega
  simpa [beVal] using this t x

theorem num8 {s : List Int} (h : Byt s) (hl : s.length = 8) : (9223372036854775807 < beVal s) ↔ 127 < s[0]'(by omega) := by
  cases s with
  | nil => simp at hl
  | cons x t =>
    have ht : t.length = 7 := by simpa using hl
    have h1 := beVal_bound (l := t) (fun y hy => h y (by simp [hy]))
    have hx := h x (by simp)
    rw [ht] at h1
    rw [beVal_cons, ht]
    have : (256 : Int) ^ 7 = 72057594037927936 := by decide
    rw [this] at h1 ⊢
    simp only [List.getElem_cons_zero]
    omega

theorem num7 {s : List Int} (h : Byt s) (hl : s.length = 7) (h0 : s[0]'(by omega) ≤ 127) : beVal s < 36028797018963968 := by
  cases s with
  | nil => simp at hl
  | cons x t =>
    have ht : t.length = 6 := by simpa using hl
    have h1 := beVal_bound (l := t) (fun y hy => h y (by simp [hy]))
    have hx := h x (by simp)
    rw [ht] at h1
    rw [beVal_cons, ht]
    have : (256 : Int) ^ 6 = 281474976710656 := by decide
    rw [this] at h1 ⊢
    simp only [List.getElem_cons_zero] at h0
    omega

theorem sizeR_cases (n : Int) : sizeR n = (0, n) ∧ n < 24 ∨ sizeR n = (1, 24) ∨ sizeR n = (2, 25) ∨ sizeR n = (4, 26) ∨ sizeR n = (8, 27) := by
  unfold sizeR
  repeat' split
  all_goals simp
  assumption

theorem moreOf_cases (hd : Int) (h : ¬ 27 < hd % 32) : moreOf hd = 0 ∧ ¬ 24 ≤ hd % 32 ∨ moreOf hd = 1 ∧ hd % 32 = 24 ∨ moreOf hd = 2 ∧ hd % 32 = 25 ∨ moreOf hd = 4 ∧ hd % 32 = 26 ∨ moreOf hd = 8 ∧ hd % 32 = 27 := by
  unfold moreOf
  by_cases q0 : 24 ≤ hd % 32
  · have : hd % 32 = 24 ∨ hd % 32 = 25 ∨ hd % 32 = 26 ∨ hd % 32 = 27 := by omega
    rcases this with e | e | e | e <;> simp [e]
  · simp [q0]

/-- A head that is the shortest is the one that Put writes. -/
theorem putL_of {hd : Int} {s : List Int} (h0 : 0 ≤ hd) (h4 : ¬ 27 < hd % 32) (hs : Byt s) (hl : s.length = moreOf hd) (h : (sizeR (numOf hd s)).1 = moreOf hd) : putL (hd / 32) (numOf hd s) = hd :: s := by
  unfold putL
  rw [h]
  rcases moreOf_cases hd h4 with ⟨e1, e2⟩ | ⟨e1, e2⟩ | ⟨e1, e2⟩ | ⟨e1, e2⟩ | ⟨e1, e2⟩
  · have hn : numOf hd s = hd % 32 := by simp [numOf, e2]
    have hs0 : s = [] := List.length_eq_zero_iff.1 (by omega)
    have hz : (sizeR (hd % 32)).2 = hd % 32 := by
      have : hd % 32 < 24 := by omega
      simp [sizeR, this]
    rw [hn, e1, hs0, hz]
    simp [beAcc]
    omega
  all_goals
    have hn : numOf hd s = beVal s := by
      have : 24 ≤ hd % 32 := by omega
      simp [numOf, this]
    rw [hn] at h ⊢
    rw [← hl, beAcc_beVal hs]
    have hz : (sizeR (beVal s)).2 = hd % 32 := by
      rcases sizeR_cases (beVal s) with ⟨e, _⟩ | e | e | e | e <;> rw [e] at h ⊢ <;> simp at h ⊢ <;> omega
    rw [hz]
    congr 1
    omega

theorem num_small {s : List Int} (h : Byt s) (hl : s.length ≤ 7) : ¬ 9223372036854775807 < beVal s := by
  have h1 := beVal_bound h
  have : (256 : Int) ^ s.length ≤ 72057594037927936 := by
    have : s.length = 0 ∨ s.length = 1 ∨ s.length = 2 ∨ s.length = 3 ∨ s.length = 4 ∨ s.length = 5 ∨ s.length = 6 ∨ s.length = 7 := by omega
    rcases this with e | e | e | e | e | e | e | e <;> rw [e] <;> decide
  omega

end Go.Proofs.Ytaefmhdpfmpijaa.Abs
