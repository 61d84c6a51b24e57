/- What head.Get says of what head.Put writes; the order of heads. -/
import Derived.Test.YtaefmhdpfmpijaaHJ
set_option linter.unusedVariables false
set_option linter.unusedSimpArgs false
namespace Go.Proofs.Ytaefmhdpfmpijaa.Abs
open Go

theorem and_max (x : Int) : ∃ r : Nat, bits .and .i64 x 9223372036854775807 = r ∧ r < 9223372036854775808 := by
  let m : Nat := (BitVec.ofInt 64 x &&& BitVec.ofInt 64 9223372036854775807).toNat
  have hm : m ≤ 9223372036854775807 := by
    simp only [m, BitVec.toNat_and]
    exact Nat.le_trans Nat.and_le_right (by decide)
  refine ⟨m, ?_, by omega⟩
  show IntKind.i64.wrap (m : Int) = m
  exact wrap_i64_63 _ (by omega) (by omega)

theorem sizeR_bound (n : Int) (h0 : 0 ≤ n) (h1 : n < 9223372036854775808) : n < 256 ^ (sizeR n).1 ∨ n < 24 := by
  unfold sizeR
  repeat' split
  all_goals first | (right; assumption) | (left; simp; omega)

theorem putL_length (M n : Int) : (putL M n).length = 1 + (sizeR n).1 := by simp [putL]; omega

theorem moreOf_put (M n : Int) (hn : 0 ≤ n) : moreOf (M * 32 + (sizeR n).2) = (sizeR n).1 ∧ (M * 32 + (sizeR n).2) / 32 = M ∧ (M * 32 + (sizeR n).2) % 32 = (sizeR n).2 ∧ (sizeR n).2 ≤ 27 := by
  rcases sizeR_cases n with ⟨e, h⟩ | e | e | e | e <;> rw [e]
  · have h1 : (M * 32 + n) % 32 = n := by omega
    have h2 : ¬ 24 ≤ n := by omega
    refine ⟨by simp only [moreOf, h1, if_neg h2], by omega, h1, by omega⟩
  all_goals
    refine ⟨?_, by omega, by omega, by omega⟩
    simp only [moreOf]
  · have h1 : (M * 32 + 24) % 32 = 24 := by omega
    simp [h1]
  · have h1 : (M * 32 + 25) % 32 = 25 := by omega
    simp [h1]
  · have h1 : (M * 32 + 26) % 32 = 26 := by omega
    simp [h1]
  · have h1 : (M * 32 + 27) % 32 = 27 := by omega
    simp [h1]

theorem numOf_put (M n : Int) (hn : 0 ≤ n) (h1 : n < 9223372036854775808) : numOf (M * 32 + (sizeR n).2) (beAcc n (sizeR n).1 (sizeR n).1) = n := by
  obtain ⟨k1, k2, k3, k4⟩ := moreOf_put M n hn
  unfold numOf
  rw [k3]
  rcases sizeR_cases n with ⟨e, h⟩ | e | e | e | e
  · rw [e]
    have h2 : ¬ 24 ≤ n := by omega
    simp [h2]
  all_goals
    have hb := sizeR_bound n hn h1
    rw [e] at hb ⊢
    simp only
    rw [if_pos (by omega), beVal_beAcc n hn]
    apply Int.emod_eq_of_lt hn
    rcases hb with hb | hb
    · simpa using hb
    · exfalso
      have : sizeR n = (0, n) := by simp [sizeR, hb]
      rw [e] at this
      simp at this

/-- Get, where Put's head stands. -/
theorem getR_put (p q : List Int) (M n : Int) (hM : 0 ≤ M) (hn : 0 ≤ n) (h1 : n < 9223372036854775808) :
    getR (p ++ putL M n ++ q) p.length = (M, n, ((p ++ putL M n).length : Int), 0) := by
  obtain ⟨k1, k2, k3, k4⟩ := moreOf_put M n hn
  have hlen : (p ++ putL M n ++ q).length = p.length + (1 + (sizeR n).1) + q.length := by simp [putL_length]; omega
  have hk : p.length < (p ++ putL M n ++ q).length := by rw [hlen]; omega
  have hget : (p ++ putL M n ++ q)[p.length] = M * 32 + (sizeR n).2 := by
    simp [putL]
  have hdr : ((p ++ putL M n ++ q).drop (p.length + 1)).take (sizeR n).1 = beAcc n (sizeR n).1 (sizeR n).1 := by
    have : (p ++ putL M n ++ q) = (p ++ [M * 32 + (sizeR n).2]) ++ (beAcc n (sizeR n).1 (sizeR n).1 ++ q) := by simp [putL]
    rw [this]
    have e : p.length + 1 = (p ++ [M * 32 + (sizeR n).2]).length := by simp
    rw [e, List.drop_left]
    have e2 : (sizeR n).1 = (beAcc n (sizeR n).1 (sizeR n).1).length := by simp
    conv => lhs; rw [e2]
    rw [beAcc_length]
    exact List.take_left' (by simp)
  have h0 : ¬ ((p.length : Int) < 0 ∨ (((p ++ putL M n ++ q).length : Nat) : Int) < p.length) := by omega
  unfold getR
  rw [if_neg h0]
  have ht : (p.length : Int).toNat = p.length := by omega
  simp only [ht]
  rw [dif_pos hk]
  simp only [hget, k1, k2, k3, hdr, numOf_put M n hn h1]
  rw [if_neg (by omega), if_neg (by rw [hlen]; omega), if_neg (by omega)]
  simp [putL_length]
  omega

/-- Get, where a head is cut off. -/
theorem getR_cut (p : List Int) (M n : Int) (hM : 0 ≤ M) (hn : 0 ≤ n) (h1 : n < 9223372036854775808) (j : Nat) (h2 : p.length ≤ j) (h3 : j < (p ++ putL M n).length) :
    getR ((p ++ putL M n).take j) p.length = (0, 0, 0, 3) := by
  obtain ⟨k1, k2, k3, k4⟩ := moreOf_put M n hn
  have hlen : ((p ++ putL M n).take j).length = j := by simp; simp at h3; omega
  rw [List.length_append, putL_length] at h3
  have h0 : ¬ ((p.length : Int) < 0 ∨ ((((p ++ putL M n).take j).length : Nat) : Int) < p.length) := by rw [hlen]; omega
  have ht : (p.length : Int).toNat = p.length := by omega
  unfold getR
  rw [if_neg h0]
  simp only [ht]
  by_cases hk : p.length < ((p ++ putL M n).take j).length
  · have hget : ((p ++ putL M n).take j)[p.length] = M * 32 + (sizeR n).2 := by simp [putL]
    rw [dif_pos hk]
    simp only [hget, k1, k3]
    rw [if_neg (by omega), if_pos (by rw [hlen]; omega)]
  · rw [dif_neg hk]

theorem beAcc_cons (n : Int) (m : Nat) : beAcc n (m + 1) (m + 1) = byteAt n m :: beAcc n m m := by
  unfold beAcc
  rw [List.range_succ_eq_map, List.map_cons, List.map_map]
  congr 1
  apply List.map_congr_left
  intro j hj
  simp only [Function.comp]
  have hj := List.mem_range.1 hj
  congr 1
  omega

theorem byteAt_mod (n : Int) (m i : Nat) (h : i < m) : byteAt (n % 256 ^ m) i = byteAt n i := by
  unfold byteAt
  have e : (256 : Int) ^ m = 2 ^ (8 * i) * (256 * 256 ^ (m - i - 1)) := by
    have e1 : (256 : Int) = 2 ^ 8 := by decide
    conv => lhs; rw [e1, ← Int.pow_mul]
    conv => rhs; rw [e1, ← Int.pow_mul, ← Int.pow_add, ← Int.pow_add]
    congr 1
    omega
  have hp : (0 : Int) < 2 ^ (8 * i) := Int.pow_pos (by omega)
  generalize (2 : Int) ^ (8 * i) = P at e hp ⊢
  generalize (256 : Int) ^ (m - i - 1) = R at e
  rw [e]
  have : n % (P * (256 * R)) / P = n / P % (256 * R) := by
    rw [Int.emod_def, Int.emod_def, Int.mul_assoc P, Int.sub_ediv_of_dvd _ (Int.dvd_mul_right _ _), Int.mul_ediv_cancel_left _ (by omega), Int.ediv_ediv_of_nonneg (by omega)]
  rw [this, Int.emod_emod_of_dvd _ (Int.dvd_mul_right _ _)]

theorem beAcc_mod (n : Int) (m : Nat) : beAcc (n % 256 ^ m) m m = beAcc n m m := by
  unfold beAcc
  apply List.map_congr_left
  intro j hj
  have hj := List.mem_range.1 hj
  exact byteAt_mod n m _ (by omega)

/-- Numbers of one length, in bytes, stand in their own order. -/
theorem beAcc_lt : ∀ (m : Nat) (a b : Int), 0 ≤ a → a < 256 ^ m → 0 ≤ b → b < 256 ^ m → bytesLt (beAcc a m m) (beAcc b m m) = decide (a < b)
  | 0, a, b, h0, h1, h2, h3 => by
    have : a = b := by simp at h1 h3; omega
    subst this
    simp [beAcc, bytesLt]
  | m + 1, a, b, h0, h1, h2, h3 => by
    have hp : (0 : Int) < 256 ^ m := Int.pow_pos (by omega)
    have e2 : (2 : Int) ^ (8 * m) = 256 ^ m := by
      have e1 : (256 : Int) = 2 ^ 8 := by decide
      rw [e1, ← Int.pow_mul]
    have ih := beAcc_lt m (a % 256 ^ m) (b % 256 ^ m) (Int.emod_nonneg _ (by omega)) (Int.emod_lt_of_pos _ hp) (Int.emod_nonneg _ (by omega)) (Int.emod_lt_of_pos _ hp)
    rw [beAcc_mod, beAcc_mod] at ih
    rw [beAcc_cons, beAcc_cons, bytesLt, ih]
    rw [Int.pow_succ] at h1 h3
    have ba : byteAt a m = a / 256 ^ m := by
      unfold byteAt
      rw [e2]
      exact Int.emod_eq_of_lt (Int.ediv_nonneg h0 (by omega)) (Int.ediv_lt_of_lt_mul hp (by rw [Int.mul_comm]; exact h1))
    have bb : byteAt b m = b / 256 ^ m := by
      unfold byteAt
      rw [e2]
      exact Int.emod_eq_of_lt (Int.ediv_nonneg h2 (by omega)) (Int.ediv_lt_of_lt_mul hp (by rw [Int.mul_comm]; exact h3))
    rw [ba, bb]
    have da := Int.emod_add_mul_ediv a (256 ^ m)
    have db := Int.emod_add_mul_ediv b (256 ^ m)
    have ra := Int.emod_lt_of_pos a hp
    have rb := Int.emod_lt_of_pos b hp
    have ra0 := Int.emod_nonneg a (show (256 : Int) ^ m ≠ 0 by omega)
    have rb0 := Int.emod_nonneg b (show (256 : Int) ^ m ≠ 0 by omega)
    generalize a / 256 ^ m = qa at *
    generalize b / 256 ^ m = qb at *
    generalize a % 256 ^ m = ma at *
    generalize b % 256 ^ m = mb at *
    generalize (256 : Int) ^ m = p at *
    rcases Int.lt_trichotomy qa qb with h | h | h
    · have : p * (qa + 1) ≤ p * qb := Int.mul_le_mul_of_nonneg_left (by omega) (by omega)
      rw [Int.mul_add, Int.mul_one] at this
      have hab : a < b := by omega
      simp [h, hab]
    · subst h
      have : (a < b) ↔ (ma < mb) := by omega
      simp [this]
    · have : p * (qb + 1) ≤ p * qa := Int.mul_le_mul_of_nonneg_left (by omega) (by omega)
      rw [Int.mul_add, Int.mul_one] at this
      have hab : ¬ a < b := by omega
      have h1 : ¬ qa < qb := by omega
      have h2 : ¬ qa = qb := by omega
      simp [h1, h2, hab]

end Go.Proofs.Ytaefmhdpfmpijaa.Abs
