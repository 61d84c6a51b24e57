/- Texts WJ0 to X5, merged. -/
import Derived.Test.YtelnlfhdaelfdaaDoorRows
import Derived.Test.YtelnlfhdaelfdaaDoorProg
import Derived.Lib.LaidU8T
import Derived.PinnedBridge
import Derived.Test.YtelnlfhdaelfdaaDoorCards
import Derived.Test.YtelnlfhdaelfdaaDoorTie
import Derived.WalkKit
import Derived.ProofKit
import Derived.OpenShut
import Derived.ShutString
import Derived.ChangeOld
import Derived.Below
import Derived.SizedLaws
import Derived.Carry
import Derived.ChangeSlices
import Derived.LaidMore
import Derived.Stop.Joined
import Derived.SevenTiedAt
import Derived.Lay
import Derived.Test.YtelnlfhdaelfdaaDoorK5
section
set_option linter.unusedVariables false
set_option linter.unusedSimpArgs false
namespace Go.Proofs.YtelnlfhdaelfdaaDoor.Abs
open Go
theorem lt_irr : ∀ a : List Int, bytesLt a a = false
  | [] => rfl
  | x :: a => by simp [bytesLt, lt_irr a]
theorem lt_trans' : ∀ {a b c : List Int}, bytesLt a b = true → bytesLt b c = true → bytesLt a c = true
  | [], [], _, h, _ => by simp [bytesLt] at h
  | [], y :: b, [], _, h => by simp [bytesLt] at h
  | [], y :: b, z :: c, _, _ => by simp [bytesLt]
  | x :: a, [], _, h, _ => by simp [bytesLt] at h
  | x :: a, y :: b, [], _, h => by simp [bytesLt] at h
  | x :: a, y :: b, z :: c, h, k => by
    simp only [bytesLt, Bool.or_eq_true, Bool.and_eq_true, decide_eq_true_eq, beq_iff_eq] at h k ⊢
    rcases h with h | ⟨h1, h2⟩ <;> rcases k with k | ⟨k1, k2⟩
    · left; omega
    · left; omega
    · left; omega
    · right; exact ⟨by omega, lt_trans' h2 k2⟩
theorem headsR_at {l : List Hd} (h : headsR l = true) {i : Nat} (hi : i < l.length) : hdAt l i = true := by
  unfold headsR at h
  rw [Bool.and_eq_true, List.all_eq_true] at h
  exact h.2 i (by simpa using hi)
theorem hd_rises {l : List Hd} (h : headsR l = true) : ∀ i, i < l.length → 0 < i → bytesLt (l.getD 0 hd0).au (l.getD i hd0).au = true
  | 0, _, h0 => by omega
  | i + 1, hi, _ => by
    have a := headsR_at h hi
    unfold hdAt at a
    rw [Bool.and_eq_true, Bool.or_eq_true] at a
    rcases a.1 with b | b
    · simp at b
    · rw [Nat.add_sub_cancel] at b
      rcases Nat.eq_zero_or_pos i with k | k
      · subst k; exact b
      · exact lt_trans' (hd_rises h i (by omega) k) b
theorem heads_twice {l : List Hd} (h : l ≠ []) : headsR (l ++ l) = false := by
  cases hr : headsR (l ++ l)
  · rfl
  · exfalso
    have hp := List.length_pos_iff.2 h
    have := hd_rises hr l.length (by simp; omega) hp
    have e1 : (l ++ l).getD 0 hd0 = l.getD 0 hd0 := by
      simp only [List.getD_eq_getElem?_getD]; rw [List.getElem?_append_left hp]
    have e2 : (l ++ l).getD l.length hd0 = l.getD 0 hd0 := by
      simp only [List.getD_eq_getElem?_getD]; rw [List.getElem?_append_right (Nat.le_refl _), Nat.sub_self]
    rw [e1, e2, lt_irr] at this
    cases this
theorem heads_last {l : List Hd} {x : Hd} (h : hdR x = false) : headsR (l ++ [x]) = false := by
  cases hr : headsR (l ++ [x])
  · rfl
  · have := (headsR_facts hr).2 x (by simp)
    rw [h] at this; cases this
/-- What a message is bent to. -/
def bentM (m : Msg) (c : Nat) : Msg :=
  if c = 0 then { m with to := m.frm } else if c = 1 then { m with kind := 3 } else if c = 2 then { m with frm := 8 }
  else if c = 3 then (if m.kind = 2 then { m with es := m.es ++ List.replicate (5 - m.es.length) (eK 107) } else { m with hs := m.hs ++ m.hs, es := if m.hs.length = 0 then [eK 107] else m.es })
  else if c = 4 then { m with hs := m.hs ++ [⟨z32, 1, z32, true⟩] } else { m with hs := m.hs ++ [⟨z32, 201, z32, false⟩] }
theorem bentM_R {m : Msg} (hr : msgR m = true) (c : Nat) : msgR (bentM m c) = false := by
  refine msgR_not fun g => ?_
  have F := msgR_facts hr
  have G := msgR_facts g
  unfold bentM at G
  split at G
  · exact G.2.2.1 rfl
  split at G
  · rcases G.2.2.2 with h | h
    · exact absurd h.1 (by simp)
    · exact absurd h.1 (by simp)
  split at G
  · have := G.1.2
    dsimp only at this
    omega
  split at G
  · split at G
    · rename_i k
      rcases G.2.2.2 with h | h
      · have := h.1
        dsimp only at this
        omega
      · have := h.2.2.1
        simp only [List.length_append, List.length_replicate] at this
        omega
    · rename_i k
      rcases G.2.2.2 with h | h
      · by_cases e : m.hs.length = 0
        · have := h.2.2.2
          rw [if_pos e] at this
          cases this
        · have := h.2.1
          rw [heads_twice (fun x => e (by rw [x]; rfl))] at this
          cases this
      · exact k h.1
  split at G
  · rcases G.2.2.2 with h | h
    · have := h.2.1
      rw [heads_last (by decide)] at this
      cases this
    · have := h.2.1
      simp at this
  · rcases G.2.2.2 with h | h
    · have := h.2.1
      rw [heads_last (by decide)] at this
      cases this
    · have := h.2.1
      simp at this
theorem z32_byt : Byt z32 := fun x hx => by simp only [z32, List.mem_replicate] at hx; omega
theorem bentM_S {m : Msg} (hm : MsgS m) (l1 : m.hs.length ≤ 1000000) (l2 : m.ps.length ≤ 1000000) (l3 : m.es.length ≤ 1000000) (c : Nat) : MsgS (bentM m c) := by
  unfold bentM
  split
  · exact { hm with to := hm.frm }
  split
  · exact { hm with kind := ⟨by dsimp only; omega, by dsimp only; omega⟩ }
  split
  · exact { hm with frm := ⟨by dsimp only; omega, by dsimp only; omega⟩ }
  split
  · split
    · exact { hm with
        es := fun x hx => by
          rcases List.mem_append.1 hx with h | h
          · exact hm.es x h
          · rw [List.eq_of_mem_replicate h]; exact eK_S (by omega)
        el := by simp only [List.length_append, List.length_replicate]; omega }
    · exact { hm with
        hs := fun x hx => by
          rcases List.mem_append.1 hx with h | h
          · exact hm.hs x h
          · exact hm.hs x h
        hl := by simp only [List.length_append]; omega
        es := fun x hx => by
          dsimp only at hx
          split at hx
          · rw [List.mem_singleton] at hx; rw [hx]; exact eK_S (by omega)
          · exact hm.es x hx
        el := by
          dsimp only
          split
          · simp
          · omega }
  split
  · exact { hm with
      hs := fun x hx => by
        rcases List.mem_append.1 hx with h | h
        · exact hm.hs x h
        · rw [List.mem_singleton] at h; rw [h]; exact ⟨⟨z32_byt, rfl⟩, by dsimp only; omega, ⟨z32_byt, rfl⟩⟩
      hl := by simp only [List.length_append, List.length_singleton]; omega }
  · exact { hm with
      hs := fun x hx => by
        rcases List.mem_append.1 hx with h | h
        · exact hm.hs x h
        · rw [List.mem_singleton] at h; rw [h]; exact ⟨⟨z32_byt, rfl⟩, by dsimp only; omega, ⟨z32_byt, rfl⟩⟩
      hl := by simp only [List.length_append, List.length_singleton]; omega }
end Go.Proofs.YtelnlfhdaelfdaaDoor.Abs
end
section
--KR
set_option linter.unusedVariables false
set_option linter.unusedSimpArgs false
namespace Go.Proofs.YtelnlfhdaelfdaaDoor.Abs
open Go
attribute [local irreducible] ifB fitP Does Weaker
set_option maxRecDepth 20000 in
set_option maxHeartbeats 4000000 in
theorem wireBent_ok (m : Msg) (what : Int) (om : MsgO m) (hw : -9223372036854775808 ≤ what ∧ what < 9223372036854775808) : ACall Tryd.prog 9 [.agg (msgC m), .int .i64 what] (.bool true) [] := by
  have v1 := heavy13_ok m
  refine ACall.of_does TTok Tryd.func9 rfl Tryd.call9 rfl (wpc_sound (M := ML4) (PL := PL0) (CU := cutAt [100001, 100021]) TTok mixed _ _ _ ?_)
  conv => whnf
  repeat ((refine ⟨rfl, ?_⟩); conv => whnf)
  refine Does.freeze 0 rfl (Does.tidy [(1, .int .i64 what), (2, .rop (msgC m))] [] 1 100 rfl rfl rfl (by kernel_rfl) (by kernel_rfl) ?_)
  refine wpc_sound (M := ML4) (PL := PL0) (CU := noCut) TTok mixed _ _ _ ?_
  conv => whnf
  repeat ((first | refine ⟨rfl, ?_⟩ | refine ⟨_, rfl, ?_⟩ | refine ⟨(show pureL _ = true from by first | exact prfC_pure _ | exact hdC_pure _ | exact msgC_pure _ | exact letC_pure _), ?_⟩); conv => whnf)
  cases hv1 : heavyM m <;> rw [hv1] at v1
  case true =>
    refine ⟨_, _, v1, by first | rfl | simp [noRoIf, noRoL, noRoV, noRoL_bys], ?_⟩
    conv => whnf
    repeat ((first | refine ifB_t ?_ | refine ⟨rfl, ?_⟩); conv => whnf)
    rfl
  refine ⟨_, _, v1, by first | rfl | simp [noRoIf, noRoL, noRoV, noRoL_bys], ?_⟩
  conv => whnf
  repeat ((first | refine ifB_f ?_ | refine ⟨rfl, ?_⟩ | refine ⟨_, rfl, ?_⟩ | refine ⟨(show pureL _ = true from by first | exact prfC_pure _ | exact hdC_pure _ | exact msgC_pure _ | exact letC_pure _), ?_⟩); conv => whnf)
  have hm := msgS_of om hv1
  have hl := heavyM_no hv1
  have tw := ktwino_ok m hm (by omega) (by omega) (by omega)
  have rm := refmsg_ok m hm
  have hc := check_msg_ok m hm
  cases hr : msgR m <;> rw [hr] at rm hc
  case false =>
    refine ⟨_, _, rm, by first | rfl | simp [noRoIf, noRoL, noRoV, noRoL_bys], ?_⟩
    conv => whnf
    repeat ((first | refine ifB_t ?_ | refine ifB_f ?_ | refine ⟨rfl, ?_⟩); conv => whnf)
    rfl
  refine ⟨_, _, rm, by first | rfl | simp [noRoIf, noRoL, noRoV, noRoL_bys], ?_⟩
  conv => whnf
  repeat ((first | refine ifB_f ?_ | refine ⟨rfl, ?_⟩ | refine ⟨_, rfl, ?_⟩ | refine ⟨(show pureL _ = true from by first | exact prfC_pure _ | exact hdC_pure _ | exact msgC_pure _ | exact letC_pure _), ?_⟩); conv => whnf)
  refine ⟨_, _, tw, by first | rfl | simp [noRoIf, noRoL, noRoV, noRoL_bys], ?_⟩
  conv => whnf
  repeat ((first | refine ⟨(⟨by kernel_rfl, by kernel_rfl, Nat.le_of_ble_eq_true (by kernel_rfl)⟩ : AV.ones _ = true ∧ _ ∧ _), ?_⟩ | refine ⟨rfl, ?_⟩); conv => whnf)
  obtain ⟨c, hcc, hc6⟩ := mod_len what (n := 6) (by omega)
  have ww := wrap_u64 what
  have hbR := bentM_R hr c
  have hbS := bentM_S hm (by omega) (by omega) (by omega) c
  have F := msgR_facts hr
  refine fit_wrap ?_
  rw [ww]
  conv => whnf
  repeat ((refine And.intro (by first | omega | rfl | (dsimp only; omega)) ?_); conv => whnf)
  rw [show (what % 18446744073709551616).tmod 6 = (c : Int) from hcc]
  clear hcc ww tw rm v1
  have hz : msgB (bentM m c) = ([], 1) := by unfold msgB; rw [hbR]; rfl
  have hb := (msg_bytes_ok _ hbS).roRes2 (.inl ⟨_, _, rfl⟩)
  rw [hz] at hb
  have hk := check_msg_ok _ hbS
  rw [hbR] at hk
  clear hz hbR hbS
  have hcs : c = 0 ∨ c = 1 ∨ c = 2 ∨ c = 3 ∨ c = 4 ∨ c = 5 := by omega
  rcases hcs with rfl | rfl | rfl | rfl | rfl | rfl
  · rw [show bentM m 0 = { m with to := m.frm } from rfl] at hb hk
    conv => whnf
    repeat ((first | refine ifB_t ?_ | refine ⟨(⟨by kernel_rfl, by kernel_rfl, Nat.le_of_ble_eq_true (by kernel_rfl)⟩ : AV.ones _ = true ∧ _ ∧ _), ?_⟩ | refine ⟨_, rfl, ?_⟩); conv => whnf)
    refine Does.weakerTo' (env := [(2, .rop (msgC m)), (5, .ptr 3 0)]) (heap := [(1, rowsC hdC m.hs), (2, rowsC entC m.es), (3, msgV m.kind m.frm m.frm (.sl 1 0 m.hs.length 66 false) (.ro m.ps.length (rowsC prfC m.ps)) (.sl 2 0 m.es.length 133 false))]) (nx := 4) (n := 100) [(1, 1), (2, 2), (3, 3)] rfl rfl ⟨⟨rfl, msgC_pure m⟩, ⟨rfl, rfl⟩, trivial⟩ ⟨rowsC_les hdC_les rfl, rowsC_les entC_les rfl, ⟨⟨rfl, rfl⟩, ⟨rfl, rfl⟩, ⟨rfl, rfl⟩, ⟨rfl, rfl, rfl, rfl, fun h => h⟩, ⟨rfl, rfl, prfs_pure _⟩, ⟨rfl, rfl, rfl, rfl, fun h => h⟩, trivial⟩, trivial⟩ ?_
    refine Does.freeze 2 rfl (Does.freeze 1 (zs := rowsC hdC m.hs) (by show some (frzL 2 _ (rowsC hdC m.hs)) = _; rw [rowsC_frz (fun x => hdC_frz _ _ x)]) (Does.tidy [(2, .rop (msgC m)), (5, .ptr 3 0)] [(3, msgV m.kind m.frm m.frm (.ro m.hs.length (List.take (m.hs.length * 66) (List.drop 0 (rowsC hdC m.hs)))) (.ro m.ps.length (rowsC prfC m.ps)) (.ro m.es.length (List.take (m.es.length * 133) (List.drop 0 (rowsC entC m.es)))))] 4 100 rfl rfl rfl (by kernel_rfl) (by kernel_rfl) ?_))
    rw [rowsC_whole hdC_length, rowsC_whole entC_length]
    refine wpc_sound (M := ML4) (PL := PL0) (CU := noCut) TTok mixed _ _ _ ?_
    conv => whnf
    repeat ((first | refine ⟨rfl, ?_⟩ | refine ⟨_, rfl, ?_⟩ | refine ⟨(show pureL _ = true from by first | exact prfC_pure _ | exact hdC_pure _ | exact msgC_pure _ | exact letC_pure _), ?_⟩); conv => whnf)
    refine ⟨_, _, hb, by first | rfl | simp [noRoIf, noRoL, noRoV, noRoL_bys], ?_⟩
    conv => whnf
    repeat ((first | refine ⟨rfl, ?_⟩ | refine ⟨_, rfl, ?_⟩ | refine ⟨(show pureL _ = true from by first | exact prfC_pure _ | exact hdC_pure _ | exact msgC_pure _ | exact letC_pure _), ?_⟩); conv => whnf)
    refine ⟨_, _, hc, by first | rfl | simp [noRoIf, noRoL, noRoV, noRoL_bys], ?_⟩
    conv => whnf
    repeat ((first | refine ifB_t ?_ | refine ⟨rfl, ?_⟩ | refine ⟨_, rfl, ?_⟩ | refine ⟨(show pureL _ = true from by first | exact prfC_pure _ | exact hdC_pure _ | exact msgC_pure _ | exact letC_pure _), ?_⟩); conv => whnf)
    refine ⟨_, _, hk, by first | rfl | simp [noRoIf, noRoL, noRoV, noRoL_bys], ?_⟩
    conv => whnf
    repeat ((first | refine ifB_t ?_ | refine ⟨rfl, ?_⟩); conv => whnf)
    refine ⟨_, _, wakes13_ok, by first | rfl | simp [noRoIf, noRoL, noRoV, noRoL_bys], ?_⟩
    conv => whnf
    repeat ((first | refine ifB_t ?_ | refine ⟨rfl, ?_⟩); conv => whnf)
    rfl
  · rw [show bentM m 1 = { m with kind := 3 } from rfl] at hb hk
    conv => whnf
    repeat ((first | refine ifB_t ?_ | refine ifB_f ?_ | refine ⟨(⟨by kernel_rfl, by kernel_rfl, Nat.le_of_ble_eq_true (by kernel_rfl)⟩ : AV.ones _ = true ∧ _ ∧ _), ?_⟩); conv => whnf)
    refine Does.weakerTo' (env := [(2, .rop (msgC m)), (5, .ptr 3 0)]) (heap := [(1, rowsC hdC m.hs), (2, rowsC entC m.es), (3, msgV 3 m.frm m.to (.sl 1 0 m.hs.length 66 false) (.ro m.ps.length (rowsC prfC m.ps)) (.sl 2 0 m.es.length 133 false))]) (nx := 4) (n := 100) [(1, 1), (2, 2), (3, 3)] rfl rfl ⟨⟨rfl, msgC_pure m⟩, ⟨rfl, rfl⟩, trivial⟩ ⟨rowsC_les hdC_les rfl, rowsC_les entC_les rfl, ⟨⟨rfl, rfl⟩, ⟨rfl, rfl⟩, ⟨rfl, rfl⟩, ⟨rfl, rfl, rfl, rfl, fun h => h⟩, ⟨rfl, rfl, prfs_pure _⟩, ⟨rfl, rfl, rfl, rfl, fun h => h⟩, trivial⟩, trivial⟩ ?_
    refine Does.freeze 2 rfl (Does.freeze 1 (zs := rowsC hdC m.hs) (by show some (frzL 2 _ (rowsC hdC m.hs)) = _; rw [rowsC_frz (fun x => hdC_frz _ _ x)]) (Does.tidy [(2, .rop (msgC m)), (5, .ptr 3 0)] [(3, msgV 3 m.frm m.to (.ro m.hs.length (List.take (m.hs.length * 66) (List.drop 0 (rowsC hdC m.hs)))) (.ro m.ps.length (rowsC prfC m.ps)) (.ro m.es.length (List.take (m.es.length * 133) (List.drop 0 (rowsC entC m.es)))))] 4 100 rfl rfl rfl (by kernel_rfl) (by kernel_rfl) ?_))
    rw [rowsC_whole hdC_length, rowsC_whole entC_length]
    refine wpc_sound (M := ML4) (PL := PL0) (CU := noCut) TTok mixed _ _ _ ?_
    conv => whnf
    repeat ((first | refine ⟨rfl, ?_⟩ | refine ⟨_, rfl, ?_⟩ | refine ⟨(show pureL _ = true from by first | exact prfC_pure _ | exact hdC_pure _ | exact msgC_pure _ | exact letC_pure _), ?_⟩); conv => whnf)
    refine ⟨_, _, hb, by first | rfl | simp [noRoIf, noRoL, noRoV, noRoL_bys], ?_⟩
    conv => whnf
    repeat ((first | refine ⟨rfl, ?_⟩ | refine ⟨_, rfl, ?_⟩ | refine ⟨(show pureL _ = true from by first | exact prfC_pure _ | exact hdC_pure _ | exact msgC_pure _ | exact letC_pure _), ?_⟩); conv => whnf)
    refine ⟨_, _, hc, by first | rfl | simp [noRoIf, noRoL, noRoV, noRoL_bys], ?_⟩
    conv => whnf
    repeat ((first | refine ifB_t ?_ | refine ⟨rfl, ?_⟩ | refine ⟨_, rfl, ?_⟩ | refine ⟨(show pureL _ = true from by first | exact prfC_pure _ | exact hdC_pure _ | exact msgC_pure _ | exact letC_pure _), ?_⟩); conv => whnf)
    refine ⟨_, _, hk, by first | rfl | simp [noRoIf, noRoL, noRoV, noRoL_bys], ?_⟩
    conv => whnf
    repeat ((first | refine ifB_t ?_ | refine ⟨rfl, ?_⟩); conv => whnf)
    refine ⟨_, _, wakes13_ok, by first | rfl | simp [noRoIf, noRoL, noRoV, noRoL_bys], ?_⟩
    conv => whnf
    repeat ((first | refine ifB_t ?_ | refine ⟨rfl, ?_⟩); conv => whnf)
    rfl
  · rw [show bentM m 2 = { m with frm := 8 } from rfl] at hb hk
    conv => whnf
    repeat ((first | refine ifB_t ?_ | refine ifB_f ?_ | refine ⟨(⟨by kernel_rfl, by kernel_rfl, Nat.le_of_ble_eq_true (by kernel_rfl)⟩ : AV.ones _ = true ∧ _ ∧ _), ?_⟩); conv => whnf)
    refine Does.weakerTo' (env := [(2, .rop (msgC m)), (5, .ptr 3 0)]) (heap := [(1, rowsC hdC m.hs), (2, rowsC entC m.es), (3, msgV m.kind 8 m.to (.sl 1 0 m.hs.length 66 false) (.ro m.ps.length (rowsC prfC m.ps)) (.sl 2 0 m.es.length 133 false))]) (nx := 4) (n := 100) [(1, 1), (2, 2), (3, 3)] rfl rfl ⟨⟨rfl, msgC_pure m⟩, ⟨rfl, rfl⟩, trivial⟩ ⟨rowsC_les hdC_les rfl, rowsC_les entC_les rfl, ⟨⟨rfl, rfl⟩, ⟨rfl, rfl⟩, ⟨rfl, rfl⟩, ⟨rfl, rfl, rfl, rfl, fun h => h⟩, ⟨rfl, rfl, prfs_pure _⟩, ⟨rfl, rfl, rfl, rfl, fun h => h⟩, trivial⟩, trivial⟩ ?_
    refine Does.freeze 2 rfl (Does.freeze 1 (zs := rowsC hdC m.hs) (by show some (frzL 2 _ (rowsC hdC m.hs)) = _; rw [rowsC_frz (fun x => hdC_frz _ _ x)]) (Does.tidy [(2, .rop (msgC m)), (5, .ptr 3 0)] [(3, msgV m.kind 8 m.to (.ro m.hs.length (List.take (m.hs.length * 66) (List.drop 0 (rowsC hdC m.hs)))) (.ro m.ps.length (rowsC prfC m.ps)) (.ro m.es.length (List.take (m.es.length * 133) (List.drop 0 (rowsC entC m.es)))))] 4 100 rfl rfl rfl (by kernel_rfl) (by kernel_rfl) ?_))
    rw [rowsC_whole hdC_length, rowsC_whole entC_length]
    refine wpc_sound (M := ML4) (PL := PL0) (CU := noCut) TTok mixed _ _ _ ?_
    conv => whnf
    repeat ((first | refine ⟨rfl, ?_⟩ | refine ⟨_, rfl, ?_⟩ | refine ⟨(show pureL _ = true from by first | exact prfC_pure _ | exact hdC_pure _ | exact msgC_pure _ | exact letC_pure _), ?_⟩); conv => whnf)
    refine ⟨_, _, hb, by first | rfl | simp [noRoIf, noRoL, noRoV, noRoL_bys], ?_⟩
    conv => whnf
    repeat ((first | refine ⟨rfl, ?_⟩ | refine ⟨_, rfl, ?_⟩ | refine ⟨(show pureL _ = true from by first | exact prfC_pure _ | exact hdC_pure _ | exact msgC_pure _ | exact letC_pure _), ?_⟩); conv => whnf)
    refine ⟨_, _, hc, by first | rfl | simp [noRoIf, noRoL, noRoV, noRoL_bys], ?_⟩
    conv => whnf
    repeat ((first | refine ifB_t ?_ | refine ⟨rfl, ?_⟩ | refine ⟨_, rfl, ?_⟩ | refine ⟨(show pureL _ = true from by first | exact prfC_pure _ | exact hdC_pure _ | exact msgC_pure _ | exact letC_pure _), ?_⟩); conv => whnf)
    refine ⟨_, _, hk, by first | rfl | simp [noRoIf, noRoL, noRoV, noRoL_bys], ?_⟩
    conv => whnf
    repeat ((first | refine ifB_t ?_ | refine ⟨rfl, ?_⟩); conv => whnf)
    refine ⟨_, _, wakes13_ok, by first | rfl | simp [noRoIf, noRoL, noRoV, noRoL_bys], ?_⟩
    conv => whnf
    repeat ((first | refine ifB_t ?_ | refine ⟨rfl, ?_⟩); conv => whnf)
    rfl
  · by_cases k2 : m.kind = 2
    · rw [show bentM m 3 = { m with es := (m.es ++ List.replicate (5 - m.es.length) (eK 107)) } from by unfold bentM; rw [if_neg (by omega), if_neg (by omega), if_neg (by omega), if_pos rfl, if_pos k2]] at hb hk
      conv => whnf
      repeat ((first | refine ifB_t ?_ | refine ifB_f ?_ | (refine ifB_pos (decide_eq_true (by first | omega | rfl | (dsimp only; omega))) ?_) | refine ⟨_, rfl, ?_⟩); conv => whnf)
      have l5 : m.es.length ≤ 4 := by
        rcases F.2.2.2 with h | h
        · exact absurd (h.1.symm.trans k2) (by decide)
        · omega
      refine Does.loop (fun j : Nat => mkSt [(2, .rop (msgC m)), (5, .ptr 3 0)] [(1, rowsC hdC m.hs), (2, rowsC entC (m.es ++ List.replicate j (eK 107))), (3, msgV m.kind m.frm m.to (.sl 1 0 m.hs.length 66 false) (.ro m.ps.length (rowsC prfC m.ps)) (.sl 2 0 (m.es.length + j) 133 false))] 4 100) (fun j => m.es.length + j ≤ 5) (fun j => 5 - j) ?_ 0 (by omega) ?_
      · intro j hj
        have hL : (rowsC entC (m.es ++ List.replicate j (eK 107))).length = 133 * (m.es.length + j) := by rw [ents_len, List.length_append, List.length_replicate]
        by_cases j4 : m.es.length + j ≤ 4
        · refine wpc_sound (M := ML4) (PL := PL0) (CU := noCut) TTok mixed _ _ _ ?_
          conv => whnf
          repeat ((first | (refine ifB_pos (decide_eq_true (by first | omega | rfl | (dsimp only; omega))) ?_) | refine ⟨(⟨by kernel_rfl, by kernel_rfl, Nat.le_of_ble_eq_true (by kernel_rfl)⟩ : AV.ones _ = true ∧ _ ∧ _), ?_⟩ | (refine Or.inl ⟨⟨rfl, ?_⟩, ?_⟩; (focus (first | rfl | (simp; done) | (rw [toksC_length]; omega)))) | refine ⟨rfl, ?_⟩ | refine ⟨_, rfl, ?_⟩ | refine ⟨⟨rfl, rfl⟩, ?_⟩ | (refine And.intro ?_ ?_; (focus (first | (simp [limB, lenB, offB]; done) | (simp [limB, lenB, offB]; omega))))); conv => whnf)
          refine ⟨j + 1, by omega, by omega, weaker_of [(1, 1), (2, 5), (3, 3)] rfl rfl ⟨⟨rfl, msgC_pure m⟩, ⟨rfl, rfl⟩, trivial⟩ ⟨rowsC_les hdC_les rfl, ?_, ⟨⟨rfl, rfl⟩, ⟨rfl, rfl⟩, ⟨rfl, rfl⟩, ⟨rfl, rfl, rfl, rfl, fun h => h⟩, ⟨rfl, rfl, prfs_pure _⟩, ⟨rfl, rfl, rfl, rfl, fun h => h⟩, trivial⟩, trivial⟩⟩
          show lesP _ (rowsC entC (m.es ++ List.replicate (j + 1) (eK 107))) _
          rw [List.replicate_succ', ← List.append_assoc, rowsC_append]
          exact lesP_app'' (rowsC_les entC_les rfl) (eK_les 107)
        · obtain rfl : j = 5 - m.es.length := by omega
          refine wpc_sound (M := ML4) (PL := PL0) (CU := noCut) TTok mixed _ _ _ ?_
          conv => whnf
          repeat ((first | (refine ifB_neg (decide_eq_false (by first | omega | rfl | (dsimp only; omega))) ?_) | refine ⟨_, rfl, ?_⟩); conv => whnf)
          refine Does.weakerTo' (env := [(2, .rop (msgC m)), (5, .ptr 3 0)]) (heap := [(1, rowsC hdC m.hs), (2, rowsC entC (m.es ++ List.replicate (5 - m.es.length) (eK 107))), (3, msgV m.kind m.frm m.to (.sl 1 0 m.hs.length 66 false) (.ro m.ps.length (rowsC prfC m.ps)) (.sl 2 0 (m.es ++ List.replicate (5 - m.es.length) (eK 107)).length 133 false))]) (nx := 4) (n := 100) [(1, 1), (2, 2), (3, 3)] rfl rfl ⟨⟨rfl, msgC_pure m⟩, ⟨rfl, rfl⟩, trivial⟩ ⟨rowsC_les hdC_les rfl, rowsC_les entC_les rfl, ⟨⟨rfl, rfl⟩, ⟨rfl, rfl⟩, ⟨rfl, rfl⟩, ⟨rfl, rfl, rfl, rfl, fun h => h⟩, ⟨rfl, rfl, prfs_pure _⟩, ⟨rfl, rfl, by rw [List.length_append, List.length_replicate], rfl, fun h => h⟩, trivial⟩, trivial⟩ ?_
          refine Does.freeze 2 rfl (Does.freeze 1 (zs := rowsC hdC m.hs) (by show some (frzL 2 _ (rowsC hdC m.hs)) = _; rw [rowsC_frz (fun x => hdC_frz _ _ x)]) (Does.tidy [(2, .rop (msgC m)), (5, .ptr 3 0)] [(3, msgV m.kind m.frm m.to (.ro m.hs.length (List.take (m.hs.length * 66) (List.drop 0 (rowsC hdC m.hs)))) (.ro m.ps.length (rowsC prfC m.ps)) (.ro (m.es ++ List.replicate (5 - m.es.length) (eK 107)).length (List.take ((m.es ++ List.replicate (5 - m.es.length) (eK 107)).length * 133) (List.drop 0 (rowsC entC (m.es ++ List.replicate (5 - m.es.length) (eK 107)))))))] 4 100 rfl rfl rfl (by kernel_rfl) (by kernel_rfl) ?_))
          rw [rowsC_whole hdC_length, rowsC_whole entC_length]
          refine wpc_sound (M := ML4) (PL := PL0) (CU := noCut) TTok mixed _ _ _ ?_
          conv => whnf
          repeat ((refine ⟨_, rfl, ?_⟩); conv => whnf)
          refine ⟨by simp [pureL, pureV, hds_pure, prfs_pure, ents_pure], ?_⟩
          conv => whnf
          repeat ((refine ⟨rfl, ?_⟩); conv => whnf)
          refine ⟨_, _, hb, by first | rfl | simp [noRoIf, noRoL, noRoV, noRoL_bys], ?_⟩
          conv => whnf
          repeat ((first | refine ⟨rfl, ?_⟩ | refine ⟨_, rfl, ?_⟩ | refine ⟨(show pureL _ = true from by first | exact prfC_pure _ | exact hdC_pure _ | exact msgC_pure _ | exact letC_pure _), ?_⟩); conv => whnf)
          refine ⟨_, _, hc, by first | rfl | simp [noRoIf, noRoL, noRoV, noRoL_bys], ?_⟩
          conv => whnf
          repeat ((first | refine ifB_t ?_ | refine ⟨_, rfl, ?_⟩); conv => whnf)
          refine ⟨by simp [pureL, pureV, hds_pure, prfs_pure, ents_pure], ?_⟩
          conv => whnf
          repeat ((refine ⟨rfl, ?_⟩); conv => whnf)
          refine ⟨_, _, hk, by first | rfl | simp [noRoIf, noRoL, noRoV, noRoL_bys], ?_⟩
          conv => whnf
          repeat ((first | refine ifB_t ?_ | refine ⟨rfl, ?_⟩); conv => whnf)
          refine ⟨_, _, wakes13_ok, by first | rfl | simp [noRoIf, noRoL, noRoV, noRoL_bys], ?_⟩
          conv => whnf
          repeat ((first | refine ifB_t ?_ | refine ⟨rfl, ?_⟩); conv => whnf)
          rfl
      · exact weaker_of [(1, 1), (2, 2), (3, 3)] rfl rfl ⟨⟨rfl, msgC_pure m⟩, ⟨rfl, rfl⟩, trivial⟩ ⟨rowsC_les hdC_les rfl, rowsC_les entC_les (by rw [List.replicate_zero, List.append_nil]), ⟨⟨rfl, rfl⟩, ⟨rfl, rfl⟩, ⟨rfl, rfl⟩, ⟨rfl, rfl, rfl, rfl, fun h => h⟩, ⟨rfl, rfl, prfs_pure _⟩, ⟨rfl, rfl, rfl, rfl, fun h => h⟩, trivial⟩, trivial⟩
    · skip
      conv => whnf
      repeat ((first | refine ifB_t ?_ | refine ifB_f ?_ | (refine ifB_neg (decide_eq_false (by first | omega | rfl | (dsimp only; omega))) ?_) | refine ⟨_, rfl, ?_⟩); conv => whnf)
      refine (Or.inl ⟨⟨rfl, rfl, by rw [hds_len, Nat.mul_comm]⟩, ?_⟩)
      conv => whnf
      refine ⟨rowsC_ones hdC_one _, ?_⟩
      conv => whnf
      refine ⟨⟨rfl, rfl, by rw [hds_len, Nat.mul_comm], by simp [limB]; omega⟩, ?_⟩
      conv => whnf
      repeat ((first | refine ⟨(⟨by kernel_rfl, by kernel_rfl, Nat.le_of_ble_eq_true (by kernel_rfl)⟩ : AV.ones _ = true ∧ _ ∧ _), ?_⟩ | refine ⟨_, rfl, ?_⟩); conv => whnf)
      by_cases e0 : m.hs.length = 0
      · rw [show bentM m 3 = { m with hs := m.hs ++ m.hs, es := [eK 107] } from by unfold bentM; rw [if_neg (by omega), if_neg (by omega), if_neg (by omega), if_pos rfl, if_neg k2, if_pos e0]] at hb hk
        conv => whnf
        repeat ((first | (refine ifB_pos (decide_eq_true (by first | omega | rfl | (dsimp only; omega))) ?_) | refine ⟨(⟨by kernel_rfl, by kernel_rfl, Nat.le_of_ble_eq_true (by kernel_rfl)⟩ : AV.ones _ = true ∧ _ ∧ _), ?_⟩ | refine ⟨⟨rfl, rfl⟩, ?_⟩); conv => whnf)
        refine Does.weakerTo' (env := [(2, .rop (msgC m)), (5, .ptr 3 0)]) (heap := [(1, rowsC hdC (m.hs ++ m.hs)), (2, rowsC entC ([eK 107] : List Ent)), (3, msgV m.kind m.frm m.to (.sl 1 0 (m.hs ++ m.hs).length 66 false) (.ro m.ps.length (rowsC prfC m.ps)) (.sl 2 0 ([eK 107] : List Ent).length 133 false))]) (nx := 4) (n := 100) [(1, 4), (2, 5), (3, 3)] rfl rfl ⟨⟨rfl, msgC_pure m⟩, ⟨rfl, rfl⟩, trivial⟩ ⟨rowsC_les hdC_les (by rw [rowsC_append]), (by show lesP _ (entC (eK 107) ++ []) _; rw [List.append_nil]; exact eK_les 107), ⟨⟨rfl, rfl⟩, ⟨rfl, rfl⟩, ⟨rfl, rfl⟩, ⟨rfl, rfl, by rw [List.length_append], rfl, fun h => h⟩, ⟨rfl, rfl, prfs_pure _⟩, ⟨rfl, rfl, rfl, rfl, fun h => by cases h⟩, trivial⟩, trivial⟩ ?_
        refine Does.freeze 2 rfl (Does.freeze 1 (zs := rowsC hdC (m.hs ++ m.hs)) (by show some (frzL 2 _ (rowsC hdC (m.hs ++ m.hs))) = _; rw [rowsC_frz (fun x => hdC_frz _ _ x)]) (Does.tidy [(2, .rop (msgC m)), (5, .ptr 3 0)] [(3, msgV m.kind m.frm m.to (.ro (m.hs ++ m.hs).length (List.take ((m.hs ++ m.hs).length * 66) (List.drop 0 (rowsC hdC (m.hs ++ m.hs))))) (.ro m.ps.length (rowsC prfC m.ps)) (.ro ([eK 107] : List Ent).length (List.take (([eK 107] : List Ent).length * 133) (List.drop 0 (rowsC entC ([eK 107] : List Ent))))))] 4 100 rfl rfl rfl (by kernel_rfl) (by kernel_rfl) ?_))
        rw [rowsC_whole hdC_length, rowsC_whole entC_length]
        refine wpc_sound (M := ML4) (PL := PL0) (CU := noCut) TTok mixed _ _ _ ?_
        conv => whnf
        repeat ((refine ⟨_, rfl, ?_⟩); conv => whnf)
        refine ⟨by simp [pureL, pureV, hds_pure, prfs_pure, ents_pure], ?_⟩
        conv => whnf
        repeat ((refine ⟨rfl, ?_⟩); conv => whnf)
        refine ⟨_, _, hb, by first | rfl | simp [noRoIf, noRoL, noRoV, noRoL_bys], ?_⟩
        conv => whnf
        repeat ((first | refine ⟨rfl, ?_⟩ | refine ⟨_, rfl, ?_⟩ | refine ⟨(show pureL _ = true from by first | exact prfC_pure _ | exact hdC_pure _ | exact msgC_pure _ | exact letC_pure _), ?_⟩); conv => whnf)
        refine ⟨_, _, hc, by first | rfl | simp [noRoIf, noRoL, noRoV, noRoL_bys], ?_⟩
        conv => whnf
        repeat ((first | refine ifB_t ?_ | refine ⟨_, rfl, ?_⟩); conv => whnf)
        refine ⟨by simp [pureL, pureV, hds_pure, prfs_pure, ents_pure], ?_⟩
        conv => whnf
        repeat ((refine ⟨rfl, ?_⟩); conv => whnf)
        refine ⟨_, _, hk, by first | rfl | simp [noRoIf, noRoL, noRoV, noRoL_bys], ?_⟩
        conv => whnf
        repeat ((first | refine ifB_t ?_ | refine ⟨rfl, ?_⟩); conv => whnf)
        refine ⟨_, _, wakes13_ok, by first | rfl | simp [noRoIf, noRoL, noRoV, noRoL_bys], ?_⟩
        conv => whnf
        repeat ((first | refine ifB_t ?_ | refine ⟨rfl, ?_⟩); conv => whnf)
        rfl
      · rw [show bentM m 3 = { m with hs := m.hs ++ m.hs, es := m.es } from by unfold bentM; rw [if_neg (by omega), if_neg (by omega), if_neg (by omega), if_pos rfl, if_neg k2, if_neg e0]] at hb hk
        conv => whnf
        repeat ((refine ifB_neg (decide_eq_false (by first | omega | rfl | (dsimp only; omega))) ?_); conv => whnf)
        refine Does.weakerTo' (env := [(2, .rop (msgC m)), (5, .ptr 3 0)]) (heap := [(1, rowsC hdC (m.hs ++ m.hs)), (2, rowsC entC m.es), (3, msgV m.kind m.frm m.to (.sl 1 0 (m.hs ++ m.hs).length 66 false) (.ro m.ps.length (rowsC prfC m.ps)) (.sl 2 0 m.es.length 133 false))]) (nx := 4) (n := 100) [(1, 4), (2, 2), (3, 3)] rfl rfl ⟨⟨rfl, msgC_pure m⟩, ⟨rfl, rfl⟩, trivial⟩ ⟨rowsC_les hdC_les (by rw [rowsC_append]), rowsC_les entC_les rfl, ⟨⟨rfl, rfl⟩, ⟨rfl, rfl⟩, ⟨rfl, rfl⟩, ⟨rfl, rfl, by rw [List.length_append], rfl, fun h => h⟩, ⟨rfl, rfl, prfs_pure _⟩, ⟨rfl, rfl, rfl, rfl, fun h => h⟩, trivial⟩, trivial⟩ ?_
        refine Does.freeze 2 rfl (Does.freeze 1 (zs := rowsC hdC (m.hs ++ m.hs)) (by show some (frzL 2 _ (rowsC hdC (m.hs ++ m.hs))) = _; rw [rowsC_frz (fun x => hdC_frz _ _ x)]) (Does.tidy [(2, .rop (msgC m)), (5, .ptr 3 0)] [(3, msgV m.kind m.frm m.to (.ro (m.hs ++ m.hs).length (List.take ((m.hs ++ m.hs).length * 66) (List.drop 0 (rowsC hdC (m.hs ++ m.hs))))) (.ro m.ps.length (rowsC prfC m.ps)) (.ro m.es.length (List.take (m.es.length * 133) (List.drop 0 (rowsC entC m.es)))))] 4 100 rfl rfl rfl (by kernel_rfl) (by kernel_rfl) ?_))
        rw [rowsC_whole hdC_length, rowsC_whole entC_length]
        refine wpc_sound (M := ML4) (PL := PL0) (CU := noCut) TTok mixed _ _ _ ?_
        conv => whnf
        repeat ((refine ⟨_, rfl, ?_⟩); conv => whnf)
        refine ⟨by simp [pureL, pureV, hds_pure, prfs_pure, ents_pure], ?_⟩
        conv => whnf
        repeat ((refine ⟨rfl, ?_⟩); conv => whnf)
        refine ⟨_, _, hb, by first | rfl | simp [noRoIf, noRoL, noRoV, noRoL_bys], ?_⟩
        conv => whnf
        repeat ((first | refine ⟨rfl, ?_⟩ | refine ⟨_, rfl, ?_⟩ | refine ⟨(show pureL _ = true from by first | exact prfC_pure _ | exact hdC_pure _ | exact msgC_pure _ | exact letC_pure _), ?_⟩); conv => whnf)
        refine ⟨_, _, hc, by first | rfl | simp [noRoIf, noRoL, noRoV, noRoL_bys], ?_⟩
        conv => whnf
        repeat ((first | refine ifB_t ?_ | refine ⟨_, rfl, ?_⟩); conv => whnf)
        refine ⟨by simp [pureL, pureV, hds_pure, prfs_pure, ents_pure], ?_⟩
        conv => whnf
        repeat ((refine ⟨rfl, ?_⟩); conv => whnf)
        refine ⟨_, _, hk, by first | rfl | simp [noRoIf, noRoL, noRoV, noRoL_bys], ?_⟩
        conv => whnf
        repeat ((first | refine ifB_t ?_ | refine ⟨rfl, ?_⟩); conv => whnf)
        refine ⟨_, _, wakes13_ok, by first | rfl | simp [noRoIf, noRoL, noRoV, noRoL_bys], ?_⟩
        conv => whnf
        repeat ((first | refine ifB_t ?_ | refine ⟨rfl, ?_⟩); conv => whnf)
        rfl
  · rw [show bentM m 4 = { m with hs := m.hs ++ [(⟨z32, 1, z32, true⟩ : Hd)] } from rfl] at hb hk
    conv => whnf
    repeat ((first | refine ifB_t ?_ | refine ifB_f ?_ | (refine Or.inl ⟨⟨rfl, ?_⟩, ?_⟩; (focus (first | rfl | (simp; done) | (rw [toksC_length]; omega)))) | refine ⟨rfl, ?_⟩ | refine ⟨_, rfl, ?_⟩ | refine ⟨⟨rfl, rfl⟩, ?_⟩); conv => whnf)
    refine ⟨⟨rfl, rfl, by rw [hds_len, Nat.mul_comm], by simp [limB]; omega⟩, ?_⟩
    conv => whnf
    repeat ((refine ⟨(⟨by kernel_rfl, by kernel_rfl, Nat.le_of_ble_eq_true (by kernel_rfl)⟩ : AV.ones _ = true ∧ _ ∧ _), ?_⟩); conv => whnf)
    refine Does.weakerTo' (env := [(2, .rop (msgC m)), (5, .ptr 3 0)]) (heap := [(1, rowsC hdC (m.hs ++ [(⟨z32, 1, z32, true⟩ : Hd)])), (2, rowsC entC m.es), (3, msgV m.kind m.frm m.to (.sl 1 0 (m.hs ++ [(⟨z32, 1, z32, true⟩ : Hd)]).length 66 false) (.ro m.ps.length (rowsC prfC m.ps)) (.sl 2 0 m.es.length 133 false))]) (nx := 4) (n := 100) [(1, 5), (2, 2), (3, 3)] rfl rfl ⟨⟨rfl, msgC_pure m⟩, ⟨rfl, rfl⟩, trivial⟩ ⟨rowsC_les hdC_les (by rw [rowsC_append]; simp only [rowsC, List.append_nil]; rfl), rowsC_les entC_les rfl, ⟨⟨rfl, rfl⟩, ⟨rfl, rfl⟩, ⟨rfl, rfl⟩, ⟨rfl, rfl, by simp, rfl, fun h => h⟩, ⟨rfl, rfl, prfs_pure _⟩, ⟨rfl, rfl, rfl, rfl, fun h => h⟩, trivial⟩, trivial⟩ ?_
    refine Does.freeze 2 rfl (Does.freeze 1 (zs := rowsC hdC (m.hs ++ [(⟨z32, 1, z32, true⟩ : Hd)])) (by show some (frzL 2 _ (rowsC hdC (m.hs ++ [(⟨z32, 1, z32, true⟩ : Hd)]))) = _; rw [rowsC_frz (fun x => hdC_frz _ _ x)]) (Does.tidy [(2, .rop (msgC m)), (5, .ptr 3 0)] [(3, msgV m.kind m.frm m.to (.ro (m.hs ++ [(⟨z32, 1, z32, true⟩ : Hd)]).length (List.take ((m.hs ++ [(⟨z32, 1, z32, true⟩ : Hd)]).length * 66) (List.drop 0 (rowsC hdC (m.hs ++ [(⟨z32, 1, z32, true⟩ : Hd)]))))) (.ro m.ps.length (rowsC prfC m.ps)) (.ro m.es.length (List.take (m.es.length * 133) (List.drop 0 (rowsC entC m.es)))))] 4 100 rfl rfl rfl (by kernel_rfl) (by kernel_rfl) ?_))
    rw [rowsC_whole hdC_length, rowsC_whole entC_length]
    refine wpc_sound (M := ML4) (PL := PL0) (CU := noCut) TTok mixed _ _ _ ?_
    conv => whnf
    repeat ((refine ⟨_, rfl, ?_⟩); conv => whnf)
    refine ⟨by simp [pureL, pureV, hds_pure, prfs_pure, ents_pure], ?_⟩
    conv => whnf
    repeat ((refine ⟨rfl, ?_⟩); conv => whnf)
    refine ⟨_, _, hb, by first | rfl | simp [noRoIf, noRoL, noRoV, noRoL_bys], ?_⟩
    conv => whnf
    repeat ((first | refine ⟨rfl, ?_⟩ | refine ⟨_, rfl, ?_⟩ | refine ⟨(show pureL _ = true from by first | exact prfC_pure _ | exact hdC_pure _ | exact msgC_pure _ | exact letC_pure _), ?_⟩); conv => whnf)
    refine ⟨_, _, hc, by first | rfl | simp [noRoIf, noRoL, noRoV, noRoL_bys], ?_⟩
    conv => whnf
    repeat ((first | refine ifB_t ?_ | refine ⟨_, rfl, ?_⟩); conv => whnf)
    refine ⟨by simp [pureL, pureV, hds_pure, prfs_pure, ents_pure], ?_⟩
    conv => whnf
    repeat ((refine ⟨rfl, ?_⟩); conv => whnf)
    refine ⟨_, _, hk, by first | rfl | simp [noRoIf, noRoL, noRoV, noRoL_bys], ?_⟩
    conv => whnf
    repeat ((first | refine ifB_t ?_ | refine ⟨rfl, ?_⟩); conv => whnf)
    refine ⟨_, _, wakes13_ok, by first | rfl | simp [noRoIf, noRoL, noRoV, noRoL_bys], ?_⟩
    conv => whnf
    repeat ((first | refine ifB_t ?_ | refine ⟨rfl, ?_⟩); conv => whnf)
    rfl
  · rw [show bentM m 5 = { m with hs := m.hs ++ [(⟨z32, 201, z32, false⟩ : Hd)] } from rfl] at hb hk
    conv => whnf
    repeat ((first | refine ifB_f ?_ | (refine Or.inl ⟨⟨rfl, ?_⟩, ?_⟩; (focus (first | rfl | (simp; done) | (rw [toksC_length]; omega)))) | refine ⟨rfl, ?_⟩ | refine ⟨_, rfl, ?_⟩ | refine ⟨⟨rfl, rfl⟩, ?_⟩); conv => whnf)
    refine ⟨⟨rfl, rfl, by rw [hds_len, Nat.mul_comm], by simp [limB]; omega⟩, ?_⟩
    conv => whnf
    repeat ((refine ⟨(⟨by kernel_rfl, by kernel_rfl, Nat.le_of_ble_eq_true (by kernel_rfl)⟩ : AV.ones _ = true ∧ _ ∧ _), ?_⟩); conv => whnf)
    refine Does.weakerTo' (env := [(2, .rop (msgC m)), (5, .ptr 3 0)]) (heap := [(1, rowsC hdC (m.hs ++ [(⟨z32, 201, z32, false⟩ : Hd)])), (2, rowsC entC m.es), (3, msgV m.kind m.frm m.to (.sl 1 0 (m.hs ++ [(⟨z32, 201, z32, false⟩ : Hd)]).length 66 false) (.ro m.ps.length (rowsC prfC m.ps)) (.sl 2 0 m.es.length 133 false))]) (nx := 4) (n := 100) [(1, 5), (2, 2), (3, 3)] rfl rfl ⟨⟨rfl, msgC_pure m⟩, ⟨rfl, rfl⟩, trivial⟩ ⟨rowsC_les hdC_les (by rw [rowsC_append]; simp only [rowsC, List.append_nil]; rfl), rowsC_les entC_les rfl, ⟨⟨rfl, rfl⟩, ⟨rfl, rfl⟩, ⟨rfl, rfl⟩, ⟨rfl, rfl, by simp, rfl, fun h => h⟩, ⟨rfl, rfl, prfs_pure _⟩, ⟨rfl, rfl, rfl, rfl, fun h => h⟩, trivial⟩, trivial⟩ ?_
    refine Does.freeze 2 rfl (Does.freeze 1 (zs := rowsC hdC (m.hs ++ [(⟨z32, 201, z32, false⟩ : Hd)])) (by show some (frzL 2 _ (rowsC hdC (m.hs ++ [(⟨z32, 201, z32, false⟩ : Hd)]))) = _; rw [rowsC_frz (fun x => hdC_frz _ _ x)]) (Does.tidy [(2, .rop (msgC m)), (5, .ptr 3 0)] [(3, msgV m.kind m.frm m.to (.ro (m.hs ++ [(⟨z32, 201, z32, false⟩ : Hd)]).length (List.take ((m.hs ++ [(⟨z32, 201, z32, false⟩ : Hd)]).length * 66) (List.drop 0 (rowsC hdC (m.hs ++ [(⟨z32, 201, z32, false⟩ : Hd)]))))) (.ro m.ps.length (rowsC prfC m.ps)) (.ro m.es.length (List.take (m.es.length * 133) (List.drop 0 (rowsC entC m.es)))))] 4 100 rfl rfl rfl (by kernel_rfl) (by kernel_rfl) ?_))
    rw [rowsC_whole hdC_length, rowsC_whole entC_length]
    refine wpc_sound (M := ML4) (PL := PL0) (CU := noCut) TTok mixed _ _ _ ?_
    conv => whnf
    repeat ((refine ⟨_, rfl, ?_⟩); conv => whnf)
    refine ⟨by simp [pureL, pureV, hds_pure, prfs_pure, ents_pure], ?_⟩
    conv => whnf
    repeat ((refine ⟨rfl, ?_⟩); conv => whnf)
    refine ⟨_, _, hb, by first | rfl | simp [noRoIf, noRoL, noRoV, noRoL_bys], ?_⟩
    conv => whnf
    repeat ((first | refine ⟨rfl, ?_⟩ | refine ⟨_, rfl, ?_⟩ | refine ⟨(show pureL _ = true from by first | exact prfC_pure _ | exact hdC_pure _ | exact msgC_pure _ | exact letC_pure _), ?_⟩); conv => whnf)
    refine ⟨_, _, hc, by first | rfl | simp [noRoIf, noRoL, noRoV, noRoL_bys], ?_⟩
    conv => whnf
    repeat ((first | refine ifB_t ?_ | refine ⟨_, rfl, ?_⟩); conv => whnf)
    refine ⟨by simp [pureL, pureV, hds_pure, prfs_pure, ents_pure], ?_⟩
    conv => whnf
    repeat ((refine ⟨rfl, ?_⟩); conv => whnf)
    refine ⟨_, _, hk, by first | rfl | simp [noRoIf, noRoL, noRoV, noRoL_bys], ?_⟩
    conv => whnf
    repeat ((first | refine ifB_t ?_ | refine ⟨rfl, ?_⟩); conv => whnf)
    refine ⟨_, _, wakes13_ok, by first | rfl | simp [noRoIf, noRoL, noRoV, noRoL_bys], ?_⟩
    conv => whnf
    repeat ((first | refine ifB_t ?_ | refine ⟨rfl, ?_⟩); conv => whnf)
    rfl
end Go.Proofs.YtelnlfhdaelfdaaDoor.Abs
end
section
set_option linter.unusedVariables false
namespace Go.Proofs.YtelnlfhdaelfdaaDoor.Abs
open Go Go.Shelf Go.Lib
theorem first_eq : ∀ c : Fin 256, firstT c.val = utf8First.getD c.val 0 := by decide +kernel
theorem acc_eq : ∀ i : Fin 16, accLo i.val = utf8Ranges.getD (2 * i.val) 0 ∧ accHi i.val = utf8Ranges.getD (2 * i.val + 1) 0 := by decide +kernel
theorem tabOk_of {W : World} (h : Lib.Utf8Tabs 1 2 W) : TabOk (env0 W) := by
  obtain ⟨h1, h2⟩ := h
  have l1 : utf8First.length = 256 := by decide +kernel
  have l2 : utf8Ranges.length = 32 := by decide +kernel
  have s0 : 1 < W.heap.size := World.block_lt_of_cell? _ _ (h1 0 (by omega))
  have s1 : 2 < W.heap.size := World.block_lt_of_cell? _ _ (h2 0 (by omega)).1
  intro g k l hg
  unfold tabs at hg
  by_cases g0 : g = 1
  · subst g0
    simp only [Nat.beq_refl, cond_true, Option.some.injEq, Prod.mk.injEq] at hg
    obtain ⟨rfl, rfl⟩ := hg
    refine ⟨s0, fun hv => hv, fun j x hx => ?_⟩
    have hj : j < 256 := by rw [← l1]; exact (List.getElem?_eq_some_iff.1 hx).1
    have := h1 j hj
    have e := first_eq ⟨j, hj⟩
    simp only at e
    rw [e, List.getD_eq_getElem?_getD, hx] at this
    exact this
  · have hb : Nat.beq g 1 = false := by
      cases hh : Nat.beq g 1
      · rfl
      · exact absurd (Nat.eq_of_beq_eq_true hh) g0
    rw [hb, cond_false] at hg
    by_cases g1 : g = 2
    · subst g1
      simp only [Nat.beq_refl, cond_true, Option.some.injEq, Prod.mk.injEq] at hg
      obtain ⟨rfl, rfl⟩ := hg
      refine ⟨s1, fun hv => hv, fun j x hx => ?_⟩
      have hj : j < 32 := by rw [← l2]; exact (List.getElem?_eq_some_iff.1 hx).1
      have e := acc_eq ⟨j / 2, by omega⟩
      obtain ⟨q1, q2⟩ := h2 (j / 2) (by omega)
      simp only at e
      rw [e.1] at q1
      rw [e.2] at q2
      rcases Nat.mod_two_eq_zero_or_one j with hm | hm
      · have ej : 2 * (j / 2) = j := by omega
        rw [ej, List.getD_eq_getElem?_getD, hx] at q1
        exact q1
      · have ej : 2 * (j / 2) + 1 = j := by omega
        rw [ej, List.getD_eq_getElem?_getD, hx] at q2
        exact q2
    · have hb : Nat.beq g 2 = false := by
        cases hh : Nat.beq g 2
        · rfl
        · exact absurd (Nat.eq_of_beq_eq_true hh) g1
      rw [hb, cond_false] at hg
      cases hg
/-- The numbers of this program's types and tables. -/
def utRen : Ren := ⟨fun x => x, fun n => if n = 5 then 5 else if n = 119 then 170 else if n = 138 then 172 else 173, fun n => if n = 3 then 1 else 2⟩
theorem tabOk_of_laid {W : World} (hL : laidMet Tryd.prog [("unicode/utf8.acceptRanges", Rows.laid_unicode_utf8_acceptRanges), ("unicode/utf8.first", Rows.laid_unicode_utf8_first)] W) : TabOk (env0 W) := by
  have e1 : Rows.laid_unicode_utf8_first = Lib.firstData := Pinned.utf8First_eq
  have e2 : (Rows.laid_unicode_utf8_acceptRanges : DataW Unit) = Lib.acceptData := by kernel_rfl
  rw [e1, e2] at hL
  exact tabOk_of (utf8Tabs_of_readsT (P := Tryd.prog) (ρ := utRen) ⟨by kernel_rfl, by kernel_rfl, by kernel_rfl, by kernel_rfl⟩ ⟨by kernel_rfl, by kernel_rfl, by kernel_rfl, by kernel_rfl, by kernel_rfl, by kernel_rfl, by kernel_rfl⟩
    (Lib.laidMet.reads hL (.tail _ (.head _))) (Lib.laidMet.reads hL (.head _)))
end Go.Proofs.YtelnlfhdaelfdaaDoor.Abs
end
section
namespace Go.Proofs.YtelnlfhdaelfdaaDoor.wireBent
open Go Go.ChangeShapes Go.WideShapes Go.ChangeAt Go.RowKit Go.Proofs.YtelnlfhdaelfdaaDoor.Abs
set_option linter.unusedVariables false
set_option linter.unusedSimpArgs false
theorem own : ownKnob Tryd.prog.godebug = none := by kernel_rfl
theorem laidOut : laidOutB Tryd.prog = true := by kernel_rfl
noncomputable def laidWorld (os : Os) : World := World.laidAll Tryd.prog os Rows.wireBentRow.laid
theorem laid_met (os : Os) (args : Array Value) : laidMetH Tryd.prog Rows.wireBentRow.laid ((laidWorld os).forCall (fun _ _ => 0) ⟨#[], args, []⟩).memory := by
  rw [MakeChecks.laidMetH_plain _ _ _ (by kernel_rfl)]
  exact laidMet_laidAll args (by kernel_rfl) (by kernel_rfl)
set_option maxRecDepth 100000 in
theorem lifted (os : Os) (started : os.Started) (H : Type) (enc : TypeId × Value → H) :
    ReturnsInHanded {} Tryd.checked os 9 .any (fun w args => (Rows.wireBentSpec.pre enc Tryd.prog Tryd.f9 [] false w args ∧ laidMetH Tryd.prog Rows.wireBentRow.laid w) ∧ sizedMet enc Tryd.prog Tryd.f9 (OpenSpec.ofChange Rows.wireBentSpec) false w args)
      (Rows.wireBentSpec.post enc Tryd.prog Tryd.f9 false true false false) := by
  refine returnsInHanded_of_change_and (C := Tryd.checked) (X := fun w _ => laidMetH Tryd.prog Rows.wireBentRow.laid w) (fun _ _ _ hh h => h.of_heap hh) own started (by kernel_rfl) Tryd.func9
    (ChangeSpec.witness_shaped (enc := enc) (C := Tryd.checked) (os := os) (X := fun w _ => laidMetH Tryd.prog Rows.wireBentRow.laid w) false (laidWorld os) #[.agg #[.int .i64 0, .int .i64 0, .int .i64 0, .slice none 0 0, .slice none 0 0, .slice none 0 0], .int .i64 0] 8 (World.laidAll_os _ _ _) (World.shaped_of_RefB (by kernel_rfl) (by kernel_rfl)) (by kernel_rfl) (by kernel_rfl) (by kernel_rfl) (laid_met os _)) ?_
  intro W base args ds gs before hval0 hW _ _ hL _
  have hval : ∀ (j : Nat) t v, Tryd.f9.params[j]? = some t → args[j]? = some v → Value.okWide Tryd.prog W .any base t v := hval0
  have hW' := hW
  obtain ⟨p, q, hA0, hV, rfl, hfz, hnd⟩ := hW
  have hA : DataW.TrodAll enc Tryd.prog W 0 (fun _ => true) true Tryd.f9.params.toList args.toList ds p := hA0
  rw [Tryd.params9] at hA hval
  rw [MakeChecks.laidMetH_plain _ _ _ (by kernel_rfl)] at hL
  have htab : TabOk (env0 W) := tabOk_of_laid hL
  obtain ⟨v0, vs0, d0, ds0, p0, q0, hargs, rfl, rfl, h0, r0⟩ := trodAll_cons hA
  obtain ⟨v1, vs1, d1, ds1, p1, q1, rfl, rfl, rfl, h1, r1⟩ := trodAll_cons r0
  obtain ⟨rfl, rfl, rfl⟩ := trodAll_nil r1
  obtain rfl : args = #[v0, v1] := by cases args; simp_all
  obtain ⟨rfl, rfl⟩ := trodVars_none hV
  obtain ⟨a0, rfl, _⟩ := okWide_struct Tryd.underlying27 (hval 0 27 v0 rfl rfl)
  have k0 := h0
  have lt0 : ∀ x ∈ p0, x.block < W.heap.size := by obtain ⟨m, hm⟩ := k0; exact DataW.trod_lt m _ _ _ hm
  obtain ⟨x0, w0, t0⟩ := (by obtain ⟨fuel, hf⟩ := h0; exact open_any TTok 9 fuel 27 _ _ (by kernel_rfl) hf : ∃ xs, RepL (env0 W) xs (Value.cells _).toList ∧ TyL TT 9 27 xs)
  obtain ⟨l0, rfl, b0⟩ := msg_of_ty t0
  have w0 := rep_agg w0
  obtain ⟨a1, rfl, rfl, rfl, w1⟩ := open_int Tryd.underlying3 (hval 1 3 v1 rfl rfl) h1
  clear hA0 hval0
  refine (ACall.row (wireBent_ok l0 a1 b0 (wf_i64 w1)) (by simp [pureL, pureV, pureL_bys, pureL_ints, pureL_toks, msgC_pure]) (W := W) (vals := [.agg a0, .int .i64 a1]) (by simp only [RepL]; exact ⟨_, _, rfl, w0, ⟨_, _, rfl, rep_int _ _ _, rfl⟩⟩) htab).mono fun e W' ⟨he, bel⟩ => ?_
  subst he
  exact ⟨_, rfl, _, _, _, [], _, [], hW', trodAll_mk1 (shut_bool Tryd.underlying4 _), (trodAll_cons_mk (Below.trod laidOut (by kernel_rfl) (of_decide_eq_true (by kernel_rfl)) k0 bel lt0) (trodAll_cons_mk (shut_int Tryd.underlying3 w1) trodAll_mk0)), rfl, bel.frame _, fun h => by cases h⟩
theorem over : Rows.wireBentRow.holds Tryd.pinned (OpenSpec.ofChange Rows.wireBentSpec) :=
  OpenClaim.holds_of_wide 9 Tryd.f9 rfl rfl rfl rfl rfl rfl rfl ⟨rfl, rfl, rfl, rfl, rfl⟩ rfl rfl rfl rfl rfl (by kernel_rfl) Tryd.func9 (by kernel_rfl)
    (of_decide_eq_true (by kernel_rfl)) (by unfold Func.isWrapper; first | (rw [if_pos (by decide +kernel)]; kernel_rfl) | (rw [if_neg (by decide +kernel)]; exact ⟨rfl, rfl⟩))
    (fun os started H enc _ => lifted os started H enc)
/-- The tied card. -/
theorem card : Claim7.holds Tryd.pinned (.plain (OpenSpec.ofChange Rows.wireBentSpec)) Rows.wireBentCard :=
  Claim7.holds_tied_plain_at .later [] [.data, .pinned] true (true, "891155d96ca261d6dec426f9a893f0765c918b26fb9e2bfab3eb0523fb6b23ea") false
    over (fun _ h => by cases h) (by kernel_rfl) (fun _ h => by cases h) wireBent_row_tie rfl ⟨rfl, rfl⟩ (by kernel_rfl) rfl
    (fun f fn hf hfn => by
      obtain rfl : f = 9 := Option.some.inj ((show Tryd.prog.funcNamed "codicil/codicillaw13.WireBent" = some 9 by kernel_rfl).symm.trans hf) |>.symm
      obtain rfl : fn = Tryd.f9 := (Option.some.inj (Tryd.func9.symm.trans hfn)).symm
      exact ⟨by kernel_rfl, fun j t ht => by
        rw [Tryd.params9] at ht
        have hm : t ∈ [27, 3] := by simpa using Array.mem_of_getElem? ht
        have hall : ([27, 3].all fun u => !Tryd.prog.wantsStandIn u) = true := by kernel_rfl
        exact (show Tryd.prog.wantsStandIn t = false by simpa using List.all_eq_true.1 hall t hm)⟩)
    (by kernel_rfl)
end Go.Proofs.YtelnlfhdaelfdaaDoor.wireBent
namespace Go.Proofs.YtelnlfhdaelfdaaDoor
/-- The law WireBent. -/
theorem wireBent_holds : Rows.WireBentCardSaid := wireBent.card
end Go.Proofs.YtelnlfhdaelfdaaDoor
end
