/- A call by its contract: sound. -/
import Derived.Test.YtaefmhdpfmpijaaFT
set_option linter.unusedVariables false
set_option linter.unusedSimpArgs false
namespace Go.Proofs.Ytaefmhdpfmpijaa.Abs
open Go

mutual
def passOne (H : Heap) (m : Mode) (x : AV) (K : AV → List Nat → List Nat → Prop) : Prop :=
  match m with
  | .rd => match x with
    | .nil => K (.ro 0 []) [] []
    | .ro len cs => pureL cs = true ∧ K (.ro len cs) [] []
    | .agg cs => pureL cs = true ∧ K (.agg cs) [] []
    | .tuple cs => False
    | .own _ _ _ => False
    | .ref _ => False
    | x => pureV x = true ∧ K x [] []
  | .bw => match x with
    | .nil => K (.ro 0 []) [] []
    | .ro len cs => pureL cs = true ∧ K (.ro len cs) [] []
    | .sl id off len esz full => match H id with
      | some cs => pureL cs = true ∧ (((off = 0 ∧ cs.length = len * esz) ∧ K (.ro len cs) [] [id]) ∨ K (.ro len ((cs.drop off).take (len * esz))) [] [id])
      | none => False
    | _ => False
  | .mv esz => match x with
    | .nil => K (.own 0 esz []) [] []
    | .sl id off len es full => match H id with
      | some cs => (off = 0 ∧ es = esz ∧ cs.length = len * es ∧ pureL cs = true) ∧ K (.own len esz cs) [id] []
      | none => False
    | _ => False
  | .rf ms => match x with
    | .ptr id 0 => match H id with
      | some zs => passAll H ms zs fun cs ids bs => bs = [] ∧ K (.ref cs) (ids ++ [id]) []
      | none => False
    | _ => False
def passAll (H : Heap) (ms : List Mode) (xs : List AV) (K : List AV → List Nat → List Nat → Prop) : Prop :=
  match ms, xs with
  | [], [] => K [] [] []
  | m :: ms, x :: xs => passOne H m x fun y i b => passAll H ms xs fun ys is bs => K (y :: ys) (i ++ is) (b ++ bs)
  | _, _ => False
end

theorem pureL_take {cs : List AV} (h : pureL cs = true) (n : Nat) : pureL (cs.take n) = true := by
  induction cs generalizing n with
  | nil => simp [pureL]
  | cons c cs ih =>
    simp only [pureL, Bool.and_eq_true] at h
    cases n with
    | zero => simp [pureL]
    | succ n => simp only [List.take_succ_cons, pureL, h.1, ih h.2 n, Bool.and_true]

theorem pureL_drop {cs : List AV} (h : pureL cs = true) (n : Nat) : pureL (cs.drop n) = true := by
  induction cs generalizing n with
  | nil => simp [pureL]
  | cons c cs ih =>
    simp only [pureL, Bool.and_eq_true] at h
    cases n with
    | zero => simp [pureL, h.1, h.2]
    | succ n => simpa using ih h.2 n

theorem demL_of_passed {H : Heap} {xs ys : List AV} {ids bs : List Nat} (h : PassedL H xs ys ids bs) (hb : bs = []) : DemL H ys xs ids := by
  induction h with
  | nil => simp [DemL]
  | cons h1 t ih =>
    rename_i x y xs ys i is b bs
    have hb' : b = [] ∧ bs = [] := by simpa using hb
    simp only [DemL]
    refine ⟨x, xs, i, is, rfl, rfl, ?_, ih hb'.2⟩
    cases h1 with
    | dem hd => exact hd
    | bor => simp at hb'

mutual
theorem dem_pure {H : Heap} : ∀ (x : AV), pureV x = true → Dem H x x []
  | .own _ _ _, hp => by simp [pureV] at hp
  | .ref _, hp => by simp [pureV] at hp
  | .sl _ _ _ _ _, hp => by simp [pureV] at hp
  | .ptr _ _, hp => by simp [pureV] at hp
  | .agg cs, hp => by simp only [Dem]; exact ⟨cs, rfl, demL_pure cs (by simpa [pureV] using hp)⟩
  | .tuple cs, hp => by simp only [Dem]; exact ⟨cs, rfl, demL_pure cs (by simpa [pureV] using hp)⟩
  | .ro len cs, hp => by have : pureL cs = true := by simpa [pureV] using hp
                         simp [Dem, this]
  | .top, hp => by simp [Dem, hp]
  | .int k n, hp => by simp [Dem, hp]
  | .bool b, hp => by simp [Dem, hp]
  | .anyb, hp => by simp [Dem, hp]
  | .str s, hp => by simp [Dem, hp]
  | .nil, hp => by simp [Dem, hp]
  | .rop cs, hp => by simp [Dem, hp]
  | .nilp, hp => by simp [Dem, hp]
  | .hid i, hp => by simp [Dem, hp]
  | .fn f cs, hp => by simp [Dem, hp]
theorem demL_pure {H : Heap} : ∀ (cs : List AV), pureL cs = true → DemL H cs cs []
  | [], _ => by simp [DemL]
  | c :: cs, hp => by
    simp only [pureL, Bool.and_eq_true] at hp
    simp only [DemL]
    exact ⟨c, cs, [], [], rfl, rfl, dem_pure c hp.1, demL_pure cs hp.2⟩
end

theorem passed_pure {H : Heap} {x : AV} (hp : pureV x = true) : Passed H x x [] [] := .dem (dem_pure x hp)

theorem passed_nil {H : Heap} : Passed H .nil (.ro 0 []) [] [] := .dem (by simp [Dem])

mutual
theorem passOne_ok {H : Heap} : ∀ (m : Mode) (x : AV) (K : AV → List Nat → List Nat → Prop), passOne H m x K → ∃ y ids bs, K y ids bs ∧ Passed H x y ids bs
  | .rd, x, K, h => by
    unfold passOne at h
    cases x <;> simp only at h
    case nil => exact ⟨_, _, _, h, passed_nil⟩
    case ro len cs => exact ⟨_, _, _, h.2, passed_pure (by simpa [pureV] using h.1)⟩
    case agg cs => exact ⟨_, _, _, h.2, passed_pure (by simpa [pureV] using h.1)⟩
    all_goals exact ⟨_, _, _, h.2, passed_pure h.1⟩
  | .bw, x, K, h => by
    unfold passOne at h
    cases x <;> simp only at h
    case nil => exact ⟨_, _, _, h, passed_nil⟩
    case ro len cs => exact ⟨_, _, _, h.2, passed_pure (by simpa [pureV] using h.1)⟩
    case sl id off len esz full =>
      split at h
      · rename_i cs hcs
        obtain ⟨hp, h⟩ := h
        rcases h with ⟨⟨rfl, hl⟩, hk⟩ | hk
        · exact ⟨_, _, _, hk, .bor hcs (by rw [List.drop_zero, List.take_of_length_le (by omega)]) hp⟩
        · exact ⟨_, _, _, hk, .bor hcs rfl (pureL_take (pureL_drop hp off) _)⟩
      · exact h.elim
  | .mv esz, x, K, h => by
    unfold passOne at h
    cases x <;> simp only at h
    case nil => exact ⟨_, _, _, h, .dem (by simp [Dem, pureL])⟩
    case sl id off len es full =>
      split at h
      · rename_i cs hcs
        obtain ⟨⟨rfl, rfl, hl, hp⟩, hk⟩ := h
        exact ⟨_, _, _, hk, .dem (by simp only [Dem]; exact ⟨hp, hl, .inr ⟨id, full, rfl, hcs, rfl⟩⟩)⟩
      · exact h.elim
  | .rf ms, x, K, h => by
    unfold passOne at h
    cases x <;> (try simp only at h)
    case ptr id off =>
      cases off with
      | zero =>
        simp only at h
        split at h
        · rename_i zs hzs
          obtain ⟨cs, ids, bs, ⟨rfl, hk⟩, hp⟩ := passAll_ok ms zs _ h
          exact ⟨_, _, _, hk, .dem (by simp only [Dem]; exact ⟨id, zs, ids, rfl, hzs, demL_of_passed hp rfl, rfl⟩)⟩
        · exact h.elim
      | succ off => exact h.elim
    all_goals exact h.elim
theorem passAll_ok {H : Heap} : ∀ (ms : List Mode) (xs : List AV) (K : List AV → List Nat → List Nat → Prop), passAll H ms xs K → ∃ ys ids bs, K ys ids bs ∧ PassedL H xs ys ids bs
  | [], [], K, h => by unfold passAll at h; exact ⟨_, _, _, h, .nil⟩
  | m :: ms, x :: xs, K, h => by
    unfold passAll at h
    obtain ⟨y, i, b, h1, p1⟩ := passOne_ok m x _ h
    obtain ⟨ys, is, bs, h2, p2⟩ := passAll_ok ms xs _ h1
    exact ⟨_, _, _, h2, .cons p1 p2⟩
  | [], _ :: _, K, h => by unfold passAll at h; exact h.elim
  | _ :: _, [], K, h => by unfold passAll at h; exact h.elim
end

def elemB (a : Nat) : List Nat → Bool
  | [] => false
  | b :: r => Nat.beq a b || elemB a r
def nodupB : List Nat → Bool
  | [] => true
  | a :: r => !elemB a r && nodupB r
def disjB : List Nat → List Nat → Bool
  | [], _ => true
  | a :: r, bs => !elemB a bs && disjB r bs

theorem elemB_iff {a : Nat} : ∀ {l : List Nat}, elemB a l = true ↔ a ∈ l
  | [] => by simp [elemB]
  | b :: r => by
    simp only [elemB, Bool.or_eq_true, List.mem_cons, elemB_iff (l := r)]
    constructor
    · rintro (h | h)
      · exact .inl (Nat.eq_of_beq_eq_true h)
      · exact .inr h
    · rintro (rfl | h)
      · exact .inl (Nat.beq_refl _)
      · exact .inr h

theorem nodupB_ok : ∀ {l : List Nat}, nodupB l = true → l.Nodup
  | [], _ => List.nodup_nil
  | a :: r, h => by
    simp only [nodupB, Bool.and_eq_true, Bool.not_eq_true'] at h
    refine List.nodup_cons.2 ⟨fun hm => ?_, nodupB_ok h.2⟩
    rw [elemB_iff.2 hm] at h
    exact absurd h.1 (by simp)

theorem disjB_ok : ∀ {l bs : List Nat}, disjB l bs = true → ∀ a ∈ bs, a ∉ l
  | [], bs, _ => by simp
  | c :: r, bs, h => by
    simp only [disjB, Bool.and_eq_true, Bool.not_eq_true'] at h
    intro a ha hm
    rcases List.mem_cons.1 hm with rfl | hm
    · rw [elemB_iff.2 ha] at h; exact absurd h.1 (by simp)
    · exact disjB_ok h.2 a ha hm

def noRoIf : List Nat → List AV → Bool
  | [], _ => true
  | _ :: _, l => noRoL l

def callP (P : Program) (M : List Mode) (f : FuncId) (H : Heap) (nx : Nat) (xs : List AV) (K : AV → Heap → Nat → Prop) : Prop :=
  passAll H M xs fun ys ids bs => (nodupB ids && disjB ids bs) = true ∧ ∃ r outs, ACall P f ys r outs ∧ noRoIf bs (outs ++ [r]) = true ∧
    match takeRefs (remH H ids, nx) (refIds ys xs) outs with
    | some s => match matV r s with
      | (x, (H', nx')) => K x H' nx'
    | none => False

end Go.Proofs.Ytaefmhdpfmpijaa.Abs
