/- Texts FP to FV, merged. -/
import Derived.Test.YtbkclacjamlebaaV2
set_option linter.unusedVariables false
set_option linter.unusedSimpArgs false
namespace Go.Proofs.Ytbkclacjamlebaa.Abs
open Go
section

def convP (T : Types) (H : Heap) (nx : Nat) (src dst : TypeId) (X : AV) (K : AV → Heap → Nat → Prop) : Prop :=
 match T src, T dst with
 | some si, some di => match di.d, X with
  | .int k, .int _ n => fitP k n fun m => K (.int k m) H nx
  | .str, .str s => K (.str s) H nx
  | .str, .int _ n => match si.d with
   | .int _ => K (.str (bytesOf (Utf8.encode n))) H nx
   | _ => False
  | .slice e, .str s => match si.d, T e with
   | .str, some ⟨.int k, _, _, _, _⟩ => cond (kEq k .u8) (K (.sl nx 0 s.length 1 false) (setH H nx (some (s.map (AV.int .u8)))) (nx + 1)) False
   | _, _ => False
  | .str, X => match si.d with
   | .slice e => match T e with
    | some ⟨.int k, _, _, _, _⟩ => cond (kEq k .u8) (srcP H 1 X fun n src => ∃ xs : List Int, (src = xs.map (AV.int .u8) ∧ ∀ x ∈ xs, 0 ≤ x ∧ x < 256) ∧ K (.str xs) H nx) False
    | _ => False
   | _ => False
  | _, _ => False
 | _, _ => False
theorem freeze_alloc (w : World) (c : Array Value) (e : TypeId) (n : Nat) :
  (w.alloc (.cells c e (0, 0))).freeze ⟨w.heap.size, n, none⟩ 1 = w.alloc (.cells c e (n, n + 1)) := by
 simp only [World.freeze, World.alloc]
 rw [if_neg (by decide)]
 congr 1
 apply Array.ext_getElem?
 intro i
 rw [Array.getElem?_modify]
 simp only [Array.getElem?_push]
 by_cases h : w.heap.size = i
 ·subst h; simp
 ·rw [if_neg h, if_neg (Ne.symm h), if_neg (Ne.symm h)]
theorem bytes_push (ns : List Int) (h : ∀ x ∈ ns, 0 ≤ x ∧ x < 256) : ∀ s : ByteArray, bytesOf (ns.foldl (fun r n => r.push (UInt8.ofNat n.toNat)) s) = bytesOf s ++ ns := by
 induction ns with
 | nil => intro s; simp
 | cons n ns ih =>
  intro s
  rw [List.foldl_cons, ih (fun x hx => h x (by simp [hx]))]
  have hb : bytesOf (s.push (UInt8.ofNat n.toNat)) = bytesOf s ++ [n] := by
   have := h n (by simp)
   simp only [bytesOf, ByteArray.push, Array.toList_push, List.map_append, List.map_cons, List.map_nil]
   congr 2
   simp only [UInt8.toNat_ofNat']
   omega
  rw [hb, List.append_assoc]; rfl
set_option maxHeartbeats 1000000 in
theorem convP_sound {P : Program} {T : Types} (hT : TOK P T) {Z : Nat → Prop} {E : Env} {H : Heap} {nx : Nat} (hr : HeapRep Z E H nx) {src dst : TypeId} {X : AV} {v : Value} {K : AV → Heap → Nat → Prop}
  (hx : RepV E X v) (h : convP T H nx src dst X K) :
  ∃ x H' nx' E' r, K x H' nx' ∧ (convert src dst v).run P E.w = .ok r E'.w ∧ After Z E H x H' nx' r E' := by
 unfold convP at h
 split at h
 case h_2 => exact h.elim
 rename_i si di hs hd
 obtain ⟨ds, hds, hso, _⟩ := (hT src _ hs).und
 obtain ⟨dd, hdd, hdo, _⟩ := (hT dst _ hd).und
 split at h
 ·rename_i k j n hdk
  rw [hdk] at hdo
  have ho' : dd = .int k := hdo
  subst ho'
  simp only [RepV] at hx
  subst hx
  exact ⟨_, _, _, E, _, h.elim, by simp [convert, run_underlying hds, run_underlying hdd, Conv.intToInt], After.pure hr (rep_int E _ _)⟩
 ·rename_i s hdk
  rw [hdk] at hdo
  have ho' : dd = .string := hdo
  subst ho'
  simp only [RepV] at hx
  obtain ⟨ba, rfl, rfl⟩ := hx
  exact ⟨_, _, _, E, .string ba, h, by simp [convert, run_underlying hds, run_underlying hdd], After.pure hr (by simp only [RepV]; exact ⟨ba, rfl, rfl⟩)⟩
 ·rename_i j n hdk
  split at h
  case h_2 => exact h.elim
  rename_i k hsk
  rw [hdk] at hdo
  have ho' : dd = .string := hdo
  subst ho'
  rw [hsk] at hso
  have hs' : ds = .int k := hso
  subst hs'
  simp only [RepV] at hx
  subst hx
  exact ⟨_, _, _, E, .string (Utf8.encode n), h, by simp [convert, run_underlying hds, run_underlying hdd, Conv.intToString], After.pure hr (by simp only [RepV]; exact ⟨_, rfl, rfl⟩)⟩
 ·rename_i e s hdk
  split at h
  case h_2 => exact h.elim
  rename_i k b1 b2 b3 b4 hsk he
  cases hkk : kEq k .u8 with
  | false => rw [hkk] at h; exact h.elim
  | true =>
  rw [hkk] at h
  simp only [cond_true] at h
  obtain rfl := kEq_eq hkk
  rw [hdk] at hdo
  have ho' : dd = .slice e := hdo
  subst ho'
  rw [hsk] at hso
  have hs' : ds = .string := hso
  subst hs'
  obtain ⟨de, hde, heo, _⟩ := (hT e _ he).und
  have he' : de = .int .u8 := heo
  subst he'
  simp only [RepV] at hx
  obtain ⟨ba, rfl, rfl⟩ := hx
  have hrd := hr.drawn (E.w.drawn + 1)
  have Ld := later_drawn E (E.w.drawn + 1)
  let q := Question.appendCap ba.size 0 e
  let cap := q.cut (E.w.tape E.w.drawn q)
  have hcap : ba.size ≤ cap := by simp [cap, q, Question.cut]
  let cells : Array Value := (ba.data.map fun b => Value.int .u8 b.toNat) ++ Array.replicate (cap - ba.size) (.int .u8 0)
  have hcs : cells.size = cap := by
   have : ba.data.size = ba.size := rfl
   simp [cells, this]; omega
  have hcell : ∀ (j : Nat) x, ((bytesOf ba).map (AV.int .u8))[j]? = some x → ∃ u, cells[j]? = some u ∧ RepV (E.drawn (E.w.drawn + 1)) x u := by
   intro j x hx
   rw [List.getElem?_map] at hx
   simp only [bytesOf, List.getElem?_map] at hx
   cases hj : ba.data.toList[j]? with
   | none => rw [hj] at hx; simp at hx
   | some y =>
    rw [hj] at hx
    simp at hx
    refine ⟨.int .u8 y.toNat, ?_, by rw [← hx]; exact rep_int _ _ _⟩
    have hlt : j < ba.data.size := by
     rcases Nat.lt_or_ge j ba.data.toList.length with h' | h'
     ·simpa using h'
     ·rw [List.getElem?_eq_none h'] at hj; cases hj
    simp only [cells]
    rw [Array.getElem?_append_left (by simpa using hlt), Array.getElem?_map]
    rw [Array.getElem?_toList] at hj
    rw [hj]; rfl
  have hal := hrd.alloc cells e (cap, cap + 1) ((bytesOf ba).map (AV.int .u8)) (fun j hj hc => by omega) (by simp [length_bytesOf]; omega) hcell
  refine ⟨_, _, _, _, .slice (some ⟨E.w.heap.size, 0, none⟩) ba.size cap, h, ?_, ⟨Ld.trans (later_alloc _ _ (hrd.fresh nx (Nat.le_refl _)).1), (Evo.drawn _ _ _).trans (Evo.alloc (Wr E.ρ H) _ _) (fun _ _ h => h), ?_, hal⟩⟩
  ·have hch : (choose q).run P E.w = .ok cap { E.w with drawn := E.w.drawn + 1 } := by simp [choose, Sem.run, Question.forced, q, cap]
   have hnew : (newRow e cells).run P { E.w with drawn := E.w.drawn + 1 } = .ok ⟨E.w.heap.size, 0, none⟩ (World.alloc { E.w with drawn := E.w.drawn + 1 } (.cells cells e)) := by simp [newRow, newObj, Sem.run]; rfl
   have hsh : (World.alloc { E.w with drawn := E.w.drawn + 1 } (.cells cells e)).shape? E.w.heap.size = some (e, cells.size) := by
    simp [World.shape?, World.alloc]
   have hfz := freeze_alloc { E.w with drawn := E.w.drawn + 1 } cells e cells.size
   have hmk : (markStringish ⟨E.w.heap.size, 0, none⟩).run P (World.alloc { E.w with drawn := E.w.drawn + 1 } (.cells cells e)) = .ok () (World.alloc { E.w with drawn := E.w.drawn + 1 } (.cells cells e (cap, cap + 1))) := by
    simp only [markStringish, Sem.run_bind, shape, Sem.run, hsh, Result.andThen_ok, freeze]
    rw [hcs] at hfz
    simpa [Sem.run, hcs] using hfz
   have : (Conv.stringToBytes e ba).run P E.w = .ok (.slice (some ⟨E.w.heap.size, 0, none⟩) ba.size cap) (World.alloc { E.w with drawn := E.w.drawn + 1 } (.cells cells e (cap, cap + 1))) := by
    simp only [Conv.stringToBytes, Sem.run_bind, Result.andThen_ok]
    rw [hch]
    simp only [Result.andThen_ok]
    show (((newRow e cells).run P { E.w with drawn := E.w.drawn + 1 }).andThen _) = _
    rw [hnew]
    simp only [Result.andThen_ok, hmk, Sem.run_pure]
   simp only [convert, Sem.run_bind, run_underlying hds, run_underlying hdd, run_underlying hde, Result.andThen_ok]
   exact this
  ·simp only [RepV]
   exact ⟨some ⟨E.w.heap.size, 0, none⟩, cap, by rw [length_bytesOf], by rw [length_bytesOf]; exact hcap, (nofun), .inr ⟨_, cells, e, (cap, cap + 1), alloc_ρ_same _ _ _, rfl, Go.heap_alloc_new _ _, by omega⟩⟩
 ·rename_i X hdk hn1 hn2
  split at h
  case h_2 => exact h.elim
  rename_i e hsk
  split at h
  case h_2 => exact h.elim
  rename_i k b1 b2 b3 b4 he
  cases hkk : kEq k .u8 with
  | false => rw [hkk] at h; exact h.elim
  | true =>
  rw [hkk] at h
  simp only [cond_true] at h
  obtain rfl := kEq_eq hkk
  rw [hdk] at hdo
  have ho' : dd = .string := hdo
  subst ho'
  rw [hsk] at hso
  have hs' : ds = .slice e := hso
  subst hs'
  obtain ⟨de, hde, heo, _⟩ := (hT e _ he).und
  have he' : de = .int .u8 := heo
  subst he'
  obtain ⟨n, src', ⟨xs, ⟨rfl, hb⟩, hk⟩, hS⟩ := srcP_sound (P := P) hr hx h
  obtain ⟨vs, h1, h2⟩ := hS.cells E.w.drawn
  have h1' : (Builtin.firstCells 1 n v).run P E.w = .ok vs E.w := h1
  have h3 := repL_ints _ _ h2
  have hvs : vs = (xs.map (Value.int .u8)).toArray := by rw [← h3]
  subst hvs
  have hlen := hS.len E.w
  refine ⟨_, _, _, E, .string (xs.foldl (fun r n => r.push (UInt8.ofNat n.toNat)) ByteArray.empty), hk, ?_, After.pure hr ?_⟩
  ·have hsl : ∃ a cap, v = .slice a n cap := by
    cases v <;> simp [Builtin.lenOf, stuck] at hlen
    case slice a m c => exact ⟨a, c, by rw [hlen]⟩
    case string s =>
     exfalso
     unfold srcP at h
     split at h
     ·simp only [RepV] at hx; cases hx
     ·simp only [RepV] at hx; obtain ⟨_, _, hx, _⟩ := hx; cases hx
     ·simp only [RepV] at hx; obtain ⟨_, _, hx, _⟩ := hx; cases hx
     ·first | exact hn1 _ rfl | exact hn2 _ rfl | exact hn1 _ _ rfl | exact hn2 _ _ rfl
     ·exact h
   obtain ⟨a, cap, rfl⟩ := hsl
   cases a with
   | none =>
    have hxs : xs = [] := by
     simp [Builtin.firstCells] at h1'
     exact h1'
    subst hxs
    simp [convert, run_underlying hds, run_underlying hdd, run_underlying hde, Conv.bytesToString]
   | some a =>
    simp only [Builtin.firstCells, Nat.mul_one] at h1'
    simp only [convert, Sem.run_bind, run_underlying hds, run_underlying hdd, run_underlying hde, Result.andThen_ok]
    exact run_bytesToString E.w a n cap xs h1'
  ·simp only [RepV]
   exact ⟨_, rfl, by rw [bytes_push xs hb]; rfl⟩
 ·exact h.elim
end
section

mutual
def pureV : AV → Bool
 | .sl _ _ _ _ _ | .ptr _ _ | .own _ _ _ | .ref _ => false
 | .agg cs | .tuple cs | .ro _ cs | .rop cs | .fn _ cs => pureL cs
 | _ => true
def pureL : List AV → Bool
 | [] => true
 | c :: cs => pureV c && pureL cs
end
mutual
def noRoV : AV → Bool
 | .ro _ cs => match cs with
  | [] => true
  | _ :: _ => false
 | .rop cs => match cs with
  | [] => true
  | _ :: _ => false
 | .agg cs | .tuple cs | .own _ _ cs | .ref cs | .fn _ cs => noRoL cs
 | _ => true
def noRoL : List AV → Bool
 | [] => true
 | c :: cs => noRoV c && noRoL cs
end
structure SameMem (E E' : Env) : Prop where
 η : E'.η = E.η
 w : E'.w = E.w
mutual
theorem pureV_rep {E E' : Env} (h : SameMem E E') (hV : ∀ b, E'.V b → E.V b) : ∀ (x : AV) (v : Value), pureV x = true → RepV E x v → RepV E' x v
 | .top, _, _, _ => by simp [RepV]
 | .int k n, v, _, h' => by simpa [RepV] using h'
 | .bool b, v, _, h' => by simpa [RepV] using h'
 | .anyb, v, _, h' => by simpa [RepV] using h'
 | .str s, v, _, h' => by simpa [RepV] using h'
 | .agg cs, v, hp, h' => by
  simp only [RepV] at h' ⊢
  obtain ⟨vs, rfl, hl⟩ := h'
  exact ⟨vs, rfl, pureL_rep h hV cs _ (by simpa [pureV] using hp) hl⟩
 | .tuple cs, v, hp, h' => by
  simp only [RepV] at h' ⊢
  obtain ⟨vs, rfl, hl⟩ := h'
  exact ⟨vs, rfl, pureL_rep h hV cs _ (by simpa [pureV] using hp) hl⟩
 | .nil, v, _, h' => by simpa [RepV] using h'
 | .ro len cs, v, hp, h' => by
  simp only [RepV] at h' ⊢
  obtain ⟨a, cap, rfl, hl, hc⟩ := h'
  refine ⟨a, cap, rfl, hl, hc.imp (fun x => x) ?_⟩
  rintro ⟨b, off, rfl, hb, hm⟩
  exact ⟨b, off, rfl, fun hh => hb (hV b hh), pureM_rep h hV cs b off (by simpa [pureV] using hp) hm⟩
 | .own _ _ _, _, hp, _ => by simp [pureV] at hp
 | .ref _, _, hp, _ => by simp [pureV] at hp
 | .sl _ _ _ _ _, _, hp, _ => by simp [pureV] at hp
 | .ptr _ _, _, hp, _ => by simp [pureV] at hp
 | .rop cs, v, hp, h' => by
  simp only [RepV] at h' ⊢
  obtain ⟨b, off, rfl, hc⟩ := h'
  refine ⟨b, off, rfl, hc.imp (fun x => x) ?_⟩
  rintro ⟨hb, hm⟩
  exact ⟨fun hh => hb (hV b hh), pureM_rep h hV cs b off (by simpa [pureV] using hp) hm⟩
 | .nilp, v, _, h' => by simpa [RepV] using h'
 | .hid i, v, _, h' => by simpa [RepV, h.η] using h'
 | .fn f cs, v, hp, h' => by
  simp only [RepV] at h' ⊢
  obtain ⟨vs, rfl, hl⟩ := h'
  exact ⟨vs, rfl, pureL_rep h hV cs _ (by simpa [pureV] using hp) hl⟩
theorem pureL_rep {E E' : Env} (h : SameMem E E') (hV : ∀ b, E'.V b → E.V b) : ∀ (cs : List AV) (vs : List Value), pureL cs = true → RepL E cs vs → RepL E' cs vs
 | [], vs, _, h' => by simpa [RepL] using h'
 | c :: cs, vs, hp, h' => by
  simp only [pureL, Bool.and_eq_true] at hp
  simp only [RepL] at h' ⊢
  obtain ⟨u, us, rfl, h1, h2⟩ := h'
  exact ⟨u, us, rfl, pureV_rep h hV c u hp.1 h1, pureL_rep h hV cs us hp.2 h2⟩
theorem pureM_rep {E E' : Env} (h : SameMem E E') (hV : ∀ b, E'.V b → E.V b) : ∀ (cs : List AV) (b off : Nat), pureL cs = true → RepM E cs b off → RepM E' cs b off
 | [], _, _, _, _ => by simp [RepM]
 | c :: cs, b, off, hp, h' => by
  simp only [pureL, Bool.and_eq_true] at hp
  simp only [RepM] at h' ⊢
  obtain ⟨⟨u, hu, hr⟩, h2⟩ := h'
  exact ⟨⟨u, by rw [h.w]; exact hu, pureV_rep h hV c u hp.1 hr⟩, pureM_rep h hV cs b (off + 1) hp.2 h2⟩
end
mutual
theorem noRoV_rep {E E' : Env} (h : SameMem E E') (hρ : E'.ρ = E.ρ) : ∀ (x : AV) (v : Value), noRoV x = true → RepV E x v → RepV E' x v
 | .top, _, _, _ => by simp [RepV]
 | .int k n, v, _, h' => by simpa [RepV] using h'
 | .bool b, v, _, h' => by simpa [RepV] using h'
 | .anyb, v, _, h' => by simpa [RepV] using h'
 | .str s, v, _, h' => by simpa [RepV] using h'
 | .agg cs, v, hp, h' => by
  simp only [RepV] at h' ⊢
  obtain ⟨vs, rfl, hl⟩ := h'
  exact ⟨vs, rfl, noRoL_rep h hρ cs _ (by simpa [noRoV] using hp) hl⟩
 | .tuple cs, v, hp, h' => by
  simp only [RepV] at h' ⊢
  obtain ⟨vs, rfl, hl⟩ := h'
  exact ⟨vs, rfl, noRoL_rep h hρ cs _ (by simpa [noRoV] using hp) hl⟩
 | .nil, v, _, h' => by simpa [RepV] using h'
 | .ro len [], v, hp, h' => by
  simp only [RepV] at h' ⊢
  obtain ⟨a, cap, rfl, hl, hc⟩ := h'
  exact ⟨a, cap, rfl, hl, .inl trivial⟩
 | .ro len (_ :: _), v, hp, h' => by simp [noRoV] at hp
 | .own _ _ _, _, _, h' => by simp [RepV] at h'
 | .ref _, _, _, h' => by simp [RepV] at h'
 | .sl id off len esz full, v, hp, h' => by
  simp only [RepV] at h' ⊢
  rw [hρ, h.w]; exact h'
 | .ptr id off, v, hp, h' => by
  simp only [RepV] at h' ⊢
  rw [hρ]; exact h'
 | .rop [], v, hp, h' => by
  simp only [RepV] at h' ⊢
  obtain ⟨b, off, rfl, hc⟩ := h'
  exact ⟨b, off, rfl, .inl trivial⟩
 | .rop (_ :: _), v, hp, h' => by simp [noRoV] at hp
 | .nilp, v, _, h' => by simpa [RepV] using h'
 | .hid i, v, _, h' => by simpa [RepV, h.η] using h'
 | .fn f cs, v, hp, h' => by
  simp only [RepV] at h' ⊢
  obtain ⟨vs, rfl, hl⟩ := h'
  exact ⟨vs, rfl, noRoL_rep h hρ cs _ (by simpa [noRoV] using hp) hl⟩
theorem noRoL_rep {E E' : Env} (h : SameMem E E') (hρ : E'.ρ = E.ρ) : ∀ (cs : List AV) (vs : List Value), noRoL cs = true → RepL E cs vs → RepL E' cs vs
 | [], vs, _, h' => by simpa [RepL] using h'
 | c :: cs, vs, hp, h' => by
  simp only [noRoL, Bool.and_eq_true] at hp
  simp only [RepL] at h' ⊢
  obtain ⟨u, us, rfl, h1, h2⟩ := h'
  exact ⟨u, us, rfl, noRoV_rep h hρ c u hp.1 h1, noRoL_rep h hρ cs us hp.2 h2⟩
end
mutual
def RepB (E : Env) : AV → Value → List Nat → Prop
 | .own len esz cs, v, X => pureL cs = true ∧ ∃ a cap, v = .slice a len cap ∧ len ≤ cap ∧ ((cap = 0 ∧ cs = [] ∧ X.length ≤ 1) ∨
   ∃ n c e fr, a = some ⟨n, 0, none⟩ ∧ X = [n] ∧ E.w.heap[n]? = some (.cells c e fr) ∧ cap * esz ≤ c.size ∧ (∀ j, j < c.size → ¬ (fr.1 ≤ j ∧ j < fr.2)) ∧ cs.length ≤ c.size ∧
    RepL E cs (c.toList.take cs.length))
 | .ref cs, v, X => ∃ n Y c e fr, v = .pointer (some ⟨n, 0, none⟩) ∧ X = Y ++ [n] ∧ E.w.heap[n]? = some (.cells c e fr) ∧ (∀ j, j < c.size → ¬ (fr.1 ≤ j ∧ j < fr.2)) ∧ cs.length ≤ c.size ∧
   RepBL E cs (c.toList.take cs.length) Y
 | .agg cs, v, X => ∃ vs : Array Value, v = .agg vs ∧ RepBL E cs vs.toList X
 | .tuple cs, v, X => ∃ vs : Array Value, v = .tuple vs ∧ RepBL E cs vs.toList X
 | x, v, X => pureV x = true ∧ RepV E x v ∧ X = []
def RepBL (E : Env) : List AV → List Value → List Nat → Prop
 | [], vs, X => vs = [] ∧ X = []
 | c :: cs, vs, X => ∃ u us Y Y', vs = u :: us ∧ X = Y ++ Y' ∧ RepB E c u Y ∧ RepBL E cs us Y'
end
mutual
def matV : AV → Heap × Nat → AV × (Heap × Nat)
 | .own len esz cs, (H, nx) => (.sl nx 0 len esz false, (setH H nx (some cs), nx + 1))
 | .ref cs, s => match matL cs s with
  | (cs', (H, nx)) => (.ptr nx 0, (setH H nx (some cs'), nx + 1))
 | .agg cs, s => match matL cs s with
  | (cs', s') => (.agg cs', s')
 | .tuple cs, s => match matL cs s with
  | (cs', s') => (.tuple cs', s')
 | x, s => (x, s)
def matL : List AV → Heap × Nat → List AV × (Heap × Nat)
 | [], s => ([], s)
 | c :: cs, s => match matV c s with
  | (c', s') => match matL cs s' with
   | (cs', s'') => (c' :: cs', s'')
end
theorem HeapRep.adopt {Z : Nat → Prop} {E : Env} {H : Heap} {nx n : Nat} {cs : List AV} (h : HeapRep Z E H nx) (hn : Z n) (hb : BlkOk E n cs) :
  ∃ E', E'.w = E.w ∧ E'.η = E.η ∧ (∀ b, E'.V b ↔ E.V b) ∧ (∀ i, i ≠ nx → E'.ρ i = E.ρ i) ∧ E'.ρ nx = some n ∧ HeapRep (fun b => Z b ∧ b ≠ n) E' (setH H nx (some cs)) (nx + 1) := by
 have hnx := h.fresh nx (Nat.le_refl _)
 let E' : Env := { E with ρ := fun i => cond (Nat.beq i nx) (some n) (E.ρ i) }
 have r1 : E'.ρ nx = some n := by simp [E']
 have r2 : ∀ i, i ≠ nx → E'.ρ i = E.ρ i := fun i hi => by
  have : Nat.beq i nx = false := by
   cases hh : Nat.beq i nx
   ·rfl
   ·exact absurd (Nat.eq_of_beq_eq_true hh) hi
  simp [E', this]
 have L : Later E E' := by
  refine ⟨rfl, fun i m hm => ?_, Nat.le_refl _, fun _ c _ fr hh => ⟨c, fr, hh, rfl⟩, fun _ _ _ => rfl, fun _ _ hh => hh⟩
  have : i ≠ nx := fun e => by rw [e, hnx.1] at hm; cases hm
  rw [r2 i this]; exact hm
 have hwr : ∀ b, Wr E'.ρ (setH H nx (some cs)) b ↔ Wr E.ρ H b ∨ b = n := by
  intro b
  constructor
  ·rintro ⟨i, es, h1, h2⟩
   by_cases hi : i = nx
   ·subst hi; rw [r1] at h2; injection h2 with h2; exact .inr h2.symm
   ·rw [setH_ne _ _ hi] at h1; rw [r2 i hi] at h2; exact .inl ⟨i, es, h1, h2⟩
  ·rintro (⟨i, es, h1, h2⟩ | rfl)
   ·have hi : i ≠ nx := fun e => by rw [e, hnx.2] at h1; cases h1
    exact ⟨i, es, by rw [setH_ne _ _ hi]; exact h1, by rw [r2 i hi]; exact h2⟩
   ·exact ⟨nx, cs, setH_same _ _ _, r1⟩
 refine ⟨E', rfl, rfl, fun b => Iff.rfl, r2, r1, ⟨fun i es hh => ?_, fun i i' m h1 h2 h3 h4 => ?_, fun b => ?_, fun i m h1 h2 hz => ?_, fun i hh => ?_, h.one, fun i m hm => ?_, fun b hb => h.zold b hb.1, h.tab.later L⟩⟩
 ·by_cases hi : i = nx
  ·subst hi
   rw [setH_same] at hh
   injection hh with hh
   subst hh
   refine .inr ⟨n, r1, ?_⟩
   obtain ⟨c, e, fr, k1, k2, k3, k4⟩ := hb
   exact ⟨c, e, fr, k1, k2, k3, fun j x hx => let ⟨u, hu, hr⟩ := k4 j x hx; ⟨u, hu, RepV.later L x u hr⟩⟩
  ·rw [setH_ne _ _ hi] at hh
   rw [r2 i hi]
   rcases h.blk i es hh with h0 | ⟨m, hm, hb'⟩
   ·exact .inl h0
   ·exact .inr ⟨m, hm, h.blk_later L hm hb' rfl⟩
 ·by_cases hi : i = nx <;> by_cases hi' : i' = nx
  ·rw [hi, hi']
  ·subst hi
   rw [r1] at h3; injection h3 with h3; subst h3
   rw [setH_ne _ _ hi'] at h2
   rw [r2 i' hi'] at h4
   exact absurd hn (h.apart i' n h2 h4)
  ·subst hi'
   rw [r1] at h4; injection h4 with h4; subst h4
   rw [setH_ne _ _ hi] at h1
   rw [r2 i hi] at h3
   exact absurd hn (h.apart i n h1 h3)
  ·rw [setH_ne _ _ hi] at h1
   rw [setH_ne _ _ hi'] at h2
   rw [r2 i hi] at h3
   rw [r2 i' hi'] at h4
   exact h.inj i i' m h1 h2 h3 h4
 ·show E.V b ↔ _
  rw [hwr, h.V b]
  constructor
  ·rintro (hz | hw)
   ·by_cases hbn : b = n
    ·exact .inr (.inr hbn)
    ·exact .inl ⟨hz, hbn⟩
   ·exact .inr (.inl hw)
  ·rintro (⟨hz, _⟩ | hw | rfl)
   ·exact .inl hz
   ·exact .inr hw
   ·exact .inl hn
 ·by_cases hi : i = nx
  ·subst hi; rw [r1] at h2; injection h2 with h2; exact hz.2 h2.symm
  ·rw [setH_ne _ _ hi] at h1; rw [r2 i hi] at h2; exact h.apart i m h1 h2 hz.1
 ·have hi : i ≠ nx := by omega
  rw [setH_ne _ _ hi, r2 i hi]; exact h.fresh i (by omega)
 ·by_cases hi : i = nx
  ·subst hi; rw [r1] at hm; injection hm with hm; subst hm; exact h.zold _ hn
  ·rw [r2 i hi] at hm; exact h.old i m hm
theorem HeapRep.release {Z : Nat → Prop} {E : Env} {H : Heap} {nx id n : Nat} (h : HeapRep Z E H nx) (hi : H id ≠ none) (hn : E.ρ id = some n) :
  HeapRep (fun b => Z b ∨ b = n) E (setH H id none) nx := by
 have hne : ∀ i, setH H id none i ≠ none → H i ≠ none ∧ i ≠ id := fun i hi => by
  by_cases he : i = id
  ·subst he; rw [setH_same] at hi; exact absurd rfl hi
  ·rw [setH_ne _ _ he] at hi; exact ⟨hi, he⟩
 refine ⟨fun i es hh => ?_, fun i i' m h1 h2 h3 h4 => h.inj i i' m (hne i h1).1 (hne i' h2).1 h3 h4, fun b => ?_, fun i m h1 h2 hz => ?_, fun i hh => ?_, h.one, h.old, fun b hb => ?_, h.tab⟩
 ·by_cases he : i = id
  ·subst he; rw [setH_same] at hh; cases hh
  ·rw [setH_ne _ _ he] at hh; exact h.blk i es hh
 ·rw [h.V b]
  constructor
  ·rintro (hz | ⟨i, es, h1, h2⟩)
   ·exact .inl (.inl hz)
   ·by_cases he : i = id
    ·subst he; rw [hn] at h2; injection h2 with h2; exact .inl (.inr h2.symm)
    ·exact .inr ⟨i, es, by rw [setH_ne _ _ he]; exact h1, h2⟩
  ·rintro ((hz | rfl) | ⟨i, es, h1, h2⟩)
   ·exact .inl hz
   ·cases hh : H id with
    | none => exact absurd hh hi
    | some es => exact .inr ⟨id, es, hh, hn⟩
   ·by_cases he : i = id
    ·subst he; rw [setH_same] at h1; cases h1
    ·rw [setH_ne _ _ he] at h1; exact .inr ⟨i, es, h1, h2⟩
 ·obtain ⟨k1, k2⟩ := hne i h1
  rcases hz with hz | rfl
  ·exact h.apart i m k1 h2 hz
  ·exact k2 (h.inj i id m k1 hi h2 hn)
 ·by_cases he : i = id
  ·subst he; exact ⟨(h.fresh i hh).1, setH_same _ _ _⟩
  ·rw [setH_ne _ _ he]; exact h.fresh i hh
 ·rcases hb with hz | rfl
  ·exact h.zold b hz
  ·exact h.old id b hn
theorem HeapRep.release0 {Z : Nat → Prop} {E : Env} {H : Heap} {nx id : Nat} (h : HeapRep Z E H nx) (hn : E.ρ id = none) : HeapRep Z E (setH H id none) nx := by
 have hne : ∀ i, setH H id none i ≠ none → H i ≠ none ∧ i ≠ id := fun i hi => by
  by_cases he : i = id
  ·subst he; rw [setH_same] at hi; exact absurd rfl hi
  ·rw [setH_ne _ _ he] at hi; exact ⟨hi, he⟩
 refine ⟨fun i es hh => ?_, fun i i' m h1 h2 h3 h4 => h.inj i i' m (hne i h1).1 (hne i' h2).1 h3 h4, fun b => ?_, fun i m h1 h2 hz => h.apart i m (hne i h1).1 h2 hz, fun i hh => ?_, h.one, h.old, h.zold, h.tab⟩
 ·by_cases he : i = id
  ·subst he; rw [setH_same] at hh; cases hh
  ·rw [setH_ne _ _ he] at hh; exact h.blk i es hh
 ·rw [h.V b]
  constructor
  ·rintro (hz | ⟨i, es, h1, h2⟩)
   ·exact .inl hz
   ·have he : i ≠ id := fun e => by rw [e, hn] at h2; cases h2
    exact .inr ⟨i, es, by rw [setH_ne _ _ he]; exact h1, h2⟩
  ·rintro (hz | ⟨i, es, h1, h2⟩)
   ·exact .inl hz
   ·have he : i ≠ id := fun e => by rw [e, hn] at h2; cases h2
    rw [setH_ne _ _ he] at h1
    exact .inr ⟨i, es, h1, h2⟩
 ·by_cases he : i = id
  ·subst he; exact ⟨(h.fresh i hh).1, setH_same _ _ _⟩
  ·rw [setH_ne _ _ he]; exact h.fresh i hh
end
section

theorem SameMem.later {E E' : Env} (h : SameMem E E') (hρ : ∀ id n, E.ρ id = some n → E'.ρ id = some n) (hV : ∀ b, E'.V b → E.V b) : Later E E' :=
 ⟨h.η, hρ, by rw [h.w]; exact Nat.le_refl _, fun b c e fr hh => ⟨c, _, by rw [h.w]; exact hh, rfl⟩, fun b _ _ => by rw [h.w], fun b _ hb => hV b hb⟩
mutual
theorem RepB.mono {E E' : Env} (h : SameMem E E') (hV : ∀ b, E'.V b → E.V b) : ∀ (y : AV) (v : Value) (X : List Nat), RepB E y v X → RepB E' y v X
 | .own len esz cs, v, X, hb => by
  simp only [RepB] at hb ⊢
  obtain ⟨hp, a, cap, rfl, hl, hc⟩ := hb
  refine ⟨hp, a, cap, rfl, hl, hc.imp (fun x => x) ?_⟩
  rintro ⟨n, c, e, fr, rfl, rfl, k1, k2, k3, k4, k5⟩
  exact ⟨n, c, e, fr, rfl, rfl, by rw [h.w]; exact k1, k2, k3, k4, pureL_rep h hV _ _ hp k5⟩
 | .ref cs, v, X, hb => by
  simp only [RepB] at hb ⊢
  obtain ⟨n, Y, c, e, fr, rfl, rfl, k1, k2, k3, k4⟩ := hb
  exact ⟨n, Y, c, e, fr, rfl, rfl, by rw [h.w]; exact k1, k2, k3, RepBL.mono h hV cs _ Y k4⟩
 | .agg cs, v, X, hb => by
  simp only [RepB] at hb ⊢
  obtain ⟨vs, rfl, hl⟩ := hb
  exact ⟨vs, rfl, RepBL.mono h hV cs _ X hl⟩
 | .tuple cs, v, X, hb => by
  simp only [RepB] at hb ⊢
  obtain ⟨vs, rfl, hl⟩ := hb
  exact ⟨vs, rfl, RepBL.mono h hV cs _ X hl⟩
 | .top, v, X, hb => by simp only [RepB] at hb ⊢; exact ⟨hb.1, pureV_rep h hV _ v hb.1 hb.2.1, hb.2.2⟩
 | .int k n, v, X, hb => by simp only [RepB] at hb ⊢; exact ⟨hb.1, pureV_rep h hV _ v hb.1 hb.2.1, hb.2.2⟩
 | .bool b, v, X, hb => by simp only [RepB] at hb ⊢; exact ⟨hb.1, pureV_rep h hV _ v hb.1 hb.2.1, hb.2.2⟩
 | .anyb, v, X, hb => by simp only [RepB] at hb ⊢; exact ⟨hb.1, pureV_rep h hV _ v hb.1 hb.2.1, hb.2.2⟩
 | .str s, v, X, hb => by simp only [RepB] at hb ⊢; exact ⟨hb.1, pureV_rep h hV _ v hb.1 hb.2.1, hb.2.2⟩
 | .nil, v, X, hb => by simp only [RepB] at hb ⊢; exact ⟨hb.1, pureV_rep h hV _ v hb.1 hb.2.1, hb.2.2⟩
 | .ro len cs, v, X, hb => by simp only [RepB] at hb ⊢; exact ⟨hb.1, pureV_rep h hV _ v hb.1 hb.2.1, hb.2.2⟩
 | .sl _ _ _ _ _, v, X, hb => by simp only [RepB] at hb ⊢; exact ⟨hb.1, pureV_rep h hV _ v hb.1 hb.2.1, hb.2.2⟩
 | .ptr _ _, v, X, hb => by simp only [RepB] at hb ⊢; exact ⟨hb.1, pureV_rep h hV _ v hb.1 hb.2.1, hb.2.2⟩
 | .rop cs, v, X, hb => by simp only [RepB] at hb ⊢; exact ⟨hb.1, pureV_rep h hV _ v hb.1 hb.2.1, hb.2.2⟩
 | .nilp, v, X, hb => by simp only [RepB] at hb ⊢; exact ⟨hb.1, pureV_rep h hV _ v hb.1 hb.2.1, hb.2.2⟩
 | .hid i, v, X, hb => by simp only [RepB] at hb ⊢; exact ⟨hb.1, pureV_rep h hV _ v hb.1 hb.2.1, hb.2.2⟩
 | .fn f cs, v, X, hb => by simp only [RepB] at hb ⊢; exact ⟨hb.1, pureV_rep h hV _ v hb.1 hb.2.1, hb.2.2⟩
theorem RepBL.mono {E E' : Env} (h : SameMem E E') (hV : ∀ b, E'.V b → E.V b) : ∀ (cs : List AV) (vs : List Value) (X : List Nat), RepBL E cs vs X → RepBL E' cs vs X
 | [], vs, X, hb => by simpa [RepBL] using hb
 | c :: cs, vs, X, hb => by
  simp only [RepBL] at hb ⊢
  obtain ⟨u, us, Y, Y', rfl, rfl, h1, h2⟩ := hb
  exact ⟨u, us, Y, Y', rfl, rfl, RepB.mono h hV c u Y h1, RepBL.mono h hV cs us Y' h2⟩
end
structure Taken (Z : Nat → Prop) (E : Env) (H : Heap) (nx : Nat) (X : List Nat) (E' : Env) (H' : Heap) (nx' : Nat) : Prop where
 mem : SameMem E E'
 V : ∀ b, E'.V b → E.V b
 ρ : ∀ i, i < nx → E'.ρ i = E.ρ i
 H : ∀ i, i < nx → H' i = H i
 nx : nx ≤ nx'
 heap : HeapRep (fun b => Z b ∧ b ∉ X) E' H' nx'
theorem Taken.later {Z : Nat → Prop} {E : Env} {H : Heap} {nx : Nat} {X : List Nat} {E' : Env} {H' : Heap} {nx' : Nat} (h : HeapRep Z E H nx) (t : Taken Z E H nx X E' H' nx') : Later E E' :=
 t.mem.later (fun id n hn => by
  rcases Nat.lt_or_ge id nx with hi | hi
  ·rw [t.ρ id hi]; exact hn
  ·rw [(h.fresh id hi).1] at hn; cases hn) t.V
theorem HeapRep.congrZ {Z Z' : Nat → Prop} {E : Env} {H : Heap} {nx : Nat} (h : HeapRep Z E H nx) (hz : ∀ b, Z b ↔ Z' b) : HeapRep Z' E H nx := by
 have : Z = Z' := funext fun b => propext (hz b)
 subst this
 exact h
theorem HeapRep.weakZ {Z Z' : Nat → Prop} {E : Env} {H : Heap} {nx : Nat} (h : HeapRep Z E H nx) (hz : ∀ b, Z' b → Z b) :
  ∃ E', E'.w = E.w ∧ E'.ρ = E.ρ ∧ E'.η = E.η ∧ (∀ b, E'.V b → E.V b) ∧ HeapRep Z' E' H nx := by
 let E' : Env := { E with V := fun b => Z' b ∨ Wr E.ρ H b }
 have hV : ∀ b, E'.V b → E.V b := fun b hb => (h.V b).2 (hb.imp (hz b) (fun x => x))
 have L : Later E E' := ⟨rfl, fun _ _ h => h, Nat.le_refl _, fun _ c _ fr hh => ⟨c, fr, hh, rfl⟩, fun _ _ _ => rfl, fun b _ hb => hV b hb⟩
 refine ⟨E', rfl, rfl, rfl, hV, ⟨fun i es hh => ?_, h.inj, fun b => Iff.rfl, fun i n h1 h2 hzz => h.apart i n h1 h2 (hz n hzz), h.fresh, h.one, h.old, fun b hb => h.zold b (hz b hb), h.tab.later L⟩⟩
 rcases h.blk i es hh with h0 | ⟨m, hm, hb⟩
 ·exact .inl h0
 ·exact .inr ⟨m, hm, h.blk_later L hm hb rfl⟩
theorem Taken.none {Z : Nat → Prop} {E : Env} {H : Heap} {nx : Nat} (h : HeapRep Z E H nx) : Taken Z E H nx [] E H nx :=
 ⟨⟨rfl, rfl⟩, fun _ h => h, fun _ _ => rfl, fun _ _ => rfl, Nat.le_refl _, h.congrZ fun b => by simp⟩
theorem Taken.trans {Z : Nat → Prop} {E E1 E2 : Env} {H H1 H2 : Heap} {nx nx1 nx2 : Nat} {X Y : List Nat} (a : Taken Z E H nx X E1 H1 nx1)
  (b : Taken (fun b => Z b ∧ b ∉ X) E1 H1 nx1 Y E2 H2 nx2) : Taken Z E H nx (X ++ Y) E2 H2 nx2 where
 mem := ⟨b.mem.η.trans a.mem.η, b.mem.w.trans a.mem.w⟩
 V := fun x hx => a.V x (b.V x hx)
 ρ := fun i hi => (b.ρ i (Nat.lt_of_lt_of_le hi a.nx)).trans (a.ρ i hi)
 H := fun i hi => (b.H i (Nat.lt_of_lt_of_le hi a.nx)).trans (a.H i hi)
 nx := Nat.le_trans a.nx b.nx
 heap := b.heap.congrZ fun x => by simp [and_assoc]
theorem pure_taken {Z : Nat → Prop} {E : Env} {H : Heap} {nx : Nat} {y : AV} {v : Value} {X : List Nat} (h : HeapRep Z E H nx) (hb : pureV y = true ∧ RepV E y v ∧ X = []) :
  ∃ E', Taken Z E H nx X E' H nx ∧ RepV E' y v := by
 obtain ⟨_, hr, rfl⟩ := hb
 exact ⟨E, Taken.none h, hr⟩
mutual
theorem matV_ok : ∀ (y : AV) (v : Value) (X : List Nat) (Z : Nat → Prop) (E : Env) (H : Heap) (nx : Nat), HeapRep Z E H nx → RepB E y v X → X.Nodup → (∀ b ∈ X, Z b) →
  ∃ E', Taken Z E H nx X E' (matV y (H, nx)).2.1 (matV y (H, nx)).2.2 ∧ RepV E' (matV y (H, nx)).1 v
 | .own len esz cs, v, X, Z, E, H, nx, h, hb, hnd, hz => by
  simp only [RepB] at hb
  obtain ⟨hp, a, cap, rfl, hl, hc⟩ := hb
  simp only [matV]
  rcases hc with ⟨rfl, rfl, _⟩ | ⟨n, c, e, fr, rfl, rfl, k1, k2, k3, k4, k5⟩
  ·obtain ⟨E1, e1, e2, e3, e4, e5⟩ := h.empty.weakZ (Z' := fun b => Z b ∧ b ∉ X) (fun b hb => hb.1)
   refine ⟨E1, ⟨⟨e3, e1⟩, e4, fun i _ => by rw [e2], fun i hi => setH_ne _ _ (by omega), by omega, e5⟩, ?_⟩
   simp only [RepV]
   exact ⟨a, 0, rfl, hl, (nofun), .inl rfl⟩
  ·have hblk : BlkOk E n cs := ⟨c, e, fr, k1, k3, k4, fun j x hx => by
    have hj : j < cs.length := by
     rcases Nat.lt_or_ge j cs.length with h' | h'
     ·exact h'
     ·rw [List.getElem?_eq_none h'] at hx; cases hx
    obtain ⟨u, hu, hr⟩ := repL_get _ _ k5 j x hx
    rw [List.getElem?_take_of_lt hj] at hu
    exact ⟨u, by simpa using hu, hr⟩⟩
   obtain ⟨E', e1, e2, e3, e4, e5, e6⟩ := h.adopt (hz n (by simp)) hblk
   refine ⟨E', ⟨⟨e2, e1⟩, fun b hb => (e3 b).1 hb, fun i hi => e4 i (by omega), fun i hi => setH_ne _ _ (by omega), by omega, e6.congrZ fun b => by simp⟩, ?_⟩
   simp only [RepV]
   exact ⟨_, cap, rfl, hl, (nofun), .inr ⟨n, c, e, fr, e5, rfl, by rw [e1]; exact k1, by omega⟩⟩
 | .ref cs, v, X, Z, E, H, nx, h, hb, hnd, hz => by
  simp only [RepB] at hb
  obtain ⟨n, Y, c, e, fr, rfl, rfl, k1, k2, k3, k4⟩ := hb
  obtain ⟨hy1, hy2, hy3⟩ := List.nodup_append.1 hnd
  obtain ⟨E1, t1, r1⟩ := matL_ok cs _ Y Z E H nx h k4 hy1 (fun b hb => hz b (by simp [hb]))
  simp only [matV]
  have hlen : (matL cs (H, nx)).1.length = (c.toList.take cs.length).length := repL_length _ _ r1
  have hblk : BlkOk E1 n (matL cs (H, nx)).1 := ⟨c, e, fr, by rw [t1.mem.w]; exact k1, k2, by rw [hlen]; simp; omega, fun j x hx => by
   obtain ⟨u, hu, hr⟩ := repL_get _ _ r1 j x hx
   have hj : j < cs.length := by
    rcases Nat.lt_or_ge j (c.toList.take cs.length).length with h' | h'
    ·simp at h'; omega
    ·rw [List.getElem?_eq_none h'] at hu; cases hu
   rw [List.getElem?_take_of_lt hj] at hu
   exact ⟨u, by simpa using hu, hr⟩⟩
  obtain ⟨E', e1, e2, e3, e4, e5, e6⟩ := t1.heap.adopt ⟨hz n (by simp), fun hn => hy3 n hn n (by simp) rfl⟩ hblk
  have t2 : Taken (fun b => Z b ∧ b ∉ Y) E1 (matL cs (H, nx)).2.1 (matL cs (H, nx)).2.2 [n] E' (setH (matL cs (H, nx)).2.1 (matL cs (H, nx)).2.2 (some (matL cs (H, nx)).1)) ((matL cs (H, nx)).2.2 + 1) :=
   ⟨⟨e2, e1⟩, fun b hb => (e3 b).1 hb, fun i hi => e4 i (by omega), fun i hi => setH_ne _ _ (by omega), by omega, e6.congrZ fun b => by simp⟩
  refine ⟨E', t1.trans t2, ?_⟩
  simp only [RepV]
  exact ⟨n, e5, rfl⟩
 | .agg cs, v, X, Z, E, H, nx, h, hb, hnd, hz => by
  simp only [RepB] at hb
  obtain ⟨vs, rfl, hl⟩ := hb
  obtain ⟨E1, t1, r1⟩ := matL_ok cs _ X Z E H nx h hl hnd hz
  exact ⟨E1, t1, by simp only [matV, RepV]; exact ⟨vs, rfl, r1⟩⟩
 | .tuple cs, v, X, Z, E, H, nx, h, hb, hnd, hz => by
  simp only [RepB] at hb
  obtain ⟨vs, rfl, hl⟩ := hb
  obtain ⟨E1, t1, r1⟩ := matL_ok cs _ X Z E H nx h hl hnd hz
  exact ⟨E1, t1, by simp only [matV, RepV]; exact ⟨vs, rfl, r1⟩⟩
 | .top, v, X, Z, E, H, nx, h, hb, _, _ => by simp only [RepB] at hb; exact pure_taken h hb
 | .int k n, v, X, Z, E, H, nx, h, hb, _, _ => by simp only [RepB] at hb; exact pure_taken h hb
 | .bool b, v, X, Z, E, H, nx, h, hb, _, _ => by simp only [RepB] at hb; exact pure_taken h hb
 | .anyb, v, X, Z, E, H, nx, h, hb, _, _ => by simp only [RepB] at hb; exact pure_taken h hb
 | .str s, v, X, Z, E, H, nx, h, hb, _, _ => by simp only [RepB] at hb; exact pure_taken h hb
 | .nil, v, X, Z, E, H, nx, h, hb, _, _ => by simp only [RepB] at hb; exact pure_taken h hb
 | .ro len cs, v, X, Z, E, H, nx, h, hb, _, _ => by simp only [RepB] at hb; exact pure_taken h hb
 | .sl _ _ _ _ _, v, X, Z, E, H, nx, h, hb, _, _ => by simp only [RepB] at hb; exact pure_taken h hb
 | .ptr _ _, v, X, Z, E, H, nx, h, hb, _, _ => by simp only [RepB] at hb; exact pure_taken h hb
 | .rop cs, v, X, Z, E, H, nx, h, hb, _, _ => by simp only [RepB] at hb; exact pure_taken h hb
 | .nilp, v, X, Z, E, H, nx, h, hb, _, _ => by simp only [RepB] at hb; exact pure_taken h hb
 | .hid i, v, X, Z, E, H, nx, h, hb, _, _ => by simp only [RepB] at hb; exact pure_taken h hb
 | .fn f cs, v, X, Z, E, H, nx, h, hb, _, _ => by simp only [RepB] at hb; exact pure_taken h hb
theorem matL_ok : ∀ (cs : List AV) (vs : List Value) (X : List Nat) (Z : Nat → Prop) (E : Env) (H : Heap) (nx : Nat), HeapRep Z E H nx → RepBL E cs vs X → X.Nodup → (∀ b ∈ X, Z b) →
  ∃ E', Taken Z E H nx X E' (matL cs (H, nx)).2.1 (matL cs (H, nx)).2.2 ∧ RepL E' (matL cs (H, nx)).1 vs
 | [], vs, X, Z, E, H, nx, h, hb, _, _ => by
  simp only [RepBL] at hb
  obtain ⟨rfl, rfl⟩ := hb
  exact ⟨E, Taken.none h, by simp [matL, RepL]⟩
 | c :: cs, vs, X, Z, E, H, nx, h, hb, hnd, hz => by
  simp only [RepBL] at hb
  obtain ⟨u, us, Y, Y', rfl, rfl, h1, h2⟩ := hb
  obtain ⟨hy1, hy2, hy3⟩ := List.nodup_append.1 hnd
  obtain ⟨E1, t1, r1⟩ := matV_ok c u Y Z E H nx h h1 hy1 (fun b hb => hz b (by simp [hb]))
  have h2' := RepBL.mono t1.mem t1.V cs us Y' h2
  obtain ⟨E2, t2, r2⟩ := matL_ok cs us Y' (fun b => Z b ∧ b ∉ Y) E1 (matV c (H, nx)).2.1 (matV c (H, nx)).2.2 t1.heap h2' hy2 (fun b hb => ⟨hz b (by simp [hb]), fun hy => hy3 b hy b hb rfl⟩)
  refine ⟨E2, t1.trans t2, ?_⟩
  simp only [matL, RepL]
  exact ⟨u, us, rfl, RepV.later (Taken.later t1.heap t2) _ _ r1, r2⟩
end
end
section

mutual
def Dem (H : Heap) : AV → AV → List Nat → Prop
 | .own len esz cs, x, ids => pureL cs = true ∧ cs.length = len * esz ∧ ((x = .nil ∧ len = 0 ∧ cs = [] ∧ ids = []) ∨ ∃ id full, x = .sl id 0 len esz full ∧ H id = some cs ∧ ids = [id])
 | .ref cs, x, ids => ∃ id zs is, x = .ptr id 0 ∧ H id = some zs ∧ DemL H cs zs is ∧ ids = is ++ [id]
 | .agg cs, x, ids => ∃ zs, x = .agg zs ∧ DemL H cs zs ids
 | .tuple cs, x, ids => ∃ zs, x = .tuple zs ∧ DemL H cs zs ids
 | .ro len cs, x, ids => (x = .ro len cs ∧ pureL cs = true ∧ ids = []) ∨ (x = .nil ∧ len = 0 ∧ cs = [] ∧ ids = [])
 | y, x, ids => x = y ∧ pureV y = true ∧ ids = []
def DemL (H : Heap) : List AV → List AV → List Nat → Prop
 | [], zs, ids => zs = [] ∧ ids = []
 | c :: cs, zs, ids => ∃ z zs' i i', zs = z :: zs' ∧ ids = i ++ i' ∧ Dem H c z i ∧ DemL H cs zs' i'
end
theorem rep_take {E : Env} {zs : List AV} {c : Array Value} (hl : zs.length ≤ c.size) (h : ∀ (j : Nat) x, zs[j]? = some x → ∃ u, c[j]? = some u ∧ RepV E x u) : RepL E zs (c.toList.take zs.length) :=
 repL_of_get _ _ (by simp; omega) fun j x u hx hu => by
  obtain ⟨u', h1, h2⟩ := h j x hx
  have hj : j < zs.length := by
   rcases Nat.lt_or_ge j zs.length with h' | h'
   ·exact h'
   ·rw [List.getElem?_eq_none h'] at hx; cases hx
  rw [List.getElem?_take_of_lt hj, Array.getElem?_toList, h1] at hu
  injection hu with hu
  rw [← hu]; exact h2
theorem pure_out {E : Env} {ρ : Nat → Option Nat} {x y : AV} {v : Value} {ids : List Nat} (hr : RepV E x v) (h : x = y ∧ pureV y = true ∧ ids = []) : pureV y = true ∧ RepV E y v ∧ ids.filterMap ρ = [] := by
 obtain ⟨rfl, hp, rfl⟩ := h
 exact ⟨hp, hr, rfl⟩
mutual
theorem Dem_ok {Z : Nat → Prop} {E : Env} {H : Heap} {nx : Nat} (h : HeapRep Z E H nx) : ∀ (y x : AV) (v : Value) (ids : List Nat), RepV E x v → Dem H y x ids → RepB E y v (ids.filterMap E.ρ)
 | .own len esz cs, x, v, ids, hr, hd => by
  simp only [Dem] at hd
  obtain ⟨hp, hl, hd⟩ := hd
  simp only [RepB]
  refine ⟨hp, ?_⟩
  rcases hd with ⟨rfl, rfl, rfl, rfl⟩ | ⟨id, full, rfl, hi, rfl⟩
  ·simp only [RepV] at hr
   subst hr
   exact ⟨none, 0, rfl, Nat.le_refl _, .inl ⟨rfl, rfl, by simp⟩⟩
  ·simp only [RepV] at hr
   obtain ⟨a, cap, rfl, hlc, _, hc⟩ := hr
   refine ⟨a, cap, rfl, hlc, ?_⟩
   rcases h.blk id cs hi with ⟨h0, rfl⟩ | ⟨n, hn, c, e, fr, b1, b2, b3, b4⟩
   ·left
    rcases hc with rfl | ⟨n, c, e, fr, hn, _⟩
    ·exact ⟨rfl, rfl, by simp [h0]⟩
    ·rw [h0] at hn; cases hn
   ·rcases hc with rfl | ⟨n', c', e', fr', hn', rfl, hh, hs⟩
    ·left
     have hl0 : len = 0 := by omega
     subst hl0
     exact ⟨rfl, List.length_eq_zero_iff.1 (by rw [hl]; simp), by simp [hn]⟩
    ·right
     obtain rfl : n = n' := by rw [hn] at hn'; injection hn'
     rw [b1] at hh
     injection hh with hh
     injection hh with q1 q2 q3
     subst q1
     exact ⟨n, c, e, fr, rfl, by simp [hn], b1, by omega, b2, b3, rep_take b3 b4⟩
 | .ref cs, x, v, ids, hr, hd => by
  simp only [Dem] at hd
  obtain ⟨id, zs, is, rfl, hi, hd, rfl⟩ := hd
  simp only [RepV] at hr
  obtain ⟨n, hn, rfl⟩ := hr
  rcases h.blk id zs hi with ⟨h0, _⟩ | ⟨n', hn', c, e, fr, b1, b2, b3, b4⟩
  ·rw [hn] at h0; cases h0
  ·obtain rfl : n = n' := by rw [hn] at hn'; injection hn'
   have hlen := DemL_len cs zs is hd
   simp only [RepB]
   refine ⟨n, is.filterMap E.ρ, c, e, fr, rfl, by simp [hn], b1, b2, by rw [hlen]; exact b3, ?_⟩
   rw [hlen]
   exact DemL_ok h cs zs _ is (rep_take b3 b4) hd
 | .agg cs, x, v, ids, hr, hd => by
  simp only [Dem] at hd
  obtain ⟨zs, rfl, hd⟩ := hd
  simp only [RepV] at hr
  obtain ⟨vs, rfl, hr⟩ := hr
  simp only [RepB]
  exact ⟨vs, rfl, DemL_ok h cs zs _ ids hr hd⟩
 | .tuple cs, x, v, ids, hr, hd => by
  simp only [Dem] at hd
  obtain ⟨zs, rfl, hd⟩ := hd
  simp only [RepV] at hr
  obtain ⟨vs, rfl, hr⟩ := hr
  simp only [RepB]
  exact ⟨vs, rfl, DemL_ok h cs zs _ ids hr hd⟩
 | .ro len cs, x, v, ids, hr, hd => by
  simp only [Dem] at hd
  simp only [RepB]
  rcases hd with ⟨rfl, hp, rfl⟩ | ⟨rfl, rfl, rfl, rfl⟩
  ·exact ⟨by simpa [pureV] using hp, hr, rfl⟩
  ·simp only [RepV] at hr
   subst hr
   exact ⟨rfl, by simp only [RepV]; exact ⟨none, 0, rfl, Nat.le_refl _, .inl trivial⟩, rfl⟩
 | .top, x, v, ids, hr, hd => by simp only [Dem] at hd; simp only [RepB]; exact pure_out hr hd
 | .int k n, x, v, ids, hr, hd => by simp only [Dem] at hd; simp only [RepB]; exact pure_out hr hd
 | .bool b, x, v, ids, hr, hd => by simp only [Dem] at hd; simp only [RepB]; exact pure_out hr hd
 | .anyb, x, v, ids, hr, hd => by simp only [Dem] at hd; simp only [RepB]; exact pure_out hr hd
 | .str s, x, v, ids, hr, hd => by simp only [Dem] at hd; simp only [RepB]; exact pure_out hr hd
 | .nil, x, v, ids, hr, hd => by simp only [Dem] at hd; simp only [RepB]; exact pure_out hr hd
 | .sl _ _ _ _ _, x, v, ids, hr, hd => by simp only [Dem] at hd; simp only [RepB]; exact pure_out hr hd
 | .ptr _ _, x, v, ids, hr, hd => by simp only [Dem] at hd; simp only [RepB]; exact pure_out hr hd
 | .rop cs, x, v, ids, hr, hd => by simp only [Dem] at hd; simp only [RepB]; exact pure_out hr hd
 | .nilp, x, v, ids, hr, hd => by simp only [Dem] at hd; simp only [RepB]; exact pure_out hr hd
 | .hid i, x, v, ids, hr, hd => by simp only [Dem] at hd; simp only [RepB]; exact pure_out hr hd
 | .fn f cs, x, v, ids, hr, hd => by simp only [Dem] at hd; simp only [RepB]; exact pure_out hr hd
theorem DemL_len {H : Heap} : ∀ (cs zs : List AV) (ids : List Nat), DemL H cs zs ids → cs.length = zs.length
 | [], zs, ids, hd => by simp only [DemL] at hd; rw [hd.1]
 | c :: cs, zs, ids, hd => by
  simp only [DemL] at hd
  obtain ⟨z, zs', i, i', rfl, rfl, _, h2⟩ := hd
  simp [DemL_len cs zs' i' h2]
theorem DemL_ok {Z : Nat → Prop} {E : Env} {H : Heap} {nx : Nat} (h : HeapRep Z E H nx) : ∀ (cs zs : List AV) (vs : List Value) (ids : List Nat), RepL E zs vs → DemL H cs zs ids → RepBL E cs vs (ids.filterMap E.ρ)
 | [], zs, vs, ids, hr, hd => by
  simp only [DemL] at hd
  obtain ⟨rfl, rfl⟩ := hd
  simp only [RepL] at hr
  simp [RepBL, hr]
 | c :: cs, zs, vs, ids, hr, hd => by
  simp only [DemL] at hd
  obtain ⟨z, zs', i, i', rfl, rfl, h1, h2⟩ := hd
  simp only [RepL] at hr
  obtain ⟨u, us, rfl, hu, hr⟩ := hr
  simp only [RepBL]
  exact ⟨u, us, _, _, rfl, List.filterMap_append, Dem_ok h c z u i hu h1, DemL_ok h cs zs' us i' hr h2⟩
end
mutual
theorem Dem_mem {H : Heap} : ∀ (y x : AV) (ids : List Nat), Dem H y x ids → ∀ i ∈ ids, H i ≠ none
 | .own len esz cs, x, ids, hd => by
  simp only [Dem] at hd
  rcases hd.2.2 with ⟨_, _, _, rfl⟩ | ⟨id, full, _, hi, rfl⟩
  ·simp
  ·intro i hi'; simp at hi'; subst hi'; rw [hi]; simp
 | .ref cs, x, ids, hd => by
  simp only [Dem] at hd
  obtain ⟨id, zs, is, rfl, hi, hd, rfl⟩ := hd
  intro i hi'
  rcases List.mem_append.1 hi' with h' | h'
  ·exact DemL_mem cs zs is hd i h'
  ·simp at h'; subst h'; rw [hi]; simp
 | .agg cs, x, ids, hd => by
  simp only [Dem] at hd
  obtain ⟨zs, _, hd⟩ := hd
  exact DemL_mem cs zs ids hd
 | .tuple cs, x, ids, hd => by
  simp only [Dem] at hd
  obtain ⟨zs, _, hd⟩ := hd
  exact DemL_mem cs zs ids hd
 | .ro len cs, x, ids, hd => by
  simp only [Dem] at hd
  rcases hd with ⟨_, _, rfl⟩ | ⟨_, _, _, rfl⟩ <;> simp
 | .top, x, ids, hd => by simp only [Dem] at hd; rw [hd.2.2]; simp
 | .int k n, x, ids, hd => by simp only [Dem] at hd; rw [hd.2.2]; simp
 | .bool b, x, ids, hd => by simp only [Dem] at hd; rw [hd.2.2]; simp
 | .anyb, x, ids, hd => by simp only [Dem] at hd; rw [hd.2.2]; simp
 | .str s, x, ids, hd => by simp only [Dem] at hd; rw [hd.2.2]; simp
 | .nil, x, ids, hd => by simp only [Dem] at hd; rw [hd.2.2]; simp
 | .sl _ _ _ _ _, x, ids, hd => by simp only [Dem] at hd; rw [hd.2.2]; simp
 | .ptr _ _, x, ids, hd => by simp only [Dem] at hd; rw [hd.2.2]; simp
 | .rop cs, x, ids, hd => by simp only [Dem] at hd; rw [hd.2.2]; simp
 | .nilp, x, ids, hd => by simp only [Dem] at hd; rw [hd.2.2]; simp
 | .hid i, x, ids, hd => by simp only [Dem] at hd; rw [hd.2.2]; simp
 | .fn f cs, x, ids, hd => by simp only [Dem] at hd; rw [hd.2.2]; simp
theorem DemL_mem {H : Heap} : ∀ (cs zs : List AV) (ids : List Nat), DemL H cs zs ids → ∀ i ∈ ids, H i ≠ none
 | [], zs, ids, hd => by simp only [DemL] at hd; rw [hd.2]; simp
 | c :: cs, zs, ids, hd => by
  simp only [DemL] at hd
  obtain ⟨z, zs', i, i', rfl, rfl, h1, h2⟩ := hd
  intro j hj
  rcases List.mem_append.1 hj with h' | h'
  ·exact Dem_mem c z i h1 j h'
  ·exact DemL_mem cs zs' i' h2 j h'
end
def remH : Heap → List Nat → Heap
 | H, [] => H
 | H, i :: r => remH (setH H i none) r
theorem remH_ok {E : Env} {nx : Nat} : ∀ (ids : List Nat) (Z : Nat → Prop) (H : Heap), HeapRep Z E H nx → ids.Nodup → (∀ i ∈ ids, H i ≠ none) →
  HeapRep (fun b => Z b ∨ b ∈ ids.filterMap E.ρ) E (remH H ids) nx ∧ (ids.filterMap E.ρ).Nodup ∧ (∀ b ∈ ids.filterMap E.ρ, Wr E.ρ H b ∧ ¬ Z b) ∧ (∀ b, Wr E.ρ (remH H ids) b → Wr E.ρ H b)
 | [], Z, H, h, _, _ => ⟨h.congrZ fun b => by simp, by simp, by simp, fun b hb => hb⟩
 | i :: r, Z, H, h, hnd, hm => by
  obtain ⟨hi, hnd⟩ := List.nodup_cons.1 hnd
  have hmi := hm i (by simp)
  have hm' : ∀ j ∈ r, setH H i none j ≠ none := fun j hj => by
   have : j ≠ i := fun e => hi (e ▸ hj)
   rw [setH_ne _ _ this]; exact hm j (by simp [hj])
  have hwr : ∀ b, Wr E.ρ (setH H i none) b → Wr E.ρ H b := by
   rintro b ⟨k, es, h1, h2⟩
   by_cases hk : k = i
   ·subst hk; rw [setH_same] at h1; cases h1
   ·rw [setH_ne _ _ hk] at h1; exact ⟨k, es, h1, h2⟩
  cases hρ : E.ρ i with
  | none =>
   obtain ⟨k1, k2, k3, k4⟩ := remH_ok r Z (setH H i none) (h.release0 hρ) hnd hm'
   simp only [List.filterMap_cons, hρ, remH]
   exact ⟨k1, k2, fun b hb => ⟨hwr b (k3 b hb).1, (k3 b hb).2⟩, fun b hb => hwr b (k4 b hb)⟩
  | some n =>
   obtain ⟨k1, k2, k3, k4⟩ := remH_ok r (fun b => Z b ∨ b = n) (setH H i none) (h.release hmi hρ) hnd hm'
   simp only [List.filterMap_cons, hρ, remH]
   have hwn : Wr E.ρ H n := by
    cases hh : H i with
    | none => exact absurd hh hmi
    | some es => exact ⟨i, es, hh, hρ⟩
   refine ⟨k1.congrZ fun b => by simp [or_assoc, or_left_comm], List.nodup_cons.2 ⟨fun hn => (k3 n hn).2 (.inr rfl), k2⟩, fun b hb => ?_, fun b hb => hwr b (k4 b hb)⟩
   rcases List.mem_cons.1 hb with rfl | hb
   ·exact ⟨hwn, h.apart i _ hmi hρ⟩
   ·exact ⟨hwr b (k3 b hb).1, fun hz => (k3 b hb).2 (.inl hz)⟩
end
section

def isRef : AV → Bool
 | .ref _ => true
 | _ => false
def refVals : List AV → List Value → List Value
 | y :: ys, v :: vs => cond (isRef y) (v :: refVals ys vs) (refVals ys vs)
 | _, _ => []
def noHeap : Heap := fun _ => none
def Enters (P : Program) (f : FuncId) : Prop := ∀ (args : Array Value) (w : World), (callFunc f args).run P w = .ok (.enter f args) w
def ACall (P : Program) (f : FuncId) (args : List AV) (r : AV) (outs : List AV) : Prop :=
 Enters P f ∧ ∀ (Z : Nat → Prop) (E : Env) (vals : List Value) (X : List Nat), HeapRep (fun b => Z b ∨ b ∈ X) E noHeap 0 → RepBL E args vals X → X.Nodup → (∀ b ∈ X, ¬ Z b) →
  Calls P f vals.toArray E.w fun e w' => ∃ v E' Xr, e = .returned v ∧ E'.w = w' ∧ E'.η = E.η ∧ Evo (· ∈ X) E.w w' ∧ (∀ b, E'.V b ↔ Z b ∨ b ∈ Xr) ∧
   RepBL E' (outs ++ [r]) (refVals args vals ++ [v]) Xr ∧ Xr.Nodup ∧ ∀ b ∈ Xr, ¬ Z b ∧ (b < E.w.heap.size → b ∈ X) ∧ b < w'.heap.size
inductive Mode where
 | rd | bw | mv (esz : Nat) | rf (ms : List Mode) | hd | cmp | nl | ag
inductive FlatL (H : Heap) : List AV → List AV → List Nat → Prop where
 | nil : FlatL H [] [] []
 | dem {x y : AV} {xs ys : List AV} {bs : List Nat} (hd : Dem H y x []) (t : FlatL H xs ys bs) : FlatL H (x :: xs) (y :: ys) bs
 | bor {id len esz : Nat} {full : Bool} {cs xs ys : List AV} {bs : List Nat} (h : H id = some cs) (hl : cs.length = len * esz) (hp : pureL cs = true) (t : FlatL H xs ys bs) : FlatL H (.sl id 0 len esz full :: xs) (.ro len cs :: ys) (id :: bs)
inductive Passed (H : Heap) : AV → AV → List Nat → List Nat → Prop where
 | dem {x y : AV} {ids : List Nat} (h : Dem H y x ids) : Passed H x y ids []
 | bor {id off len esz : Nat} {full : Bool} {cs ds : List AV} (h : H id = some cs) (hd : ds = (cs.drop off).take (len * esz)) (hp : pureL ds = true) : Passed H (.sl id off len esz full) (.ro len ds) [] [id]
 | agg {xs ys : List AV} {bs : List Nat} (h : FlatL H xs ys bs) : Passed H (.agg xs) (.agg ys) [] bs
inductive PassedL (H : Heap) : List AV → List AV → List Nat → List Nat → Prop where
 | nil : PassedL H [] [] [] []
 | cons {x y : AV} {xs ys : List AV} {i is b bs : List Nat} (h : Passed H x y i b) (t : PassedL H xs ys is bs) : PassedL H (x :: xs) (y :: ys) (i ++ is) (b ++ bs)
theorem PassedL_mem {H : Heap} {xs ys : List AV} {ids bs : List Nat} (h : PassedL H xs ys ids bs) : ∀ i ∈ ids, H i ≠ none := by
 induction h with
 | nil => simp
 | cons h t ih =>
  intro i hi
  rcases List.mem_append.1 hi with h' | h'
  ·cases h with
   | dem hd => exact Dem_mem _ _ _ hd i h'
   | bor => simp at h'
   | agg => simp at h'
  ·exact ih i h'
theorem flat_mem {H : Heap} {xs ys : List AV} {bs : List Nat} (h : FlatL H xs ys bs) : ∀ i ∈ bs, H i ≠ none := by
 induction h with
 | nil => simp
 | dem hd t ih => exact ih
 | bor hc hl hp t ih =>
  intro i hi
  rcases List.mem_cons.1 hi with rfl | hi
  ·rw [hc]; simp
  ·exact ih i hi
theorem flat_ok {Z : Nat → Prop} {E E' : Env} {H : Heap} {nx : Nat} (h : HeapRep Z E H nx) (hm : SameMem E E') (hV : ∀ b, E'.V b → E.V b) {xs ys : List AV} {bs : List Nat}
  (hp : FlatL H xs ys bs) : (∀ id ∈ bs, ∀ n, E.ρ id = some n → ¬ E'.V n) → ∀ {vs : List Value}, RepL E xs vs → RepBL E' ys vs [] := by
 induction hp with
 | nil => intro _ vs hr; simp only [RepL] at hr; simp [RepBL, hr]
 | dem hd t ih =>
  intro hb vs hr
  simp only [RepL] at hr
  obtain ⟨u, us, rfl, hu, hr⟩ := hr
  simp only [RepBL]
  have := RepB.mono hm hV _ _ _ (Dem_ok h _ _ _ _ hu hd)
  exact ⟨u, us, [], [], rfl, rfl, by simpa using this, ih hb hr⟩
 | bor hc hl hpu t ih =>
  rename_i id len esz full cs xs ys bs
  intro hb vs hr
  simp only [RepL] at hr
  obtain ⟨u, us, rfl, hu, hr⟩ := hr
  simp only [RepBL]
  refine ⟨u, us, [], [], rfl, rfl, ?_, ih (fun i hi => hb i (by simp [hi])) hr⟩
  simp only [RepB]
  refine ⟨by simpa [pureV] using hpu, ?_, trivial⟩
  simp only [RepV] at hu ⊢
  obtain ⟨a, cap, rfl, hl', _, hcc⟩ := hu
  refine ⟨a, cap, rfl, hl', ?_⟩
  rcases hcc with rfl | ⟨n, c, e, fr, hn, rfl, hh, hs⟩
  ·left
   have : len = 0 := by omega
   subst this
   exact List.length_eq_zero_iff.1 (by omega)
  ·right
   refine ⟨n, 0, rfl, hb id (by simp) n hn, ?_⟩
   refine pureM_rep (E := E) hm hV _ _ _ hpu (repM_of_get _ _ _ fun j x hx => ?_)
   exact blk_cells h hc hn (0 + j) x (by rwa [Nat.zero_add])
theorem pass_ok {Z : Nat → Prop} {E E' : Env} {H : Heap} {nx : Nat} (h : HeapRep Z E H nx) (hm : SameMem E E') (hV : ∀ b, E'.V b → E.V b) {x y : AV} {v : Value} {ids bs : List Nat}
  (hp : Passed H x y ids bs) (hb : ∀ id ∈ bs, ∀ n, E.ρ id = some n → ¬ E'.V n) (hr : RepV E x v) : RepB E' y v (ids.filterMap E.ρ) := by
 cases hp with
 | dem hd => exact RepB.mono hm hV _ _ _ (Dem_ok h _ _ _ _ hr hd)
 | bor hc hd hpu =>
  rename_i id off len esz full cs ds
  subst hd
  simp only [RepB]
  refine ⟨by simpa [pureV] using hpu, ?_, rfl⟩
  simp only [RepV] at hr ⊢
  obtain ⟨a, cap, rfl, hl, _, hcc⟩ := hr
  refine ⟨a, cap, rfl, hl, ?_⟩
  rcases hcc with rfl | ⟨n, c, e, fr, hn, rfl, hh, hs⟩
  ·left
   have : len = 0 := by omega
   subst this
   simp
  ·right
   refine ⟨n, off, rfl, hb id (by simp) n hn, ?_⟩
   refine pureM_rep (E := E) hm hV _ _ _ hpu (repM_of_get _ _ _ fun j x hx => ?_)
   refine blk_cells h hc hn (off + j) x ?_
   by_cases hj : j < len * esz
   ·rwa [List.getElem?_take_of_lt hj, List.getElem?_drop] at hx
   ·rw [List.getElem?_eq_none (by simp; omega)] at hx; cases hx
 | agg hf =>
  simp only [RepV] at hr
  obtain ⟨vs, rfl, hl⟩ := hr
  simp only [RepB]
  exact ⟨vs, rfl, flat_ok h hm hV hf hb hl⟩
theorem passL_ok {Z : Nat → Prop} {E E' : Env} {H : Heap} {nx : Nat} (h : HeapRep Z E H nx) (hm : SameMem E E') (hV : ∀ b, E'.V b → E.V b) {xs ys : List AV} {ids bs : List Nat}
  (hp : PassedL H xs ys ids bs) (hb : ∀ id ∈ bs, ∀ n, E.ρ id = some n → ¬ E'.V n) : ∀ {vs : List Value}, RepL E xs vs → RepBL E' ys vs (ids.filterMap E.ρ) := by
 induction hp with
 | nil => intro vs hr; simp only [RepL] at hr; simp [RepBL, hr]
 | cons h1 t ih =>
  intro vs hr
  simp only [RepL] at hr
  obtain ⟨u, us, rfl, hu, hr⟩ := hr
  simp only [RepBL]
  exact ⟨u, us, _, _, rfl, List.filterMap_append, pass_ok h hm hV h1 (fun id hi => hb id (by simp [hi])) hu, ih (fun id hi => hb id (by simp [hi])) hr⟩
def refIds : List AV → List AV → List Nat
 | .ref _ :: ys, .ptr id _ :: xs => id :: refIds ys xs
 | _ :: ys, _ :: xs => refIds ys xs
 | _, _ => []
def takeRefs : Heap × Nat → List Nat → List AV → Option (Heap × Nat)
 | s, [], [] => some s
 | s, i :: is, .ref cs :: os => match matL cs s with
  | (cs', (H', nx')) => takeRefs (setH H' i (some cs'), nx') is os
 | _, _, _ => none
theorem HeapRep.readopt {Z : Nat → Prop} {E : Env} {H : Heap} {nx id n : Nat} {cs : List AV} (h : HeapRep Z E H nx) (hi : H id = none) (hn : E.ρ id = some n) (hz : Z n) (hb : BlkOk E n cs) :
  HeapRep (fun b => Z b ∧ b ≠ n) E (setH H id (some cs)) nx := by
 have hwr : ∀ b, Wr E.ρ (setH H id (some cs)) b ↔ Wr E.ρ H b ∨ b = n := by
  intro b
  constructor
  ·rintro ⟨i, es, h1, h2⟩
   by_cases he : i = id
   ·subst he; rw [hn] at h2; injection h2 with h2; exact .inr h2.symm
   ·rw [setH_ne _ _ he] at h1; exact .inl ⟨i, es, h1, h2⟩
  ·rintro (⟨i, es, h1, h2⟩ | rfl)
   ·have he : i ≠ id := fun e => by rw [e, hi] at h1; cases h1
    exact ⟨i, es, by rw [setH_ne _ _ he]; exact h1, h2⟩
   ·exact ⟨id, cs, setH_same _ _ _, hn⟩
 refine ⟨fun i es hh => ?_, fun i i' m h1 h2 h3 h4 => ?_, fun b => ?_, fun i m h1 h2 hzz => ?_, fun i hh => ?_, h.one, h.old, fun b hb => h.zold b hb.1, h.tab⟩
 ·by_cases he : i = id
  ·subst he; rw [setH_same] at hh; injection hh with hh; subst hh; exact .inr ⟨n, hn, hb⟩
  ·rw [setH_ne _ _ he] at hh; exact h.blk i es hh
 ·by_cases he : i = id <;> by_cases he' : i' = id
  ·rw [he, he']
  ·subst he
   rw [hn] at h3; injection h3 with h3; subst h3
   rw [setH_ne _ _ he'] at h2
   exact absurd hz (h.apart i' n h2 h4)
  ·subst he'
   rw [hn] at h4; injection h4 with h4; subst h4
   rw [setH_ne _ _ he] at h1
   exact absurd hz (h.apart i n h1 h3)
  ·rw [setH_ne _ _ he] at h1
   rw [setH_ne _ _ he'] at h2
   exact h.inj i i' m h1 h2 h3 h4
 ·rw [hwr, h.V b]
  constructor
  ·rintro (hzz | hw)
   ·by_cases hbn : b = n
    ·exact .inr (.inr hbn)
    ·exact .inl ⟨hzz, hbn⟩
   ·exact .inr (.inl hw)
  ·rintro (⟨hzz, _⟩ | hw | rfl)
   ·exact .inl hzz
   ·exact .inr hw
   ·exact .inl hz
 ·by_cases he : i = id
  ·subst he; rw [hn] at h2; injection h2 with h2; exact hzz.2 h2.symm
  ·rw [setH_ne _ _ he] at h1; exact h.apart i m h1 h2 hzz.1
 ·have he : i ≠ id := fun e => by
   rw [e] at hh
   rw [(h.fresh id hh).1] at hn; cases hn
  rw [setH_ne _ _ he]; exact h.fresh i hh
theorem HeapRep.evolve {Z1 Z2 : Nat → Prop} {E : Env} {H : Heap} {nx : Nat} {W : Nat → Prop} {w' : World} (h : HeapRep Z1 E H nx) (ev : Evo W E.w w') (hW : ∀ b, W b → Z1 b)
  (h2 : ∀ b, Z2 b → b < w'.heap.size) (h3 : ∀ b, Z2 b → b < E.w.heap.size → Z1 b) :
  ∃ E', E'.w = w' ∧ E'.η = E.η ∧ E'.ρ = E.ρ ∧ Later E E' ∧ HeapRep Z2 E' H nx := by
 let E' : Env := { E with w := w', V := fun b => Z2 b ∨ Wr E.ρ H b }
 have L : Later E E' := Later.of_evo (W := W) ev rfl (fun _ _ h => h) (fun b hb => (h.V b).2 (.inl (hW b hb))) (fun b hb hv => (h.V b).2 (hv.imp (fun hz => h3 b hz hb) (fun x => x)))
 refine ⟨E', rfl, rfl, rfl, L, ⟨fun i es hh => ?_, h.inj, fun b => Iff.rfl, fun i n k1 k2 hz => h.apart i n k1 k2 (h3 n hz (h.old i n k2)), h.fresh, h.one, fun i n hn => Nat.lt_of_lt_of_le (h.old i n hn) ev.size, h2, h.tab.later L⟩⟩
 rcases h.blk i es hh with h0 | ⟨m, hm, hb⟩
 ·exact .inl h0
 ·refine .inr ⟨m, hm, h.blk_later L hm hb (ev.same m (h.old i m hm) fun hw => ?_)⟩
  exact h.apart i m (by rw [hh]; simp) hm (hW m hw)
def Env.free (E : Env) : Env := { E with V := fun _ => False }
theorem pure_noRo {E E' : Env} (h : SameMem E E') {x : AV} {v : Value} (hp : pureV x = true) (hn : noRoV x = true) (hr : RepV E x v) : RepV E' x v := by
 have h1 : RepV E'.free x v := pureV_rep (E := E) (E' := E'.free) ⟨h.η, h.w⟩ (fun b (hf : False) => hf.elim) x v hp hr
 exact noRoV_rep (E := E'.free) (E' := E') ⟨rfl, rfl⟩ rfl x v hn h1
theorem pure_noRoL {E E' : Env} (h : SameMem E E') {cs : List AV} {vs : List Value} (hp : pureL cs = true) (hn : noRoL cs = true) (hr : RepL E cs vs) : RepL E' cs vs := by
 have h1 : RepL E'.free cs vs := pureL_rep (E := E) (E' := E'.free) ⟨h.η, h.w⟩ (fun b (hf : False) => hf.elim) cs vs hp hr
 exact noRoL_rep (E := E'.free) (E' := E') ⟨rfl, rfl⟩ rfl cs vs hn h1
mutual
theorem RepB.noRo {E E' : Env} (h : SameMem E E') : ∀ (y : AV) (v : Value) (X : List Nat), noRoV y = true → RepB E y v X → RepB E' y v X
 | .own len esz cs, v, X, hn, hb => by
  simp only [RepB] at hb ⊢
  obtain ⟨hp, a, cap, rfl, hl, hc⟩ := hb
  refine ⟨hp, a, cap, rfl, hl, hc.imp (fun x => x) ?_⟩
  rintro ⟨n, c, e, fr, rfl, rfl, k1, k2, k3, k4, k5⟩
  exact ⟨n, c, e, fr, rfl, rfl, by rw [h.w]; exact k1, k2, k3, k4, pure_noRoL h hp (by simpa [noRoV] using hn) k5⟩
 | .ref cs, v, X, hn, hb => by
  simp only [RepB] at hb ⊢
  obtain ⟨n, Y, c, e, fr, rfl, rfl, k1, k2, k3, k4⟩ := hb
  exact ⟨n, Y, c, e, fr, rfl, rfl, by rw [h.w]; exact k1, k2, k3, RepBL.noRo h cs _ Y (by simpa [noRoV] using hn) k4⟩
 | .agg cs, v, X, hn, hb => by
  simp only [RepB] at hb ⊢
  obtain ⟨vs, rfl, hl⟩ := hb
  exact ⟨vs, rfl, RepBL.noRo h cs _ X (by simpa [noRoV] using hn) hl⟩
 | .tuple cs, v, X, hn, hb => by
  simp only [RepB] at hb ⊢
  obtain ⟨vs, rfl, hl⟩ := hb
  exact ⟨vs, rfl, RepBL.noRo h cs _ X (by simpa [noRoV] using hn) hl⟩
 | .top, v, X, hn, hb => by simp only [RepB] at hb ⊢; exact ⟨hb.1, pure_noRo h hb.1 hn hb.2.1, hb.2.2⟩
 | .int k n, v, X, hn, hb => by simp only [RepB] at hb ⊢; exact ⟨hb.1, pure_noRo h hb.1 hn hb.2.1, hb.2.2⟩
 | .bool b, v, X, hn, hb => by simp only [RepB] at hb ⊢; exact ⟨hb.1, pure_noRo h hb.1 hn hb.2.1, hb.2.2⟩
 | .anyb, v, X, hn, hb => by simp only [RepB] at hb ⊢; exact ⟨hb.1, pure_noRo h hb.1 hn hb.2.1, hb.2.2⟩
 | .str s, v, X, hn, hb => by simp only [RepB] at hb ⊢; exact ⟨hb.1, pure_noRo h hb.1 hn hb.2.1, hb.2.2⟩
 | .nil, v, X, hn, hb => by simp only [RepB] at hb ⊢; exact ⟨hb.1, pure_noRo h hb.1 hn hb.2.1, hb.2.2⟩
 | .ro len cs, v, X, hn, hb => by simp only [RepB] at hb ⊢; exact ⟨hb.1, pure_noRo h hb.1 hn hb.2.1, hb.2.2⟩
 | .sl _ _ _ _ _, v, X, hn, hb => by simp only [RepB] at hb ⊢; exact ⟨hb.1, pure_noRo h hb.1 hn hb.2.1, hb.2.2⟩
 | .ptr _ _, v, X, hn, hb => by simp only [RepB] at hb ⊢; exact ⟨hb.1, pure_noRo h hb.1 hn hb.2.1, hb.2.2⟩
 | .rop cs, v, X, hn, hb => by simp only [RepB] at hb ⊢; exact ⟨hb.1, pure_noRo h hb.1 hn hb.2.1, hb.2.2⟩
 | .nilp, v, X, hn, hb => by simp only [RepB] at hb ⊢; exact ⟨hb.1, pure_noRo h hb.1 hn hb.2.1, hb.2.2⟩
 | .hid i, v, X, hn, hb => by simp only [RepB] at hb ⊢; exact ⟨hb.1, pure_noRo h hb.1 hn hb.2.1, hb.2.2⟩
 | .fn f cs, v, X, hn, hb => by simp only [RepB] at hb ⊢; exact ⟨hb.1, pure_noRo h hb.1 hn hb.2.1, hb.2.2⟩
theorem RepBL.noRo {E E' : Env} (h : SameMem E E') : ∀ (cs : List AV) (vs : List Value) (X : List Nat), noRoL cs = true → RepBL E cs vs X → RepBL E' cs vs X
 | [], vs, X, _, hb => by simpa [RepBL] using hb
 | c :: cs, vs, X, hn, hb => by
  simp only [noRoL, Bool.and_eq_true] at hn
  simp only [RepBL] at hb ⊢
  obtain ⟨u, us, Y, Y', rfl, rfl, h1, h2⟩ := hb
  exact ⟨u, us, Y, Y', rfl, rfl, RepB.noRo h c u Y hn.1 h1, RepBL.noRo h cs us Y' hn.2 h2⟩
end
end
section

def passFl (H : Heap) : List AV → (List AV → List Nat → Prop) → Prop
 | [], K => K [] []
 | x :: xs, K => match x with
  | .nil => passFl H xs fun ys b => K (.ro 0 [] :: ys) b
  | .sl id off len esz full => match H id with
   | some cs => (off = 0 ∧ cs.length = len * esz ∧ pureL cs = true) ∧ passFl H xs fun ys b => K (.ro len cs :: ys) (id :: b)
   | none => False
  | x => pureV x = true ∧ passFl H xs fun ys b => K (x :: ys) b
mutual
def passOne (H : Heap) (m : Mode) (x : AV) (K : AV → List Nat → List Nat → Prop) : Prop :=
 match m with
 | .rd => match x with
  | .nil => K (.ro 0 []) [] []
  | .ro len cs => pureL cs = true ∧ K (.ro len cs) [] []
  | .agg cs => pureL cs = true ∧ K (.agg cs) [] []
  | .tuple cs => False
  | .own _ _ _ => False
  | .ref _ => False
  | x => pureV x = true ∧ K x [] []
 | .bw => match x with
  | .nil => K (.ro 0 []) [] []
  | .ro len cs => pureL cs = true ∧ K (.ro len cs) [] []
  | .sl id off len esz full => match H id with
   | some cs => pureL cs = true ∧ (((off = 0 ∧ cs.length = len * esz) ∧ K (.ro len cs) [] [id]) ∨ K (.ro len ((cs.drop off).take (len * esz))) [] [id])
   | none => False
  | _ => False
 | .mv esz => match x with
  | .nil => K (.own 0 esz []) [] []
  | .sl id off len es full => match H id with
   | some cs => (off = 0 ∧ es = esz ∧ cs.length = len * es ∧ pureL cs = true) ∧ K (.own len esz cs) [id] []
   | none => False
  | _ => False
 | .rf ms => match x with
  | .ptr id 0 => match H id with
   | some zs => passAll H ms zs fun cs ids bs => bs = [] ∧ K (.ref cs) (ids ++ [id]) []
   | none => False
  | _ => False
 | .hd => match x with
  | .top => K .top [] []
  | _ => False
 | .cmp => False
 | .nl => match x with
  | .nil => K .nil [] []
  | _ => False
 | .ag => match x with
  | .agg cs => passFl H cs fun ys b => K (.agg ys) [] b
  | _ => False
def passAll (H : Heap) (ms : List Mode) (xs : List AV) (K : List AV → List Nat → List Nat → Prop) : Prop :=
 match ms, xs with
 | [], [] => K [] [] []
 | m :: ms, x :: xs => passOne H m x fun y i b => passAll H ms xs fun ys is bs => K (y :: ys) (i ++ is) (b ++ bs)
 | _, _ => False
end
theorem pureL_take {cs : List AV} (h : pureL cs = true) (n : Nat) : pureL (cs.take n) = true := by
 induction cs generalizing n with
 | nil => simp [pureL]
 | cons c cs ih =>
  simp only [pureL, Bool.and_eq_true] at h
  cases n with
  | zero => simp [pureL]
  | succ n => simp only [List.take_succ_cons, pureL, h.1, ih h.2 n, Bool.and_true]
theorem pureL_drop {cs : List AV} (h : pureL cs = true) (n : Nat) : pureL (cs.drop n) = true := by
 induction cs generalizing n with
 | nil => simp [pureL]
 | cons c cs ih =>
  simp only [pureL, Bool.and_eq_true] at h
  cases n with
  | zero => simp [pureL, h.1, h.2]
  | succ n => simpa using ih h.2 n
theorem demL_of_flat {H : Heap} {xs ys : List AV} {bs : List Nat} (h : FlatL H xs ys bs) (hb : bs = []) : DemL H ys xs [] := by
 induction h with
 | nil => simp [DemL]
 | dem hd t ih =>
  simp only [DemL]
  exact ⟨_, _, [], [], rfl, rfl, hd, ih hb⟩
 | bor => cases hb
theorem demL_of_passed {H : Heap} {xs ys : List AV} {ids bs : List Nat} (h : PassedL H xs ys ids bs) (hb : bs = []) : DemL H ys xs ids := by
 induction h with
 | nil => simp [DemL]
 | cons h1 t ih =>
  rename_i x y xs ys i is b bs
  have hb' : b = [] ∧ bs = [] := by simpa using hb
  simp only [DemL]
  refine ⟨x, xs, i, is, rfl, rfl, ?_, ih hb'.2⟩
  cases h1 with
  | dem hd => exact hd
  | bor => simp at hb'
  | agg hf =>
   simp only [Dem]
   exact ⟨_, rfl, demL_of_flat hf hb'.1⟩
mutual
theorem dem_pure {H : Heap} : ∀ (x : AV), pureV x = true → Dem H x x []
 | .own _ _ _, hp => by simp [pureV] at hp
 | .ref _, hp => by simp [pureV] at hp
 | .sl _ _ _ _ _, hp => by simp [pureV] at hp
 | .ptr _ _, hp => by simp [pureV] at hp
 | .agg cs, hp => by simp only [Dem]; exact ⟨cs, rfl, demL_pure cs (by simpa [pureV] using hp)⟩
 | .tuple cs, hp => by simp only [Dem]; exact ⟨cs, rfl, demL_pure cs (by simpa [pureV] using hp)⟩
 | .ro len cs, hp => by have : pureL cs = true := by simpa [pureV] using hp
                        simp [Dem, this]
 | .top, hp => by simp [Dem, hp]
 | .int k n, hp => by simp [Dem, hp]
 | .bool b, hp => by simp [Dem, hp]
 | .anyb, hp => by simp [Dem, hp]
 | .str s, hp => by simp [Dem, hp]
 | .nil, hp => by simp [Dem, hp]
 | .rop cs, hp => by simp [Dem, hp]
 | .nilp, hp => by simp [Dem, hp]
 | .hid i, hp => by simp [Dem, hp]
 | .fn f cs, hp => by simp [Dem, hp]
theorem demL_pure {H : Heap} : ∀ (cs : List AV), pureL cs = true → DemL H cs cs []
 | [], _ => by simp [DemL]
 | c :: cs, hp => by
  simp only [pureL, Bool.and_eq_true] at hp
  simp only [DemL]
  exact ⟨c, cs, [], [], rfl, rfl, dem_pure c hp.1, demL_pure cs hp.2⟩
end
theorem passed_pure {H : Heap} {x : AV} (hp : pureV x = true) : Passed H x x [] [] := .dem (dem_pure x hp)
theorem passed_nil {H : Heap} : Passed H .nil (.ro 0 []) [] [] := .dem (by simp [Dem])
theorem passFl_ok {H : Heap} : ∀ (xs : List AV) (K : List AV → List Nat → Prop), passFl H xs K → ∃ ys b, K ys b ∧ FlatL H xs ys b
 | [], K, h => ⟨_, _, h, .nil⟩
 | x :: xs, K, h => by
  unfold passFl at h
  cases x <;> simp only at h
  case nil =>
   obtain ⟨ys, b, hk, hf⟩ := passFl_ok xs _ h
   exact ⟨_, _, hk, .dem (by simp [Dem]) hf⟩
  case sl id off len esz full =>
   split at h
   ·rename_i cs hcs
    obtain ⟨⟨rfl, hl, hp⟩, h⟩ := h
    obtain ⟨ys, b, hk, hf⟩ := passFl_ok xs _ h
    exact ⟨_, _, hk, .bor hcs hl hp hf⟩
   ·exact h.elim
  all_goals
   obtain ⟨hp, h⟩ := h
   obtain ⟨ys, b, hk, hf⟩ := passFl_ok xs _ h
   exact ⟨_, _, hk, .dem (dem_pure _ hp) hf⟩
mutual
theorem passOne_ok {H : Heap} : ∀ (m : Mode) (x : AV) (K : AV → List Nat → List Nat → Prop), passOne H m x K → ∃ y ids bs, K y ids bs ∧ Passed H x y ids bs
 | .rd, x, K, h => by
  unfold passOne at h
  cases x <;> simp only at h
  case nil => exact ⟨_, _, _, h, passed_nil⟩
  case ro len cs => exact ⟨_, _, _, h.2, passed_pure (by simpa [pureV] using h.1)⟩
  case agg cs => exact ⟨_, _, _, h.2, passed_pure (by simpa [pureV] using h.1)⟩
  all_goals exact ⟨_, _, _, h.2, passed_pure h.1⟩
 | .bw, x, K, h => by
  unfold passOne at h
  cases x <;> simp only at h
  case nil => exact ⟨_, _, _, h, passed_nil⟩
  case ro len cs => exact ⟨_, _, _, h.2, passed_pure (by simpa [pureV] using h.1)⟩
  case sl id off len esz full =>
   split at h
   ·rename_i cs hcs
    obtain ⟨hp, h⟩ := h
    rcases h with ⟨⟨rfl, hl⟩, hk⟩ | hk
    ·exact ⟨_, _, _, hk, .bor hcs (by rw [List.drop_zero, List.take_of_length_le (by omega)]) hp⟩
    ·exact ⟨_, _, _, hk, .bor hcs rfl (pureL_take (pureL_drop hp off) _)⟩
   ·exact h.elim
 | .mv esz, x, K, h => by
  unfold passOne at h
  cases x <;> simp only at h
  case nil => exact ⟨_, _, _, h, .dem (by simp [Dem, pureL])⟩
  case sl id off len es full =>
   split at h
   ·rename_i cs hcs
    obtain ⟨⟨rfl, rfl, hl, hp⟩, hk⟩ := h
    exact ⟨_, _, _, hk, .dem (by simp only [Dem]; exact ⟨hp, hl, .inr ⟨id, full, rfl, hcs, rfl⟩⟩)⟩
   ·exact h.elim
 | .rf ms, x, K, h => by
  unfold passOne at h
  cases x <;> (try simp only at h)
  case ptr id off =>
   cases off with
   | zero =>
    simp only at h
    split at h
    ·rename_i zs hzs
     obtain ⟨cs, ids, bs, ⟨rfl, hk⟩, hp⟩ := passAll_ok ms zs _ h
     exact ⟨_, _, _, hk, .dem (by simp only [Dem]; exact ⟨id, zs, ids, rfl, hzs, demL_of_passed hp rfl, rfl⟩)⟩
    ·exact h.elim
   | succ off => exact h.elim
  all_goals exact h.elim
 | .hd, x, K, h => by
  unfold passOne at h
  cases x <;> simp only at h
  case top => exact ⟨_, _, _, h, passed_pure rfl⟩
 | .cmp, x, K, h => by
  unfold passOne at h
  exact h.elim
 | .nl, x, K, h => by
  unfold passOne at h
  cases x <;> simp only at h
  case nil => exact ⟨_, _, _, h, passed_pure rfl⟩
 | .ag, x, K, h => by
  unfold passOne at h
  cases x <;> simp only at h
  case agg cs =>
   obtain ⟨ys, b, hk, hf⟩ := passFl_ok _ _ h
   exact ⟨_, _, _, hk, .agg hf⟩
theorem passAll_ok {H : Heap} : ∀ (ms : List Mode) (xs : List AV) (K : List AV → List Nat → List Nat → Prop), passAll H ms xs K → ∃ ys ids bs, K ys ids bs ∧ PassedL H xs ys ids bs
 | [], [], K, h => by unfold passAll at h; exact ⟨_, _, _, h, .nil⟩
 | m :: ms, x :: xs, K, h => by
  unfold passAll at h
  obtain ⟨y, i, b, h1, p1⟩ := passOne_ok m x _ h
  obtain ⟨ys, is, bs, h2, p2⟩ := passAll_ok ms xs _ h1
  exact ⟨_, _, _, h2, .cons p1 p2⟩
 | [], _ :: _, K, h => by unfold passAll at h; exact h.elim
 | _ :: _, [], K, h => by unfold passAll at h; exact h.elim
end
def elemB (a : Nat) : List Nat → Bool
 | [] => false
 | b :: r => Nat.beq a b || elemB a r
def nodupB : List Nat → Bool
 | [] => true
 | a :: r => !elemB a r && nodupB r
def disjB : List Nat → List Nat → Bool
 | [], _ => true
 | a :: r, bs => !elemB a bs && disjB r bs
theorem elemB_iff {a : Nat} : ∀ {l : List Nat}, elemB a l = true ↔ a ∈ l
 | [] => by simp [elemB]
 | b :: r => by
  simp only [elemB, Bool.or_eq_true, List.mem_cons, elemB_iff (l := r)]
  constructor
  ·rintro (h | h)
   ·exact .inl (Nat.eq_of_beq_eq_true h)
   ·exact .inr h
  ·rintro (rfl | h)
   ·exact .inl (Nat.beq_refl _)
   ·exact .inr h
theorem nodupB_ok : ∀ {l : List Nat}, nodupB l = true → l.Nodup
 | [], _ => List.nodup_nil
 | a :: r, h => by
  simp only [nodupB, Bool.and_eq_true, Bool.not_eq_true'] at h
  refine List.nodup_cons.2 ⟨fun hm => ?_, nodupB_ok h.2⟩
  rw [elemB_iff.2 hm] at h
  exact absurd h.1 (by simp)
theorem disjB_ok : ∀ {l bs : List Nat}, disjB l bs = true → ∀ a ∈ bs, a ∉ l
 | [], bs, _ => by simp
 | c :: r, bs, h => by
  simp only [disjB, Bool.and_eq_true, Bool.not_eq_true'] at h
  intro a ha hm
  rcases List.mem_cons.1 hm with rfl | hm
  ·rw [elemB_iff.2 ha] at h; exact absurd h.1 (by simp)
  ·exact disjB_ok h.2 a ha hm
def noRoIf : List Nat → List AV → Bool
 | [], _ => true
 | _ :: _, l => noRoL l
def callP (P : Program) (M : List Mode) (f : FuncId) (H : Heap) (nx : Nat) (xs : List AV) (K : AV → Heap → Nat → Prop) : Prop :=
 passAll H M xs fun ys ids bs => (nodupB ids && disjB ids bs) = true ∧ ∃ r outs, ACall P f ys r outs ∧ noRoIf bs (outs ++ [r]) = true ∧
  match takeRefs (remH H ids, nx) (refIds ys xs) outs with
  | some s => match matV r s with
   | (x, (H', nx')) => K x H' nx'
  | none => False
end
section

def PtrL (E : Env) : List Nat → List Value → Prop
 | [], [] => True
 | i :: is, v :: vs => (∃ n, E.ρ i = some n ∧ v = .pointer (some ⟨n, 0, none⟩)) ∧ PtrL E is vs
 | _, _ => False
theorem ptrs_ok {E : Env} {H : Heap} {xs ys : List AV} {ids bs : List Nat} (h : PassedL H xs ys ids bs) : ∀ {vals : List Value}, RepL E xs vals →
  PtrL E (refIds ys xs) (refVals ys vals) ∧ (refIds ys xs).Sublist ids := by
 induction h with
 | nil => intro vals hr; simp only [RepL] at hr; subst hr; simp [refIds, refVals, PtrL]
 | cons h1 t ih =>
  rename_i x y xs ys i is b bs
  intro vals hr
  simp only [RepL] at hr
  obtain ⟨u, us, rfl, hu, hr⟩ := hr
  obtain ⟨p1, p2⟩ := ih hr
  by_cases hy : ∃ cs, y = .ref cs
  ·obtain ⟨cs, rfl⟩ := hy
   cases h1 with
   | dem hd =>
    simp only [Dem] at hd
    obtain ⟨id, zs, is', rfl, hi, _, rfl⟩ := hd
    simp only [RepV] at hu
    obtain ⟨n, hn, rfl⟩ := hu
    simp only [refIds, refVals, isRef, cond_true, PtrL]
    refine ⟨⟨⟨n, hn, rfl⟩, p1⟩, ?_⟩
    rw [List.append_assoc]
    exact (List.Sublist.cons_cons id p2).trans (List.sublist_append_right _ _)
  ·have e1 : refIds (y :: ys) (x :: xs) = refIds ys xs := by
    cases y <;> first | rfl | exact absurd ⟨_, rfl⟩ hy
   have e2 : refVals (y :: ys) (u :: us) = refVals ys us := by
    cases y <;> first | rfl | exact absurd ⟨_, rfl⟩ hy
   rw [e1, e2]
   exact ⟨p1, p2.trans (List.sublist_append_right _ _)⟩
theorem RepBL_append {E : Env} : ∀ (a b : List AV) (vs : List Value) (X : List Nat), RepBL E (a ++ b) vs X →
  ∃ vs1 vs2 Y Y', vs = vs1 ++ vs2 ∧ vs1.length = a.length ∧ X = Y ++ Y' ∧ RepBL E a vs1 Y ∧ RepBL E b vs2 Y'
 | [], b, vs, X, h => ⟨[], vs, [], X, rfl, rfl, rfl, by simp [RepBL], h⟩
 | c :: a, b, vs, X, h => by
  simp only [List.cons_append, RepBL] at h
  obtain ⟨u, us, Y, Y', rfl, rfl, h1, h2⟩ := h
  obtain ⟨vs1, vs2, W, W', rfl, e2, rfl, e4, e5⟩ := RepBL_append a b us Y' h2
  refine ⟨u :: vs1, vs2, Y ++ W, W', rfl, by simp [e2], by simp, ?_, e5⟩
  simp only [RepBL]
  exact ⟨u, vs1, Y, W, rfl, rfl, h1, e4⟩
theorem takeRefs_ok : ∀ (is : List Nat) (outs : List AV) (vs : List Value) (X : List Nat) (Z : Nat → Prop) (E : Env) (H : Heap) (nx : Nat) (s : Heap × Nat), HeapRep Z E H nx → RepBL E outs vs X → PtrL E is vs →
  X.Nodup → (∀ b ∈ X, Z b) → (∀ i ∈ is, H i = none) → is.Nodup → takeRefs (H, nx) is outs = some s →
  ∃ E', SameMem E E' ∧ (∀ b, E'.V b → E.V b) ∧ (∀ i, i < nx → E'.ρ i = E.ρ i) ∧ nx ≤ s.2 ∧ HeapRep (fun b => Z b ∧ b ∉ X) E' s.1 s.2
 | [], outs, vs, X, Z, E, H, nx, s, h, hb, hp, hnd, hz, hi, hin, ht => by
  cases outs with
  | cons o os => simp [takeRefs] at ht
  | nil =>
   simp only [takeRefs] at ht
   injection ht with ht
   subst ht
   simp only [RepBL] at hb
   obtain ⟨rfl, rfl⟩ := hb
   exact ⟨E, ⟨rfl, rfl⟩, fun _ h => h, fun _ _ => rfl, Nat.le_refl _, h.congrZ fun b => by simp⟩
 | i :: is, outs, vs, X, Z, E, H, nx, s, h, hb, hp, hnd, hz, hi, hin, ht => by
  cases outs with
  | nil => simp [takeRefs] at ht
  | cons o os =>
   by_cases ho : ∃ cs, o = .ref cs
   ·obtain ⟨cs, rfl⟩ := ho
    simp only [RepBL] at hb
    obtain ⟨u, us, Y, Y', rfl, rfl, h1, h2⟩ := hb
    simp only [PtrL] at hp
    obtain ⟨⟨n, hn, rfl⟩, hp⟩ := hp
    simp only [RepB] at h1
    obtain ⟨n', W, c, e, fr, hnn, rfl, k1, k2, k3, k4⟩ := h1
    obtain rfl : n = n' := by injection hnn with hnn; injection hnn with hnn; injection hnn
    obtain ⟨hy1, hy2, hy3⟩ := List.nodup_append.1 hnd
    obtain ⟨hw1, hw2, hw3⟩ := List.nodup_append.1 hy1
    obtain ⟨E1, t1, r1⟩ := matL_ok cs _ W Z E H nx h k4 hw1 (fun b hb => hz b (by simp [hb]))
    have hlen := repL_length _ _ r1
    have hblk : BlkOk E1 n (matL cs (H, nx)).1 := ⟨c, e, fr, by rw [t1.mem.w]; exact k1, k2, by rw [hlen]; simp; omega, fun j x hx => by
     obtain ⟨u, hu, hr⟩ := repL_get _ _ r1 j x hx
     have hj : j < cs.length := by
      rcases Nat.lt_or_ge j (c.toList.take cs.length).length with h' | h'
      ·simp at h'; omega
      ·rw [List.getElem?_eq_none h'] at hu; cases hu
     rw [List.getElem?_take_of_lt hj] at hu
     exact ⟨u, by simpa using hu, hr⟩⟩
    have hinx : i < nx := by
     rcases Nat.lt_or_ge i nx with h' | h'
     ·exact h'
     ·rw [(h.fresh i h').1] at hn; cases hn
    have hread := t1.heap.readopt (id := i) (n := n) (by rw [t1.H i hinx]; exact hi i (by simp)) (by rw [t1.ρ i hinx]; exact hn) ⟨hz n (by simp), fun hm => hw3 n hm n (by simp) rfl⟩ hblk
    simp only [takeRefs] at ht
    have hptr : PtrL E1 is us := by
     have : ∀ (is : List Nat) (us : List Value), PtrL E is us → PtrL E1 is us := by
      intro is
      induction is with
      | nil => intro us hp; cases us <;> simp_all [PtrL]
      | cons j js ih =>
       intro us hp
       cases us with
       | nil => simp [PtrL] at hp
       | cons w ws =>
        simp only [PtrL] at hp ⊢
        obtain ⟨⟨m, hm, rfl⟩, hp⟩ := hp
        refine ⟨⟨m, (Taken.later h t1).ρ j m hm, rfl⟩, ih ws hp⟩
     exact this is us hp
    obtain ⟨hii, hin'⟩ := List.nodup_cons.1 hin
    have hlt : ∀ (is : List Nat) (us : List Value), PtrL E is us → ∀ j ∈ is, j < nx := by
     intro is
     induction is with
     | nil => intro us _ j hj; simp at hj
     | cons k ks ih =>
      intro us hp j hj
      cases us with
      | nil => simp [PtrL] at hp
      | cons w ws =>
       simp only [PtrL] at hp
       obtain ⟨⟨m, hm, rfl⟩, hp⟩ := hp
       rcases List.mem_cons.1 hj with rfl | hj
       ·rcases Nat.lt_or_ge j nx with h' | h'
        ·exact h'
        ·rw [(h.fresh j h').1] at hm; cases hm
       ·exact ih ws hp j hj
    have hne : ∀ j ∈ is, setH (matL cs (H, nx)).2.1 i (some (matL cs (H, nx)).1) j = none := by
     intro j hj
     have : j ≠ i := fun e => hii (e ▸ hj)
     rw [setH_ne _ _ this, t1.H j (hlt is us hp j hj)]
     exact hi j (by simp [hj])
    have h2' := RepBL.mono t1.mem t1.V os us Y' h2
    obtain ⟨E2, q1, q2, q3, q4, q5⟩ := takeRefs_ok is os us Y' _ E1 _ _ s hread h2' hptr hy2 (fun b hb => ⟨⟨hz b (by simp [hb]), fun hw => hy3 b (by simp [hw]) b hb rfl⟩, fun e => hy3 n (by simp) b hb e.symm⟩) hne hin' ht
    have hnx1 := t1.nx
    refine ⟨E2, ⟨q1.η.trans t1.mem.η, q1.w.trans t1.mem.w⟩, fun b hb => t1.V b (q2 b hb), fun j hj => (q3 j (by omega)).trans (t1.ρ j hj), by omega, q5.congrZ fun b => ?_⟩
    simp only [List.mem_append, List.mem_singleton, not_or]
    constructor
    ·rintro ⟨⟨⟨a1, a2⟩, a3⟩, a4⟩; exact ⟨a1, ⟨a2, a3⟩, a4⟩
    ·rintro ⟨a1, ⟨a2, a3⟩, a4⟩; exact ⟨⟨⟨a1, a2⟩, a3⟩, a4⟩
   ·exfalso
    cases o <;> simp [takeRefs] at ht
    exact ho ⟨_, rfl⟩
theorem remH_none : ∀ (ids : List Nat) (H : Heap) (i : Nat), (i ∈ ids ∨ H i = none) → remH H ids i = none
 | [], H, i, h => by rcases h with h | h
                     ·simp at h
                     ·exact h
 | j :: r, H, i, h => by
  simp only [remH]
  refine remH_none r _ i ?_
  by_cases hij : i = j
  ·subst hij; exact .inr (setH_same _ _ _)
  ·rw [setH_ne _ _ hij]
   rcases h with h | h
   ·rcases List.mem_cons.1 h with h | h
    ·exact absurd h hij
    ·exact .inl h
   ·exact .inr h
def ACallJ (P : Program) (f : FuncId) (args : List AV) (r : AV) (outs : List AV) (I : List Value → World → Prop) (J : List Value → World → World → Prop) : Prop :=
 ∀ (Z : Nat → Prop) (E : Env) (vals : List Value) (X : List Nat), HeapRep (fun b => Z b ∨ b ∈ X) E noHeap 0 → RepBL E args vals X → X.Nodup → (∀ b ∈ X, ¬ Z b) → I vals E.w →
  Calls P f vals.toArray E.w fun e w' => ∃ v E' Xr, e = .returned v ∧ E'.w = w' ∧ E'.η = E.η ∧ Evo (· ∈ X) E.w w' ∧ (∀ b, E'.V b ↔ Z b ∨ b ∈ Xr) ∧
   RepBL E' (outs ++ [r]) (refVals args vals ++ [v]) Xr ∧ Xr.Nodup ∧ (∀ b ∈ Xr, ¬ Z b ∧ (b < E.w.heap.size → b ∈ X) ∧ b < w'.heap.size) ∧ J vals E.w w'
theorem ACall.toJ {P : Program} {f : FuncId} {args : List AV} {r : AV} {outs : List AV} (h : ACall P f args r outs) : ACallJ P f args r outs (fun _ _ => True) (fun _ _ _ => True) := by
 intro Z E vals X h1 h2 h3 h4 _
 refine (h.2 Z E vals X h1 h2 h3 h4).mono ?_
 rintro e w' ⟨v, E1, Xr, k1, k2, k3, k4, k5, k6, k7, k8⟩
 exact ⟨v, E1, Xr, k1, k2, k3, k4, k5, k6, k7, k8, trivial⟩
set_option maxHeartbeats 1000000 in
theorem callJ_core {P : Program} {Z : Nat → Prop} {E : Env} {H : Heap} {nx : Nat} (hr : HeapRep Z E H nx) {f : FuncId} {xs : List AV} {vals : List Value} {K : AV → Heap → Nat → Prop}
  (hx : RepL E xs vals) {I : List Value → World → Prop} {J : List Value → World → World → Prop} {ys outs : List AV} {r : AV} {ids bs : List Nat} (hnd : (nodupB ids && disjB ids bs) = true) (hcall : ACallJ P f ys r outs I J) (hI : I vals E.w)
  (hnoro : noRoIf bs (outs ++ [r]) = true) (hk : match takeRefs (remH H ids, nx) (refIds ys xs) outs with
   | some s => match matV r s with
    | (x, (H', nx')) => K x H' nx'
   | none => False) (hp : PassedL H xs ys ids bs) :
  Calls P f vals.toArray E.w fun e w' => ∃ x H' nx' E' v, e = .returned v ∧ K x H' nx' ∧ E'.w = w' ∧ After Z E H x H' nx' v E' ∧ J vals E.w w' := by
 simp only [Bool.and_eq_true] at hnd
 have hids := nodupB_ok hnd.1
 have hdisj := disjB_ok hnd.2
 obtain ⟨hrem, hXnd, hX, hwr⟩ := remH_ok ids Z H hr hids (PassedL_mem hp)
 let Zc : Nat → Prop := fun b => match bs with
  | [] => Z b ∨ Wr E.ρ (remH H ids) b
  | _ :: _ => Z b
 have hZc : ∀ b, Zc b → Z b ∨ Wr E.ρ (remH H ids) b := by
  intro b hb
  cases bs with
  | nil => exact hb
  | cons _ _ => exact .inl hb
 have hZc0 : ∀ b, Z b → Zc b := by
  intro b hb
  cases bs with
  | nil => exact .inl hb
  | cons _ _ => exact hb
 let Eb : Env := { η := E.η, ρ := fun _ => none, V := fun b => Zc b ∨ b ∈ ids.filterMap E.ρ, w := E.w }
 have hEV : ∀ b, Eb.V b → E.V b := by
  rintro b (hb | hb)
  ·rcases hZc b hb with hz | hw
   ·exact (hr.V b).2 (.inl hz)
   ·exact (hr.V b).2 (.inr (hwr b hw))
  ·exact (hr.V b).2 (.inr (hX b hb).1)
 have hold : ∀ b, Wr E.ρ H b → b < E.w.heap.size := by
  rintro b ⟨i, es, h1, h2⟩; exact hr.old i b h2
 have hb0 : HeapRep (fun b => Zc b ∨ b ∈ ids.filterMap E.ρ) Eb noHeap 0 := by
  refine ⟨fun id cs hh => by simp [noHeap] at hh, fun id id' n h1 => by simp [noHeap] at h1, fun b => ?_, fun id n h1 => by simp [noHeap] at h1, fun id _ => ⟨rfl, rfl⟩, hr.one, (fun id n hn => nomatch hn), fun b hb => ?_, hr.tab.same rfl hEV⟩
  ·constructor
   ·exact fun hb => .inl hb
   ·rintro (hb | ⟨i, es, h1, _⟩)
    ·exact hb
    ·simp [noHeap] at h1
  ·rcases hb with hb | hb
   ·rcases hZc b hb with hz | hw
    ·exact hr.zold b hz
    ·exact hold b (hwr b hw)
   ·exact hold b (hX b hb).1
 have hXZ : ∀ b ∈ ids.filterMap E.ρ, ¬ Zc b := by
  intro b hb hz
  rcases hZc b hz with hz | ⟨i, es, h1, h2⟩
  ·exact (hX b hb).2 hz
  ·exact hrem.apart i b (by rw [h1]; simp) h2 (.inr hb)
 have hargs : RepBL Eb ys vals (ids.filterMap E.ρ) := by
  refine passL_ok (E' := Eb) hr ⟨rfl, rfl⟩ hEV hp (fun id hid n hn hv => ?_) hx
  have hnot := hdisj id hid
  have hHid : H id ≠ none := by
   have : ∀ {xs ys : List AV} {ids bs : List Nat}, PassedL H xs ys ids bs → ∀ id ∈ bs, H id ≠ none := by
    intro xs ys ids bs hp
    induction hp with
    | nil => simp
    | cons h1 t ih =>
     intro id hid
     rcases List.mem_append.1 hid with hid | hid
     ·cases h1 with
      | dem => simp at hid
      | bor hc => simp at hid; subst hid; rw [hc]; simp
      | agg hf => exact flat_mem hf id hid
     ·exact ih id hid
   exact this hp id hid
  have hmem : ¬ n ∈ ids.filterMap E.ρ := by
   intro hm
   obtain ⟨j, hj, hjn⟩ := List.mem_filterMap.1 hm
   exact hnot ((hr.inj id j n hHid (PassedL_mem hp j hj) hn hjn) ▸ hj)
  rcases hv with hv | hv
  ·cases bs with
   | nil => simp at hid
   | cons _ _ => exact hr.apart id n hHid hn hv
  ·exact hmem hv
 refine (hcall Zc Eb vals (ids.filterMap E.ρ) hb0 hargs hXnd hXZ hI).mono ?_
 rintro e w' ⟨v, E1, Xr, rfl, hw1, hη1, hev, hV1, hres, hXr, hXrp, hJ⟩
 have hevE : Evo (· ∈ ids.filterMap E.ρ) E.w w' := hev
 obtain ⟨Em, m1, m2, m3, m4, m5⟩ := hrem.evolve (Z2 := fun b => Z b ∨ b ∈ Xr) hevE (fun b hb => .inr hb)
  (fun b hb => by
   rcases hb with hb | hb
   ·exact Nat.lt_of_lt_of_le (hr.zold b hb) hev.size
   ·exact (hXrp b hb).2.2)
  (fun b hb hlt => by
   rcases hb with hb | hb
   ·exact .inl hb
   ·exact .inr ((hXrp b hb).2.1 hlt))
 have hsame : SameMem E1 Em := ⟨m2.trans hη1.symm, m1.trans hw1.symm⟩
 have hres' : RepBL Em (outs ++ [r]) (refVals ys vals ++ [v]) Xr := by
  cases bs with
  | nil =>
   refine RepBL.mono hsame (fun b hb => ?_) _ _ _ hres
   rw [hV1]
   rcases (m5.V b).1 hb with (hz | hx) | hw
   ·exact .inl (.inl hz)
   ·exact .inr hx
   ·rw [m3] at hw; exact .inl (.inr hw)
  | cons _ _ => exact RepBL.noRo hsame _ _ _ hnoro hres
 obtain ⟨p1, p2⟩ := ptrs_ok hp hx
 cases ht : takeRefs (remH H ids, nx) (refIds ys xs) outs with
 | none => rw [ht] at hk; exact hk.elim
 | some s =>
 rw [ht] at hk
 simp only at hk
 obtain ⟨vs1, vs2, Y, Y', q1, q2, rfl, q4, q5⟩ := RepBL_append outs [r] _ Xr hres'
 have hlen : (refVals ys vals).length = outs.length := by
  have := congrArg List.length q1
  simp only [RepBL] at q5
  obtain ⟨u, us, W, W', rfl, _, _, rfl, _⟩ := q5
  simp at this
  omega
 obtain ⟨e1, e2⟩ := List.append_inj q1 (by omega)
 subst e1; subst e2
 simp only [RepBL] at q5
 obtain ⟨u, us, W, W', e3, rfl, q5, rfl, rfl⟩ := q5
 injection e3 with e3 _
 subst e3
 rw [List.append_nil] at hXr hXrp m5
 obtain ⟨n1, n2, n3⟩ := List.nodup_append.1 hXr
 have hpm : PtrL Em (refIds ys xs) (refVals ys vals) := by
  have : ∀ (is : List Nat) (us : List Value), PtrL E is us → PtrL Em is us := by
   intro is
   induction is with
   | nil => intro us hp; cases us <;> simp_all [PtrL]
   | cons j js ih =>
    intro us hp
    cases us with
    | nil => simp [PtrL] at hp
    | cons w ws =>
     simp only [PtrL] at hp ⊢
     obtain ⟨⟨m, hm, rfl⟩, hp⟩ := hp
     exact ⟨⟨m, by rw [m3]; exact hm, rfl⟩, ih ws hp⟩
  exact this _ _ p1
 obtain ⟨E2, t1, t2, t3, t4, t5⟩ := takeRefs_ok _ _ _ Y _ Em _ _ s m5 q4 hpm n1 (fun b hb => .inr (by simp [hb])) (fun i hi => remH_none ids H i (.inl (p2.subset hi))) (p2.nodup hids) ht
 have q5' := RepB.mono t1 t2 r v W q5
 obtain ⟨E3, k1, k2⟩ := matV_ok r v W _ E2 s.1 s.2 t5 q5' n2 (fun b hb => ⟨.inr (by simp [hb]), fun hy => n3 b hy b hb rfl⟩)
 have hL : Later E E3 := by
  refine m4.trans (Later.trans (B := E2) (t1.later (fun id n hn => ?_) t2) (Taken.later t5 k1))
  rcases Nat.lt_or_ge id nx with hi | hi
  ·rw [t3 id hi]; exact hn
  ·rw [(m5.fresh id hi).1] at hn; cases hn
 refine ⟨(matV r s).1, (matV r s).2.1, (matV r s).2.2, E3, v, rfl, hk, ?_, ⟨hL, ?_, k2, k1.heap.congrZ fun b => ?_⟩, hJ⟩
 ·rw [k1.mem.w, t1.w, m1]
 ·rw [k1.mem.w, t1.w, m1]
  exact hevE.mono fun b hb => (hX b hb).1
 ·constructor
  ·rintro ⟨⟨hz | hx, hny⟩, hnw⟩
   ·exact hz
   ·rcases List.mem_append.1 hx with hx | hx
    ·exact absurd hx hny
    ·exact absurd hx hnw
  ·intro hz
   refine ⟨⟨.inl hz, fun hy => ?_⟩, fun hw => ?_⟩
   ·exact (hXrp b (by simp [hy])).1 (hZc0 b hz)
   ·exact (hXrp b (by simp [hw])).1 (hZc0 b hz)
theorem callP_sound {P : Program} {Z : Nat → Prop} {E : Env} {H : Heap} {nx : Nat} (hr : HeapRep Z E H nx) {M : List Mode} {f : FuncId} {xs : List AV} {vals : List Value} {K : AV → Heap → Nat → Prop}
  (hx : RepL E xs vals) (h : callP P M f H nx xs K) :
  Calls P f vals.toArray E.w fun e w' => ∃ x H' nx' E' v, e = .returned v ∧ K x H' nx' ∧ E'.w = w' ∧ After Z E H x H' nx' v E' := by
 unfold callP at h
 obtain ⟨ys, ids, bs, ⟨hnd, r, outs, hcall, hnoro, hk⟩, hp⟩ := passAll_ok M xs _ h
 refine (callJ_core hr hx hnd hcall.toJ trivial hnoro hk hp).mono ?_
 rintro e w' ⟨x, H', nx', E', v, k1, k2, k3, k4, _⟩
 exact ⟨x, H', nx', E', v, k1, k2, k3, k4⟩
end
end Go.Proofs.Ytbkclacjamlebaa.Abs
