/- Conversions: sound. -/
import Derived.Test.YtaefmhdpfmpijaaFO
set_option linter.unusedVariables false
set_option linter.unusedSimpArgs false
namespace Go.Proofs.Ytaefmhdpfmpijaa.Abs
open Go

def convP (T : Types) (H : Heap) (nx : Nat) (src dst : TypeId) (X : AV) (K : AV → Heap → Nat → Prop) : Prop :=
  match T src, T dst with
  | some si, some di => match di.d, X with
    | .int k, .int _ n => fitP k n fun m => K (.int k m) H nx
    | .str, .str s => K (.str s) H nx
    | .str, .int _ n => match si.d with
      | .int _ => K (.str (bytesOf (Utf8.encode n))) H nx
      | _ => False
    | .slice e, .str s => match si.d, T e with
      | .str, some ⟨.int k, _, _, _, _⟩ => cond (kEq k .u8) (K (.sl nx 0 s.length 1 false) (setH H nx (some (s.map (AV.int .u8)))) (nx + 1)) False
      | _, _ => False
    | .str, X => match si.d with
      | .slice e => match T e with
        | some ⟨.int k, _, _, _, _⟩ => cond (kEq k .u8) (srcP H 1 X fun n src => ∃ xs : List Int, (src = xs.map (AV.int .u8) ∧ ∀ x ∈ xs, 0 ≤ x ∧ x < 256) ∧ K (.str xs) H nx) False
        | _ => False
      | _ => False
    | _, _ => False
  | _, _ => False

theorem freeze_alloc (w : World) (c : Array Value) (e : TypeId) (n : Nat) :
    (w.alloc (.cells c e (0, 0))).freeze ⟨w.heap.size, n, none⟩ 1 = w.alloc (.cells c e (n, n + 1)) := by
  simp only [World.freeze, World.alloc]
  rw [if_neg (by decide)]
  congr 1
  apply Array.ext_getElem?
  intro i
  rw [Array.getElem?_modify]
  simp only [Array.getElem?_push]
  by_cases h : w.heap.size = i
  · subst h; simp
  · rw [if_neg h, if_neg (Ne.symm h), if_neg (Ne.symm h)]

theorem bytes_push (ns : List Int) (h : ∀ x ∈ ns, 0 ≤ x ∧ x < 256) : ∀ s : ByteArray, bytesOf (ns.foldl (fun r n => r.push (UInt8.ofNat n.toNat)) s) = bytesOf s ++ ns := by
  induction ns with
  | nil => intro s; simp
  | cons n ns ih =>
    intro s
    rw [List.foldl_cons, ih (fun x hx => h x (by simp [hx]))]
    have hb : bytesOf (s.push (UInt8.ofNat n.toNat)) = bytesOf s ++ [n] := by
      have := h n (by simp)
      simp only [bytesOf, ByteArray.push, Array.toList_push, List.map_append, List.map_cons, List.map_nil]
      congr 2
      simp only [UInt8.toNat_ofNat']
      omega
    rw [hb, List.append_assoc]; rfl

set_option maxHeartbeats 1000000 in
theorem convP_sound {P : Program} {T : Types} (hT : TOK P T) {Z : Nat → Prop} {E : Env} {H : Heap} {nx : Nat} (hr : HeapRep Z E H nx) {src dst : TypeId} {X : AV} {v : Value} {K : AV → Heap → Nat → Prop}
    (hx : RepV E X v) (h : convP T H nx src dst X K) :
    ∃ x H' nx' E' r, K x H' nx' ∧ (convert src dst v).run P E.w = .ok r E'.w ∧ After Z E H x H' nx' r E' := by
  unfold convP at h
  split at h
  case h_2 => exact h.elim
  rename_i si di hs hd
  obtain ⟨ds, hds, hso, _⟩ := (hT src _ hs).und
  obtain ⟨dd, hdd, hdo, _⟩ := (hT dst _ hd).und
  split at h
  · rename_i k j n hdk
    rw [hdk] at hdo
    have ho' : dd = .int k := hdo
    subst ho'
    simp only [RepV] at hx
    subst hx
    exact ⟨_, _, _, E, _, h.elim, by simp [convert, run_underlying hds, run_underlying hdd, Conv.intToInt], After.pure hr (rep_int E _ _)⟩
  · rename_i s hdk
    rw [hdk] at hdo
    have ho' : dd = .string := hdo
    subst ho'
    simp only [RepV] at hx
    obtain ⟨ba, rfl, rfl⟩ := hx
    exact ⟨_, _, _, E, .string ba, h, by simp [convert, run_underlying hds, run_underlying hdd], After.pure hr (by simp only [RepV]; exact ⟨ba, rfl, rfl⟩)⟩
  · rename_i j n hdk
    split at h
    case h_2 => exact h.elim
    rename_i k hsk
    rw [hdk] at hdo
    have ho' : dd = .string := hdo
    subst ho'
    rw [hsk] at hso
    have hs' : ds = .int k := hso
    subst hs'
    simp only [RepV] at hx
    subst hx
    exact ⟨_, _, _, E, .string (Utf8.encode n), h, by simp [convert, run_underlying hds, run_underlying hdd, Conv.intToString], After.pure hr (by simp only [RepV]; exact ⟨_, rfl, rfl⟩)⟩
  · rename_i e s hdk
    split at h
    case h_2 => exact h.elim
    rename_i k b1 b2 b3 b4 hsk he
    cases hkk : kEq k .u8 with
    | false => rw [hkk] at h; exact h.elim
    | true =>
    rw [hkk] at h
    simp only [cond_true] at h
    obtain rfl := kEq_eq hkk
    rw [hdk] at hdo
    have ho' : dd = .slice e := hdo
    subst ho'
    rw [hsk] at hso
    have hs' : ds = .string := hso
    subst hs'
    obtain ⟨de, hde, heo, _⟩ := (hT e _ he).und
    have he' : de = .int .u8 := heo
    subst he'
    simp only [RepV] at hx
    obtain ⟨ba, rfl, rfl⟩ := hx
    have hrd := hr.drawn (E.w.drawn + 1)
    have Ld := later_drawn E (E.w.drawn + 1)
    let q := Question.appendCap ba.size 0 e
    let cap := q.cut (E.w.tape E.w.drawn q)
    have hcap : ba.size ≤ cap := by simp [cap, q, Question.cut]
    let cells : Array Value := (ba.data.map fun b => Value.int .u8 b.toNat) ++ Array.replicate (cap - ba.size) (.int .u8 0)
    have hcs : cells.size = cap := by
      have : ba.data.size = ba.size := rfl
      simp [cells, this]; omega
    have hcell : ∀ (j : Nat) x, ((bytesOf ba).map (AV.int .u8))[j]? = some x → ∃ u, cells[j]? = some u ∧ RepV (E.drawn (E.w.drawn + 1)) x u := by
      intro j x hx
      rw [List.getElem?_map] at hx
      simp only [bytesOf, List.getElem?_map] at hx
      cases hj : ba.data.toList[j]? with
      | none => rw [hj] at hx; simp at hx
      | some y =>
        rw [hj] at hx
        simp at hx
        refine ⟨.int .u8 y.toNat, ?_, by rw [← hx]; exact rep_int _ _ _⟩
        have hlt : j < ba.data.size := by
          rcases Nat.lt_or_ge j ba.data.toList.length with h' | h'
          · simpa using h'
          · rw [List.getElem?_eq_none h'] at hj; cases hj
        simp only [cells]
        rw [Array.getElem?_append_left (by simpa using hlt), Array.getElem?_map]
        rw [Array.getElem?_toList] at hj
        rw [hj]; rfl
    have hal := hrd.alloc cells e (cap, cap + 1) ((bytesOf ba).map (AV.int .u8)) (fun j hj hc => by omega) (by simp [length_bytesOf]; omega) hcell
    refine ⟨_, _, _, _, .slice (some ⟨E.w.heap.size, 0, none⟩) ba.size cap, h, ?_, ⟨Ld.trans (later_alloc _ _ (hrd.fresh nx (Nat.le_refl _)).1), (Evo.drawn _ _ _).trans (Evo.alloc (Wr E.ρ H) _ _) (fun _ _ h => h), ?_, hal⟩⟩
    · have hch : (choose q).run P E.w = .ok cap { E.w with drawn := E.w.drawn + 1 } := by simp [choose, Sem.run, Question.forced, q, cap]
      have hnew : (newRow e cells).run P { E.w with drawn := E.w.drawn + 1 } = .ok ⟨E.w.heap.size, 0, none⟩ (World.alloc { E.w with drawn := E.w.drawn + 1 } (.cells cells e)) := by simp [newRow, newObj, Sem.run]; rfl
      have hsh : (World.alloc { E.w with drawn := E.w.drawn + 1 } (.cells cells e)).shape? E.w.heap.size = some (e, cells.size) := by
        simp [World.shape?, World.alloc]
      have hfz := freeze_alloc { E.w with drawn := E.w.drawn + 1 } cells e cells.size
      have hmk : (markStringish ⟨E.w.heap.size, 0, none⟩).run P (World.alloc { E.w with drawn := E.w.drawn + 1 } (.cells cells e)) = .ok () (World.alloc { E.w with drawn := E.w.drawn + 1 } (.cells cells e (cap, cap + 1))) := by
        simp only [markStringish, Sem.run_bind, shape, Sem.run, hsh, Result.andThen_ok, freeze]
        rw [hcs] at hfz
        simpa [Sem.run, hcs] using hfz
      have : (Conv.stringToBytes e ba).run P E.w = .ok (.slice (some ⟨E.w.heap.size, 0, none⟩) ba.size cap) (World.alloc { E.w with drawn := E.w.drawn + 1 } (.cells cells e (cap, cap + 1))) := by
        simp only [Conv.stringToBytes, Sem.run_bind, Result.andThen_ok]
        rw [hch]
        simp only [Result.andThen_ok]
        show (((newRow e cells).run P { E.w with drawn := E.w.drawn + 1 }).andThen _) = _
        rw [hnew]
        simp only [Result.andThen_ok, hmk, Sem.run_pure]
      simp only [convert, Sem.run_bind, run_underlying hds, run_underlying hdd, run_underlying hde, Result.andThen_ok]
      exact this
    · simp only [RepV]
      exact ⟨some ⟨E.w.heap.size, 0, none⟩, cap, by rw [length_bytesOf], by rw [length_bytesOf]; exact hcap, (nofun), .inr ⟨_, cells, e, (cap, cap + 1), alloc_ρ_same _ _ _, rfl, Go.heap_alloc_new _ _, by omega⟩⟩
  · rename_i X hdk hn1 hn2
    split at h
    case h_2 => exact h.elim
    rename_i e hsk
    split at h
    case h_2 => exact h.elim
    rename_i k b1 b2 b3 b4 he
    cases hkk : kEq k .u8 with
    | false => rw [hkk] at h; exact h.elim
    | true =>
    rw [hkk] at h
    simp only [cond_true] at h
    obtain rfl := kEq_eq hkk
    rw [hdk] at hdo
    have ho' : dd = .string := hdo
    subst ho'
    rw [hsk] at hso
    have hs' : ds = .slice e := hso
    subst hs'
    obtain ⟨de, hde, heo, _⟩ := (hT e _ he).und
    have he' : de = .int .u8 := heo
    subst he'
    obtain ⟨n, src', ⟨xs, ⟨rfl, hb⟩, hk⟩, hS⟩ := srcP_sound (P := P) hr hx h
    obtain ⟨vs, h1, h2⟩ := hS.cells E.w.drawn
    have h1' : (Builtin.firstCells 1 n v).run P E.w = .ok vs E.w := h1
    have h3 := repL_ints _ _ h2
    have hvs : vs = (xs.map (Value.int .u8)).toArray := by rw [← h3]
    subst hvs
    have hlen := hS.len E.w
    refine ⟨_, _, _, E, .string (xs.foldl (fun r n => r.push (UInt8.ofNat n.toNat)) ByteArray.empty), hk, ?_, After.pure hr ?_⟩
    · have hsl : ∃ a cap, v = .slice a n cap := by
        cases v <;> simp [Builtin.lenOf, stuck] at hlen
        case slice a m c => exact ⟨a, c, by rw [hlen]⟩
        case string s =>
          exfalso
          unfold srcP at h
          split at h
          · simp only [RepV] at hx; cases hx
          · simp only [RepV] at hx; obtain ⟨_, _, hx, _⟩ := hx; cases hx
          · simp only [RepV] at hx; obtain ⟨_, _, hx, _⟩ := hx; cases hx
          · first | exact hn1 _ rfl | exact hn2 _ rfl | exact hn1 _ _ rfl | exact hn2 _ _ rfl
          · exact h
      obtain ⟨a, cap, rfl⟩ := hsl
      cases a with
      | none =>
        have hxs : xs = [] := by
          simp [Builtin.firstCells] at h1'
          exact h1'
        subst hxs
        simp [convert, run_underlying hds, run_underlying hdd, run_underlying hde, Conv.bytesToString]
      | some a =>
        simp only [Builtin.firstCells, Nat.mul_one] at h1'
        simp only [convert, Sem.run_bind, run_underlying hds, run_underlying hdd, run_underlying hde, Result.andThen_ok]
        exact run_bytesToString E.w a n cap xs h1'
    · simp only [RepV]
      exact ⟨_, rfl, by rw [bytes_push xs hb]; rfl⟩
  · exact h.elim

end Go.Proofs.Ytaefmhdpfmpijaa.Abs
