/- The law FeedGrows: it answers true whatever it is given; what it is given reads as before. Condition: the tables of unicode/utf8 hold what the program's text lays, which the card ties. -/
import Derived.Test.YtbkclacjamlebaaGreatDoorRows
import Derived.Test.YtbkclacjamlebaaGreatDoorCards
import Derived.Test.YtbkclacjamlebaaGreatDoorTie
import Derived.WalkKit
import Derived.ProofKit
import Derived.OpenShut
import Derived.ShutString
import Derived.ChangeOld
import Derived.Below
import Derived.SizedLaws
import Derived.Carry
import Derived.ChangeSlices
import Derived.LaidMore
import Derived.Stop.Joined
import Derived.SevenTiedAt
import Derived.Lay
import Derived.Test.YtbkclacjamlebaaGreatDoorV16
namespace Go.Proofs.YtbkclacjamlebaaGreatDoor.feedGrows
open Go Go.ChangeShapes Go.WideShapes Go.ChangeAt Go.RowKit Go.Proofs.YtbkclacjamlebaaGreatDoor.Abs
set_option linter.unusedVariables false
set_option linter.unusedSimpArgs false
theorem own : ownKnob Tryz.prog.godebug = none := by kernel_rfl
theorem laidOut : laidOutB Tryz.prog = true := by kernel_rfl
noncomputable def laidWorld (os : Os) : World := World.laidAll Tryz.prog os Rows.feedGrowsRow.laid
theorem laid_met (os : Os) (args : Array Value) : laidMetH Tryz.prog Rows.feedGrowsRow.laid ((laidWorld os).forCall (fun _ _ => 0) ⟨#[], args, []⟩).memory := by
  rw [MakeChecks.laidMetH_plain _ _ _ (by kernel_rfl)]
  exact laidMet_laidAll args (by kernel_rfl) (by kernel_rfl)
theorem okWide_array {P : Program} {w : World} {r : Reach} {base : Nat} {t : TypeId} {v : Value} {n : Nat} {e : TypeId} (ht : P.underlying t = some (.array n e)) (h : Value.okWide P w r base t v) : ∃ cs, v = .agg cs ∧ cs.size = P.cellsOf t := by
  simp only [Value.okWide, ht] at h
  obtain ⟨cs, h1, h2, _⟩ := h
  exact ⟨cs, h1, h2⟩
set_option maxRecDepth 100000 in
theorem lifted (os : Os) (started : os.Started) (H : Type) (enc : TypeId × Value → H) :
    ReturnsInHanded {} Tryz.checked os 5 .any (fun w args => (Rows.feedGrowsSpec.pre enc Tryz.prog Tryz.f5 [] false w args ∧ laidMetH Tryz.prog Rows.feedGrowsRow.laid w) ∧ sizedMet enc Tryz.prog Tryz.f5 (OpenSpec.ofChange Rows.feedGrowsSpec) false w args)
      (Rows.feedGrowsSpec.post enc Tryz.prog Tryz.f5 false true false false) := by
  refine returnsInHanded_of_change_and (C := Tryz.checked) (X := fun w _ => laidMetH Tryz.prog Rows.feedGrowsRow.laid w) (fun _ _ _ hh h => h.of_heap hh) own started (by kernel_rfl) Tryz.func5
    (ChangeSpec.witness_shaped (enc := enc) (C := Tryz.checked) (os := os) (X := fun w _ => laidMetH Tryz.prog Rows.feedGrowsRow.laid w) false (laidWorld os) #[.agg (Array.replicate 32 (.int .u8 0)), .slice none 0 0] 8 (World.laidAll_os _ _ _) (World.shaped_of_RefB (by kernel_rfl) (by kernel_rfl)) (by kernel_rfl) (by kernel_rfl) (by kernel_rfl) (laid_met os _)) ?_
  intro W base args ds gs before hval0 hW _ _ hL _
  have hval : ∀ (j : Nat) t v, Tryz.f5.params[j]? = some t → args[j]? = some v → Value.okWide Tryz.prog W .any base t v := hval0
  have hW' := hW
  obtain ⟨p, q, hA0, hV, rfl, hfz, hnd⟩ := hW
  have hA : DataW.TrodAll enc Tryz.prog W 0 (fun _ => true) true Tryz.f5.params.toList args.toList ds p := hA0
  rw [Tryz.params5] at hA hval
  rw [MakeChecks.laidMetH_plain _ _ _ (by kernel_rfl)] at hL
  have htab : TabOk (env0 W) := tabOk_of_laid hL
  obtain ⟨v0, vs0, d0, ds0, p0, q0, hargs, rfl, rfl, h0, r0⟩ := trodAll_cons hA
  obtain ⟨v1, vs1, d1, ds1, p1, q1, rfl, rfl, rfl, h1, r1⟩ := trodAll_cons r0
  obtain ⟨rfl, rfl, rfl⟩ := trodAll_nil r1
  obtain rfl : args = #[v0, v1] := by cases args; simp_all
  obtain ⟨rfl, rfl⟩ := trodVars_none hV
  obtain ⟨a0, rfl, _⟩ := okWide_array Tryz.underlying22 (hval 0 22 v0 rfl rfl)
  have k0 := h0
  have lt0 : ∀ x ∈ p0, x.block < W.heap.size := by obtain ⟨m, hm⟩ := k0; exact DataW.trod_lt m _ _ _ hm
  obtain ⟨x0, w0, t0⟩ := (by obtain ⟨fuel, hf⟩ := h0; exact open_any TTok 6 fuel 22 _ _ (by kernel_rfl) hf : ∃ xs, RepL (env0 W) xs (Value.cells _).toList ∧ TyL TT 6 22 xs)
  obtain ⟨l0, rfl, b0⟩ := a32_of_ty t0
  have w0 := rep_agg w0
  obtain ⟨a1, len1, cap1, rfl⟩ := okWide_slice Tryz.underlying52 (hval 1 52 v1 rfl rfl)
  have k1 := h1
  have lt1 : ∀ x ∈ p1, x.block < W.heap.size := by obtain ⟨m, hm⟩ := k1; exact DataW.trod_lt m _ _ _ hm
  obtain ⟨x1, w1, t1⟩ := (by obtain ⟨fuel, hf⟩ := h1; exact open_any TTok 10 fuel 52 _ _ (by kernel_rfl) hf : ∃ xs, RepL (env0 W) xs (Value.cells _).toList ∧ TyL TT 10 52 xs)
  obtain ⟨l1, rfl, b1⟩ := ents_of_ty t1
  have w1 := rep_one w1 rfl
  clear hA0 hval0
  refine (ACall.row (feedGrows_row l0 l1 b0 b1) (by simp [pureL, pureV, pureL_bys, pureL_ints, pureL_toks, entC_pure, prfC_pure, c32_pure, c64_pure, fdC_pure, ents_pure]) (W := W) (vals := [.agg a0, .slice a1 len1 cap1]) (by simp only [RepL]; exact ⟨_, _, rfl, w0, ⟨_, _, rfl, w1, rfl⟩⟩) htab).mono fun e W' ⟨he, bel⟩ => ?_
  subst he
  exact ⟨_, rfl, _, _, _, [], _, [], hW', trodAll_mk1 (shut_bool Tryz.underlying4 _), (trodAll_cons_mk (Below.trod laidOut (by kernel_rfl) (of_decide_eq_true (by kernel_rfl)) k0 bel lt0) (trodAll_cons_mk (Below.trod laidOut (by kernel_rfl) (of_decide_eq_true (by kernel_rfl)) k1 bel lt1) trodAll_mk0)), rfl, bel.frame _, fun h => by cases h⟩
theorem over : Rows.feedGrowsRow.holds Tryz.pinned (OpenSpec.ofChange Rows.feedGrowsSpec) :=
  OpenClaim.holds_of_wide 5 Tryz.f5 rfl rfl rfl rfl rfl rfl rfl ⟨rfl, rfl, rfl, rfl, rfl⟩ rfl rfl rfl rfl rfl (by kernel_rfl) Tryz.func5 (by kernel_rfl)
    (of_decide_eq_true (by kernel_rfl)) (by unfold Func.isWrapper; first | (rw [if_pos (by decide +kernel)]; kernel_rfl) | (rw [if_neg (by decide +kernel)]; exact ⟨rfl, rfl⟩))
    (fun os started H enc _ => lifted os started H enc)
/-- The tied card. -/
theorem card : Claim7.holds Tryz.pinned (.plain (OpenSpec.ofChange Rows.feedGrowsSpec)) Rows.feedGrowsCard :=
  Claim7.holds_tied_plain_at .later [] [.data, .pinned] true (true, "c99c952065f7b128e2cab0a40cd5a9c5bc0c4cfbe8a8b2769001823ab9b5760e") false
    over (fun _ h => by cases h) (by kernel_rfl) (fun _ h => by cases h) feedGrows_row_tie rfl ⟨rfl, rfl⟩ (by kernel_rfl) rfl
    (fun f fn hf hfn => by
      obtain rfl : f = 5 := Option.some.inj ((show Tryz.prog.funcNamed "codicil/codicillaw17.FeedGrows" = some 5 by kernel_rfl).symm.trans hf) |>.symm
      obtain rfl : fn = Tryz.f5 := (Option.some.inj (Tryz.func5.symm.trans hfn)).symm
      exact ⟨by kernel_rfl, fun j t ht => by
        rw [Tryz.params5] at ht
        have hm : t ∈ [22, 52] := by simpa using Array.mem_of_getElem? ht
        have hall : ([22, 52].all fun u => !Tryz.prog.wantsStandIn u) = true := by kernel_rfl
        exact (show Tryz.prog.wantsStandIn t = false by simpa using List.all_eq_true.1 hall t hm)⟩)
    (by kernel_rfl)
end Go.Proofs.YtbkclacjamlebaaGreatDoor.feedGrows
namespace Go.Proofs.YtbkclacjamlebaaGreatDoor
/-- The law FeedGrows. -/
theorem feedGrows_holds : Rows.FeedGrowsCardSaid := feedGrows.card
end Go.Proofs.YtbkclacjamlebaaGreatDoor
