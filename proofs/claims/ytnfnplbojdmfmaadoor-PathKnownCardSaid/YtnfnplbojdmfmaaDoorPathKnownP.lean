/-
  The statement PathKnown: for every input the law returns true, and its arguments read as they did.
  No condition.
-/
import Derived.Test.YtnfnplbojdmfmaaDoorRows
import Derived.Test.YtnfnplbojdmfmaaDoorFrame
import Derived.Test.YtnfnplbojdmfmaaDoorCards
import Derived.Test.YtnfnplbojdmfmaaDoorTie
import Derived.Test.YtnfnplbojdmfmaaDoorCard
import Derived.LaidMore
import Derived.Lay
import Derived.SevenTiedAt
import Derived.Stop.Joined
import Derived.Test.YtnfnplbojdmfmaaDoorPathK
namespace Go.Proofs.YtnfnplbojdmfmaaDoor.pathKnown
open Go.ChangeShapes Go.WideShapes Go.ChangeAt Go.RowKit Go.Proofs.YtnfnplbojdmfmaaDoor.Sep Go.Proofs.YtnfnplbojdmfmaaDoor.Frame
open Go.ChangeMaps (open_string shut_string)
open Go.Proofs.YtnfnplbojdmfmaaDoor.PathK
set_option linter.unusedVariables false

theorem own : ownKnob Tryd.prog.godebug = none := by kernel_rfl
theorem laidOut : laidOutB Tryd.prog = true := by kernel_rfl

set_option maxRecDepth 100000 in
theorem lifted (os : Os) (started : os.Started) (H : Type) (enc : TypeId × Value → H) :
    ReturnsInHanded {} Tryd.checked os 3 .any (fun w args => (Rows.pathKnownSpec.pre enc Tryd.prog Tryd.f3 Rows.pathKnownRow.domain false w args ∧ laidMetH Tryd.prog Rows.pathKnownRow.laid w) ∧ sizedMet enc Tryd.prog Tryd.f3 (OpenSpec.ofChange Rows.pathKnownSpec) false w args) (Rows.pathKnownSpec.post enc Tryd.prog Tryd.f3 false true false false) := by
  refine Card.returns_both (C := Tryd.checked) (X := fun w _ => laidMetH Tryd.prog Rows.pathKnownRow.laid w) (fun _ _ _ hh h => h.of_heap hh) own started (by kernel_rfl) Tryd.func3
    (ChangeSpec.witness_shaped (enc := enc) (C := Tryd.checked) (os := os) (X := fun w _ => laidMetH Tryd.prog Rows.pathKnownRow.laid w) false (World.laidAll Tryd.prog os Rows.pathKnownRow.laid) #[] 8 (World.laidAll_os _ _ _)
      (World.shaped_of_ZipB (by kernel_rfl) (by kernel_rfl)) (by kernel_rfl) (by kernel_rfl) (by kernel_rfl)
      (by rw [MakeChecks.laidMetH_plain _ _ _ (by kernel_rfl)]; exact laidMet_laidAll _ (by kernel_rfl) (by kernel_rfl))) ?_
  intro W base args ds gs before hval0 hW hcnd hL hsh
  have hval : ∀ (j : Nat) t v, Tryd.f3.params[j]? = some t → args[j]? = some v → Value.okWide Tryd.prog W .any base t v := hval0
  have hW' := hW
  obtain ⟨p, q, hA0, hV, rfl, hfz, hnd⟩ := hW
  have hA : DataW.TrodAll enc Tryd.prog W 0 (fun _ => true) true Tryd.f3.params.toList args.toList ds p := hA0
  rw [Tryd.params3] at hA hval
  obtain ⟨rfl, rfl, rfl⟩ := trodAll_none hA
  obtain ⟨rfl, rfl⟩ := trodVars_none hV
  clear hA0 hval0
  have hm : Go.Proofs.YtnfnplbojdmfmaaDoor.PathT.MaxLen W := Tryd.laysM145.s1_3 W hsh
  refine (known_walk  (W := W) (hm := hm)).mono fun e W' ⟨he, hS⟩ => ?_
  subst he
  exact ⟨_, rfl, _, _, _, [], _, [], hW', trodAll_mk1 (shut_bool Tryd.underlying4 _), trodAll_mk0, rfl, hS.below.frame _, fun h => by cases h⟩

theorem over : Rows.pathKnownRow.holds Tryd.pinned (OpenSpec.ofChange Rows.pathKnownSpec) :=
  OpenClaim.holds_of_wide 3 Tryd.f3 rfl rfl rfl rfl rfl rfl rfl ⟨rfl, rfl, rfl, rfl, rfl⟩ rfl rfl rfl rfl rfl (by kernel_rfl) Tryd.func3 (by kernel_rfl)
    (of_decide_eq_true (by kernel_rfl)) (by unfold Func.isWrapper; first | (rw [if_pos (by decide +kernel)]; kernel_rfl) | (rw [if_neg (by decide +kernel)]; exact ⟨rfl, rfl⟩))
    (fun os started H enc _ => lifted os started H enc)


/-- The statement: the card. -/
theorem proved : Rows.PathKnownCardSaid :=
  Claim7.holds_tied_plain_at .later [] [.data, .pinned] true (true, "bb9686322ce8ddae88a5187956719b43f40c7253740c650cba561f8c7c0afaa2") false over (fun _ h => by cases h) (by kernel_rfl) (fun _ h => by cases h) pathKnown_row_tie rfl ⟨rfl, rfl⟩ (by kernel_rfl) rfl
    (fun f fn hf hfn => by
      obtain rfl : f = 3 := Option.some.inj ((show Tryd.prog.funcNamed "crier/crierlaw11.PathKnown" = some 3 by kernel_rfl).symm.trans hf) |>.symm
      obtain rfl : fn = Tryd.f3 := (Option.some.inj (Tryd.func3.symm.trans hfn)).symm
      exact ⟨by kernel_rfl, fun j t ht => by
        rw [Tryd.params3] at ht
        simp at ht⟩)
    (by kernel_rfl)
end Go.Proofs.YtnfnplbojdmfmaaDoor.pathKnown
