/-
  The statement ScriptKnown: for every input the law returns true, and its arguments read as they did.
  No condition.
-/
import Derived.Test.YtcjlbimmplejjaaGreatDoorRows
import Derived.Test.YtcjlbimmplejjaaGreatDoorFrame
import Derived.Test.YtcjlbimmplejjaaGreatDoorCards
import Derived.Test.YtcjlbimmplejjaaGreatDoorTie
import Derived.Test.YtcjlbimmplejjaaGreatDoorCard
import Derived.LaidMore
import Derived.Lay
import Derived.SevenTiedAt
import Derived.Stop.Joined
import Derived.Test.YtcjlbimmplejjaaGreatDoorScKn
import Derived.Test.YtcjlbimmplejjaaGreatDoorWdG
namespace Go.Proofs.YtcjlbimmplejjaaGreatDoor.scriptKnown
open Go.ChangeShapes Go.WideShapes Go.ChangeAt Go.RowKit Go.Proofs.YtcjlbimmplejjaaGreatDoor.Sep Go.Proofs.YtcjlbimmplejjaaGreatDoor.Frame
open Go.ChangeMaps (open_string shut_string)
open Go.Proofs.YtcjlbimmplejjaaGreatDoor.ScKn
set_option linter.unusedVariables false

theorem own : ownKnob Tryz.prog.godebug = none := by kernel_rfl
theorem laidOut : laidOutB Tryz.prog = true := by kernel_rfl

set_option maxRecDepth 100000 in
theorem lifted (os : Os) (started : os.Started) (H : Type) (enc : TypeId × Value → H) :
    ReturnsInHanded {} Tryz.checked os 5 .any (fun w args => (Rows.scriptKnownSpec.pre enc Tryz.prog Tryz.f5 Rows.scriptKnownRow.domain false w args ∧ laidMetH Tryz.prog Rows.scriptKnownRow.laid w) ∧ sizedMet enc Tryz.prog Tryz.f5 (OpenSpec.ofChange Rows.scriptKnownSpec) false w args) (Rows.scriptKnownSpec.post enc Tryz.prog Tryz.f5 false true false false) := by
  refine Card.returns_both (C := Tryz.checked) (X := fun w _ => laidMetH Tryz.prog Rows.scriptKnownRow.laid w) (fun _ _ _ hh h => h.of_heap hh) own started (by kernel_rfl) Tryz.func5
    (ChangeSpec.witness_shaped (enc := enc) (C := Tryz.checked) (os := os) (X := fun w _ => laidMetH Tryz.prog Rows.scriptKnownRow.laid w) false (World.laidAll Tryz.prog os Rows.scriptKnownRow.laid) #[] 8 (World.laidAll_os _ _ _)
      (World.shaped_of_ZipB (by kernel_rfl) (by kernel_rfl)) (by kernel_rfl) (by kernel_rfl) (by kernel_rfl)
      (by rw [MakeChecks.laidMetH_plain _ _ _ (by kernel_rfl)]; exact laidMet_laidAll _ (by kernel_rfl) (by kernel_rfl))) ?_
  intro W base args ds gs before hval0 hW hcnd hL hsh
  have hval : ∀ (j : Nat) t v, Tryz.f5.params[j]? = some t → args[j]? = some v → Value.okWide Tryz.prog W .any base t v := hval0
  have hW' := hW
  obtain ⟨p, q, hA0, hV, rfl, hfz, hnd⟩ := hW
  have hA : DataW.TrodAll enc Tryz.prog W 0 (fun _ => true) true Tryz.f5.params.toList args.toList ds p := hA0
  rw [Tryz.params5] at hA hval
  obtain ⟨rfl, rfl, rfl⟩ := trodAll_none hA
  obtain ⟨rfl, rfl⟩ := trodVars_none hV
  clear hA0 hval0
  have hG : Go.Proofs.YtcjlbimmplejjaaGreatDoor.ScKn.GlE W := Go.Proofs.YtcjlbimmplejjaaGreatDoor.WdG.er_of (laid := Rows.scriptKnownRow.laid) hL (by kernel_rfl) (by kernel_rfl) (by kernel_rfl) (by kernel_rfl) hsh
  refine (ScKn.known_any  (W := W) (hG := hG)).mono fun e W' ⟨he, hS⟩ => ?_
  subst he
  exact ⟨_, rfl, _, _, _, [], _, [], hW', trodAll_mk1 (shut_bool Tryz.underlying4 _), trodAll_mk0, rfl, hS.below.frame _, fun h => by cases h⟩

theorem over : Rows.scriptKnownRow.holds Tryz.pinned (OpenSpec.ofChange Rows.scriptKnownSpec) :=
  OpenClaim.holds_of_wide 5 Tryz.f5 rfl rfl rfl rfl rfl rfl rfl ⟨rfl, rfl, rfl, rfl, rfl⟩ rfl rfl rfl rfl rfl (by kernel_rfl) Tryz.func5 (by kernel_rfl)
    (of_decide_eq_true (by kernel_rfl)) (by unfold Func.isWrapper; first | (rw [if_pos (by decide +kernel)]; kernel_rfl) | (rw [if_neg (by decide +kernel)]; exact ⟨rfl, rfl⟩))
    (fun os started H enc _ => lifted os started H enc)


/-- The statement: the card. -/
theorem proved : Rows.ScriptKnownCardSaid :=
  Claim7.holds_tied_plain_at .later [] [.data, .data, .data, .data, .sentinel, .sentinel, .pinned] true (true, "4c74d767f5597f7d235dbd4dc6ab851e012faf8c32719013b2f6e1a3c374e9ae") true over (fun _ h => by cases h) (by kernel_rfl) (fun _ h => by cases h) scriptKnown_row_tie rfl ⟨rfl, rfl⟩ (by kernel_rfl) rfl
    (fun f fn hf hfn => by
      obtain rfl : f = 5 := Option.some.inj ((show Tryz.prog.funcNamed "crier/crierlaw30.ScriptKnown" = some 5 by kernel_rfl).symm.trans hf) |>.symm
      obtain rfl : fn = Tryz.f5 := (Option.some.inj (Tryz.func5.symm.trans hfn)).symm
      exact ⟨by kernel_rfl, fun j t ht => by
        rw [Tryz.params5] at ht
        simp at ht⟩)
    (by kernel_rfl)
end Go.Proofs.YtcjlbimmplejjaaGreatDoor.scriptKnown
