/-
  The statement BrokerKnown: for every input the law returns true, and its arguments read as they did.
  No condition.
-/
import Derived.Test.YtdobgebdlbckoaaGreatDoorRows
import Derived.Test.YtdobgebdlbckoaaGreatDoorFrame
import Derived.Test.YtdobgebdlbckoaaGreatDoorCards
import Derived.Test.YtdobgebdlbckoaaGreatDoorTie
import Derived.Test.YtdobgebdlbckoaaGreatDoorCard
import Derived.LaidMore
import Derived.Lay
import Derived.SevenTiedAt
import Derived.Stop.Joined
import Derived.Test.YtdobgebdlbckoaaGreatDoorBkK
import Derived.Test.YtdobgebdlbckoaaGreatDoorWdG
namespace Go.Proofs.YtdobgebdlbckoaaGreatDoor.brokerKnown
open Go.ChangeShapes Go.WideShapes Go.ChangeAt Go.RowKit Go.Proofs.YtdobgebdlbckoaaGreatDoor.Sep Go.Proofs.YtdobgebdlbckoaaGreatDoor.Frame
open Go.ChangeMaps (open_string shut_string)
open Go.Proofs.YtdobgebdlbckoaaGreatDoor.BkK
set_option linter.unusedVariables false

theorem own : ownKnob Tryz.prog.godebug = none := by kernel_rfl
theorem laidOut : laidOutB Tryz.prog = true := by kernel_rfl

set_option maxRecDepth 100000 in
theorem lifted (os : Os) (started : os.Started) (H : Type) (enc : TypeId × Value → H) :
    ReturnsInHanded {} Tryz.checked os 6 .any (fun w args => (Rows.brokerKnownSpec.pre enc Tryz.prog Tryz.f6 Rows.brokerKnownRow.domain false w args ∧ laidMetH Tryz.prog Rows.brokerKnownRow.laid w) ∧ sizedMet enc Tryz.prog Tryz.f6 (OpenSpec.ofChange Rows.brokerKnownSpec) false w args) (Rows.brokerKnownSpec.post enc Tryz.prog Tryz.f6 false true false false) := by
  refine Card.returns_both (C := Tryz.checked) (X := fun w _ => laidMetH Tryz.prog Rows.brokerKnownRow.laid w) (fun _ _ _ hh h => h.of_heap hh) own started (by kernel_rfl) Tryz.func6
    (ChangeSpec.witness_shaped (enc := enc) (C := Tryz.checked) (os := os) (X := fun w _ => laidMetH Tryz.prog Rows.brokerKnownRow.laid w) false (World.laidAll Tryz.prog os Rows.brokerKnownRow.laid) #[] 8 (World.laidAll_os _ _ _)
      (World.shaped_of_ZipB (by kernel_rfl) (by kernel_rfl)) (by kernel_rfl) (by kernel_rfl) (by kernel_rfl)
      (by rw [MakeChecks.laidMetH_plain _ _ _ (by kernel_rfl)]; exact laidMet_laidAll _ (by kernel_rfl) (by kernel_rfl))) ?_
  intro W base args ds gs before hval0 hW hcnd hL hsh
  have hval : ∀ (j : Nat) t v, Tryz.f6.params[j]? = some t → args[j]? = some v → Value.okWide Tryz.prog W .any base t v := hval0
  have hW' := hW
  obtain ⟨p, q, hA0, hV, rfl, hfz, hnd⟩ := hW
  have hA : DataW.TrodAll enc Tryz.prog W 0 (fun _ => true) true Tryz.f6.params.toList args.toList ds p := hA0
  rw [Tryz.params6] at hA hval
  obtain ⟨rfl, rfl, rfl⟩ := trodAll_none hA
  obtain ⟨rfl, rfl⟩ := trodVars_none hV
  clear hA0 hval0
  have hG : Go.Proofs.YtdobgebdlbckoaaGreatDoor.WdN.Gl W := Go.Proofs.YtdobgebdlbckoaaGreatDoor.WdG.gl_of (laid := Rows.brokerKnownRow.laid) hL (by kernel_rfl) (by kernel_rfl) hsh
  refine (BkK.known_any  (W := W) (hG := hG)).mono fun e W' ⟨he, hS⟩ => ?_
  subst he
  exact ⟨_, rfl, _, _, _, [], _, [], hW', trodAll_mk1 (shut_bool Tryz.underlying4 _), trodAll_mk0, rfl, hS.below.frame _, fun h => by cases h⟩

theorem over : Rows.brokerKnownRow.holds Tryz.pinned (OpenSpec.ofChange Rows.brokerKnownSpec) :=
  OpenClaim.holds_of_wide 6 Tryz.f6 rfl rfl rfl rfl rfl rfl rfl ⟨rfl, rfl, rfl, rfl, rfl⟩ rfl rfl rfl rfl rfl (by kernel_rfl) Tryz.func6 (by kernel_rfl)
    (of_decide_eq_true (by kernel_rfl)) (by unfold Func.isWrapper; first | (rw [if_pos (by decide +kernel)]; kernel_rfl) | (rw [if_neg (by decide +kernel)]; exact ⟨rfl, rfl⟩))
    (fun os started H enc _ => lifted os started H enc)


/-- The statement: the card. -/
theorem proved : Rows.BrokerKnownCardSaid :=
  Claim7.holds_tied_plain_at .later [] [.data, .data, .data] true (true, "eb0cf306507bcfc7ba8c186a5cf823a11a8a080634520a1a069b5975069773b6") true over (fun _ h => by cases h) (by kernel_rfl) (fun _ h => by cases h) brokerKnown_row_tie rfl ⟨rfl, rfl⟩ (by kernel_rfl) rfl
    (fun f fn hf hfn => by
      obtain rfl : f = 6 := Option.some.inj ((show Tryz.prog.funcNamed "crier/crierlaw24.BrokerKnown" = some 6 by kernel_rfl).symm.trans hf) |>.symm
      obtain rfl : fn = Tryz.f6 := (Option.some.inj (Tryz.func6.symm.trans hfn)).symm
      exact ⟨by kernel_rfl, fun j t ht => by
        rw [Tryz.params6] at ht
        simp at ht⟩)
    (by kernel_rfl)
end Go.Proofs.YtdobgebdlbckoaaGreatDoor.brokerKnown
