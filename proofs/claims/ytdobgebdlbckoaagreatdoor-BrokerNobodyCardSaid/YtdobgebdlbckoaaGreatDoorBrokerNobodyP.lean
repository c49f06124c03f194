/-
  The statement BrokerNobody: for every input the law returns true, and its arguments read as they did.
  No condition.
-/
import Derived.Test.YtdobgebdlbckoaaGreatDoorRows
import Derived.Test.YtdobgebdlbckoaaGreatDoorFrame
import Derived.Test.YtdobgebdlbckoaaGreatDoorCards
import Derived.Test.YtdobgebdlbckoaaGreatDoorTie
import Derived.Test.YtdobgebdlbckoaaGreatDoorCard
import Derived.LaidMore
import Derived.Lay
import Derived.SevenTiedAt
import Derived.Stop.Joined
import Derived.Test.YtdobgebdlbckoaaGreatDoorBkN
import Derived.Test.YtdobgebdlbckoaaGreatDoorWdG
namespace Go.Proofs.YtdobgebdlbckoaaGreatDoor.brokerNobody
open Go.ChangeShapes Go.WideShapes Go.ChangeAt Go.RowKit Go.Proofs.YtdobgebdlbckoaaGreatDoor.Sep Go.Proofs.YtdobgebdlbckoaaGreatDoor.Frame
open Go.ChangeMaps (open_string shut_string)
open Go.Proofs.YtdobgebdlbckoaaGreatDoor.BkN
set_option linter.unusedVariables false

theorem own : ownKnob Tryz.prog.godebug = none := by kernel_rfl
theorem laidOut : laidOutB Tryz.prog = true := by kernel_rfl

set_option maxRecDepth 100000 in
theorem lifted (os : Os) (started : os.Started) (H : Type) (enc : TypeId × Value → H) :
    ReturnsInHanded {} Tryz.checked os 5 .any (fun w args => (Rows.brokerNobodySpec.pre enc Tryz.prog Tryz.f5 Rows.brokerNobodyRow.domain false w args ∧ laidMetH Tryz.prog Rows.brokerNobodyRow.laid w) ∧ sizedMet enc Tryz.prog Tryz.f5 (OpenSpec.ofChange Rows.brokerNobodySpec) false w args) (Rows.brokerNobodySpec.post enc Tryz.prog Tryz.f5 false true false false) := by
  refine Card.returns_both (C := Tryz.checked) (X := fun w _ => laidMetH Tryz.prog Rows.brokerNobodyRow.laid w) (fun _ _ _ hh h => h.of_heap hh) own started (by kernel_rfl) Tryz.func5
    (ChangeSpec.witness_shaped (enc := enc) (C := Tryz.checked) (os := os) (X := fun w _ => laidMetH Tryz.prog Rows.brokerNobodyRow.laid w) false (World.laidAll Tryz.prog os Rows.brokerNobodyRow.laid) #[.int .i64 0, .int .i64 0, .string ByteArray.empty] 8 (World.laidAll_os _ _ _)
      (World.shaped_of_ZipB (by kernel_rfl) (by kernel_rfl)) (by kernel_rfl) (by kernel_rfl) (by kernel_rfl)
      (by rw [MakeChecks.laidMetH_plain _ _ _ (by kernel_rfl)]; exact laidMet_laidAll _ (by kernel_rfl) (by kernel_rfl))) ?_
  intro W base args ds gs before hval0 hW hcnd hL hsh
  have hval : ∀ (j : Nat) t v, Tryz.f5.params[j]? = some t → args[j]? = some v → Value.okWide Tryz.prog W .any base t v := hval0
  have hW' := hW
  obtain ⟨p, q, hA0, hV, rfl, hfz, hnd⟩ := hW
  have hA : DataW.TrodAll enc Tryz.prog W 0 (fun _ => true) true Tryz.f5.params.toList args.toList ds p := hA0
  rw [Tryz.params5] at hA hval
  obtain ⟨v0, vs0, d0, ds0, p0, q0, hargs, rfl, rfl, h0, r0⟩ := trodAll_cons hA
  obtain ⟨v1, vs1, d1, ds1, p1, q1, rfl, rfl, rfl, h1, r1⟩ := trodAll_cons r0
  obtain ⟨v2, vs2, d2, ds2, p2, q2, rfl, rfl, rfl, h2, r2⟩ := trodAll_cons r1
  obtain ⟨rfl, rfl, rfl⟩ := trodAll_nil r2
  obtain rfl : args = #[v0, v1, v2] := by cases args; simp_all
  obtain ⟨rfl, rfl⟩ := trodVars_none hV
  obtain ⟨a0, rfl, rfl, rfl, w0⟩ := open_int Tryz.underlying3 (hval 0 3 v0 rfl rfl) h0
  obtain ⟨a1, rfl, rfl, rfl, w1⟩ := open_int Tryz.underlying3 (hval 1 3 v1 rfl rfl) h1
  obtain ⟨s2, rfl, rfl, rfl, w2⟩ := open_string Tryz.underlying9 (hval 2 9 v2 rfl rfl) h2
  obtain ⟨a2, rfl⟩ := string_list s2
  clear hA0 hval0
  have hG : Go.Proofs.YtdobgebdlbckoaaGreatDoor.WdN.Gl W := Go.Proofs.YtdobgebdlbckoaaGreatDoor.WdG.gl_of (laid := Rows.brokerNobodyRow.laid) hL (by kernel_rfl) (by kernel_rfl) hsh
  refine (BkN.nobody_walk a0 w0 a1 w1 a2 w2 (W := W) (hG := hG)).mono fun e W' ⟨he, hS⟩ => ?_
  subst he
  exact ⟨_, rfl, _, _, _, [], _, [], hW', trodAll_mk1 (shut_bool Tryz.underlying4 _), (trodAll_cons_mk (shut_int Tryz.underlying3 w0) (trodAll_cons_mk (shut_int Tryz.underlying3 w1) (trodAll_cons_mk (shut_string Tryz.underlying9 w2) trodAll_mk0))), rfl, hS.below.frame _, fun h => by cases h⟩

theorem over : Rows.brokerNobodyRow.holds Tryz.pinned (OpenSpec.ofChange Rows.brokerNobodySpec) :=
  OpenClaim.holds_of_wide 5 Tryz.f5 rfl rfl rfl rfl rfl rfl rfl ⟨rfl, rfl, rfl, rfl, rfl⟩ rfl rfl rfl rfl rfl (by kernel_rfl) Tryz.func5 (by kernel_rfl)
    (of_decide_eq_true (by kernel_rfl)) (by unfold Func.isWrapper; first | (rw [if_pos (by decide +kernel)]; kernel_rfl) | (rw [if_neg (by decide +kernel)]; exact ⟨rfl, rfl⟩))
    (fun os started H enc _ => lifted os started H enc)


/-- The statement: the card. -/
theorem proved : Rows.BrokerNobodyCardSaid :=
  Claim7.holds_tied_plain_at .later [] [.data, .data, .data] true (true, "eb0cf306507bcfc7ba8c186a5cf823a11a8a080634520a1a069b5975069773b6") true over (fun _ h => by cases h) (by kernel_rfl) (fun _ h => by cases h) brokerNobody_row_tie rfl ⟨rfl, rfl⟩ (by kernel_rfl) rfl
    (fun f fn hf hfn => by
      obtain rfl : f = 5 := Option.some.inj ((show Tryz.prog.funcNamed "crier/crierlaw24.BrokerNobody" = some 5 by kernel_rfl).symm.trans hf) |>.symm
      obtain rfl : fn = Tryz.f5 := (Option.some.inj (Tryz.func5.symm.trans hfn)).symm
      exact ⟨by kernel_rfl, fun j t ht => by
        rw [Tryz.params5] at ht
        have hm : t ∈ [3, 3, 9] := by simpa using Array.mem_of_getElem? ht
        have hall : ([3, 3, 9].all fun u => !Tryz.prog.wantsStandIn u) = true := by kernel_rfl
        exact (show Tryz.prog.wantsStandIn t = false by simpa using List.all_eq_true.1 hall t hm)⟩)
    (by kernel_rfl)
end Go.Proofs.YtdobgebdlbckoaaGreatDoor.brokerNobody
