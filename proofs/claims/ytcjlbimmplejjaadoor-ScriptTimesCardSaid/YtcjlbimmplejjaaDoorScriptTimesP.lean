/-
  The statement ScriptTimes: for every input the law returns true, and its arguments read as they did.
  No condition.
-/
import Derived.Test.YtcjlbimmplejjaaDoorRows
import Derived.Test.YtcjlbimmplejjaaDoorFrame
import Derived.Test.YtcjlbimmplejjaaDoorCards
import Derived.Test.YtcjlbimmplejjaaDoorTie
import Derived.Test.YtcjlbimmplejjaaDoorCard
import Derived.LaidMore
import Derived.Lay
import Derived.SevenTiedAt
import Derived.Stop.Joined
import Derived.Test.YtcjlbimmplejjaaDoorScTi
import Derived.Test.YtcjlbimmplejjaaDoorWdG
namespace Go.Proofs.YtcjlbimmplejjaaDoor.scriptTimes
open Go.ChangeShapes Go.WideShapes Go.ChangeAt Go.RowKit Go.Proofs.YtcjlbimmplejjaaDoor.Sep Go.Proofs.YtcjlbimmplejjaaDoor.Frame
open Go.ChangeMaps (open_string shut_string)
open Go.Proofs.YtcjlbimmplejjaaDoor.ScTi
set_option linter.unusedVariables false

theorem own : ownKnob Tryd.prog.godebug = none := by kernel_rfl
theorem laidOut : laidOutB Tryd.prog = true := by kernel_rfl

set_option maxRecDepth 100000 in
theorem lifted (os : Os) (started : os.Started) (H : Type) (enc : TypeId × Value → H) :
    ReturnsInHanded {} Tryd.checked os 5 .any (fun w args => (Rows.scriptTimesSpec.pre enc Tryd.prog Tryd.f5 Rows.scriptTimesRow.domain false w args ∧ laidMetH Tryd.prog Rows.scriptTimesRow.laid w) ∧ sizedMet enc Tryd.prog Tryd.f5 (OpenSpec.ofChange Rows.scriptTimesSpec) false w args) (Rows.scriptTimesSpec.post enc Tryd.prog Tryd.f5 false true false false) := by
  refine Card.returns_both (C := Tryd.checked) (X := fun w _ => laidMetH Tryd.prog Rows.scriptTimesRow.laid w) (fun _ _ _ hh h => h.of_heap hh) own started (by kernel_rfl) Tryd.func5
    (ChangeSpec.witness_shaped (enc := enc) (C := Tryd.checked) (os := os) (X := fun w _ => laidMetH Tryd.prog Rows.scriptTimesRow.laid w) false (World.laidAll Tryd.prog os Rows.scriptTimesRow.laid) #[.string ByteArray.empty, .int .u16 0] 8 (World.laidAll_os _ _ _)
      (World.shaped_of_ZipB (by kernel_rfl) (by kernel_rfl)) (by kernel_rfl) (by kernel_rfl) (by kernel_rfl)
      (by rw [MakeChecks.laidMetH_plain _ _ _ (by kernel_rfl)]; exact laidMet_laidAll _ (by kernel_rfl) (by kernel_rfl))) ?_
  intro W base args ds gs before hval0 hW hcnd hL hsh
  have hval : ∀ (j : Nat) t v, Tryd.f5.params[j]? = some t → args[j]? = some v → Value.okWide Tryd.prog W .any base t v := hval0
  have hW' := hW
  obtain ⟨p, q, hA0, hV, rfl, hfz, hnd⟩ := hW
  have hA : DataW.TrodAll enc Tryd.prog W 0 (fun _ => true) true Tryd.f5.params.toList args.toList ds p := hA0
  rw [Tryd.params5] at hA hval
  obtain ⟨v0, vs0, d0, ds0, p0, q0, hargs, rfl, rfl, h0, r0⟩ := trodAll_cons hA
  obtain ⟨v1, vs1, d1, ds1, p1, q1, rfl, rfl, rfl, h1, r1⟩ := trodAll_cons r0
  obtain ⟨rfl, rfl, rfl⟩ := trodAll_nil r1
  obtain rfl : args = #[v0, v1] := by cases args; simp_all
  obtain ⟨rfl, rfl⟩ := trodVars_none hV
  obtain ⟨s0, rfl, rfl, rfl, w0⟩ := open_string Tryd.underlying9 (hval 0 9 v0 rfl rfl) h0
  obtain ⟨a0, rfl⟩ := string_list s0
  obtain ⟨a1, rfl, rfl, rfl, w1⟩ := open_int Tryd.underlying32 (hval 1 32 v1 rfl rfl) h1
  clear hA0 hval0
  have hG : Go.Proofs.YtcjlbimmplejjaaDoor.ScFi.GlE W := Go.Proofs.YtcjlbimmplejjaaDoor.WdG.er_of (laid := Rows.scriptTimesRow.laid) hL (by kernel_rfl) (by kernel_rfl) (by kernel_rfl) (by kernel_rfl) hsh
  refine (ScTi.times_any a0 w0 a1 w1 (W := W) (hG := hG)).mono fun e W' ⟨he, hS⟩ => ?_
  subst he
  exact ⟨_, rfl, _, _, _, [], _, [], hW', trodAll_mk1 (shut_bool Tryd.underlying4 _), (trodAll_cons_mk (shut_string Tryd.underlying9 w0) (trodAll_cons_mk (shut_int Tryd.underlying32 w1) trodAll_mk0)), rfl, hS.below.frame _, fun h => by cases h⟩

theorem over : Rows.scriptTimesRow.holds Tryd.pinned (OpenSpec.ofChange Rows.scriptTimesSpec) :=
  OpenClaim.holds_of_wide 5 Tryd.f5 rfl rfl rfl rfl rfl rfl rfl ⟨rfl, rfl, rfl, rfl, rfl⟩ rfl rfl rfl rfl rfl (by kernel_rfl) Tryd.func5 (by kernel_rfl)
    (of_decide_eq_true (by kernel_rfl)) (by unfold Func.isWrapper; first | (rw [if_pos (by decide +kernel)]; kernel_rfl) | (rw [if_neg (by decide +kernel)]; exact ⟨rfl, rfl⟩))
    (fun os started H enc _ => lifted os started H enc)


/-- The statement: the card. -/
theorem proved : Rows.ScriptTimesCardSaid :=
  Claim7.holds_tied_plain_at .later [] [.data, .data, .data, .data, .sentinel, .sentinel, .pinned] true (true, "ee9a5a0ab6454cc635e439d495fa5415ae268ee1cdb93fc999b392448c9fe15a") true over (fun _ h => by cases h) (by kernel_rfl) (fun _ h => by cases h) scriptTimes_row_tie rfl ⟨rfl, rfl⟩ (by kernel_rfl) rfl
    (fun f fn hf hfn => by
      obtain rfl : f = 5 := Option.some.inj ((show Tryd.prog.funcNamed "crier/crierlaw30.ScriptTimes" = some 5 by kernel_rfl).symm.trans hf) |>.symm
      obtain rfl : fn = Tryd.f5 := (Option.some.inj (Tryd.func5.symm.trans hfn)).symm
      exact ⟨by kernel_rfl, fun j t ht => by
        rw [Tryd.params5] at ht
        have hm : t ∈ [9, 32] := by simpa using Array.mem_of_getElem? ht
        have hall : ([9, 32].all fun u => !Tryd.prog.wantsStandIn u) = true := by kernel_rfl
        exact (show Tryd.prog.wantsStandIn t = false by simpa using List.all_eq_true.1 hall t hm)⟩)
    (by kernel_rfl)
end Go.Proofs.YtcjlbimmplejjaaDoor.scriptTimes
