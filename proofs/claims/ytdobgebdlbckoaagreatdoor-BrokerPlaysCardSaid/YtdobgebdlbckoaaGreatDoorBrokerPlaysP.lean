/-
  The statement BrokerPlays: for every input the law returns true, and its arguments read as they did.
  No condition.
-/
import Derived.Test.YtdobgebdlbckoaaGreatDoorRows
import Derived.Test.YtdobgebdlbckoaaGreatDoorFrame
import Derived.Test.YtdobgebdlbckoaaGreatDoorCards
import Derived.Test.YtdobgebdlbckoaaGreatDoorTie
import Derived.Test.YtdobgebdlbckoaaGreatDoorCard
import Derived.LaidMore
import Derived.Lay
import Derived.SevenTiedAt
import Derived.Stop.Joined
import Derived.Test.YtdobgebdlbckoaaGreatDoorBkPl
import Derived.Test.YtdobgebdlbckoaaGreatDoorWdG
namespace Go.Proofs.YtdobgebdlbckoaaGreatDoor.brokerPlays
open Go.ChangeShapes Go.WideShapes Go.ChangeAt Go.RowKit Go.Proofs.YtdobgebdlbckoaaGreatDoor.Sep Go.Proofs.YtdobgebdlbckoaaGreatDoor.Frame
open Go.ChangeMaps (open_string shut_string)
open Go.Proofs.YtdobgebdlbckoaaGreatDoor.BkPl
set_option linter.unusedVariables false

theorem own : ownKnob Tryz.prog.godebug = none := by kernel_rfl
theorem laidOut : laidOutB Tryz.prog = true := by kernel_rfl

set_option maxRecDepth 100000 in
theorem lifted (os : Os) (started : os.Started) (H : Type) (enc : TypeId × Value → H) :
    ReturnsInHanded {} Tryz.checked os 4 .any (fun w args => (Rows.brokerPlaysSpec.pre enc Tryz.prog Tryz.f4 Rows.brokerPlaysRow.domain false w args ∧ laidMetH Tryz.prog Rows.brokerPlaysRow.laid w) ∧ sizedMet enc Tryz.prog Tryz.f4 (OpenSpec.ofChange Rows.brokerPlaysSpec) false w args) (Rows.brokerPlaysSpec.post enc Tryz.prog Tryz.f4 false true false false) := by
  refine Card.returns_both (C := Tryz.checked) (X := fun w _ => laidMetH Tryz.prog Rows.brokerPlaysRow.laid w) (fun _ _ _ hh h => h.of_heap hh) own started (by kernel_rfl) Tryz.func4
    (ChangeSpec.witness_shaped (enc := enc) (C := Tryz.checked) (os := os) (X := fun w _ => laidMetH Tryz.prog Rows.brokerPlaysRow.laid w) false (World.laidAll Tryz.prog os Rows.brokerPlaysRow.laid) #[.slice none 0 0] 8 (World.laidAll_os _ _ _)
      (World.shaped_of_ZipB (by kernel_rfl) (by kernel_rfl)) (by kernel_rfl) (by kernel_rfl) (by kernel_rfl)
      (by rw [MakeChecks.laidMetH_plain _ _ _ (by kernel_rfl)]; exact laidMet_laidAll _ (by kernel_rfl) (by kernel_rfl))) ?_
  intro W base args ds gs before hval0 hW hcnd hL hsh
  have hval : ∀ (j : Nat) t v, Tryz.f4.params[j]? = some t → args[j]? = some v → Value.okWide Tryz.prog W .any base t v := hval0
  have hW' := hW
  obtain ⟨p, q, hA0, hV, rfl, hfz, hnd⟩ := hW
  have hA : DataW.TrodAll enc Tryz.prog W 0 (fun _ => true) true Tryz.f4.params.toList args.toList ds p := hA0
  rw [Tryz.params4] at hA hval
  obtain ⟨v0, vs0, d0, ds0, p0, q0, hargs, rfl, rfl, h0, r0⟩ := trodAll_cons hA
  obtain ⟨rfl, rfl, rfl⟩ := trodAll_nil r0
  obtain rfl : args = #[v0] := by cases args; simp_all
  obtain ⟨rfl, rfl⟩ := trodVars_none hV
  obtain ⟨a0, len0, cap0, rfl⟩ := okWide_slice Tryz.underlying22 (hval 0 22 v0 rfl rfl)
  have k0 := h0
  have lt0 : ∀ x ∈ p0, x.block < W.heap.size := by obtain ⟨m, hm⟩ := k0; exact DataW.trod_lt m _ _ _ hm
  obtain ⟨xs0, hl0, sl0, ok0⟩ : ∃ xs : List _, xs.length = len0 ∧ Sl W 4 (.slice a0 len0 cap0) len0 (xs.flatMap BkG.ActC.E) ∧ ∀ x ∈ xs, BkG.ActC.Ok x := by
    obtain ⟨fuel, hf⟩ := h0
    exact slice_in (E := BkG.ActC.E) (Ok := BkG.ActC.Ok) Tryz.underlying22 (show Tryz.prog.cellsOf 28 = 4 by kernel_rfl) (fun n cs y h => BkG.ActC.dec Tryz.underlying28 h) BkG.ActC.len (by omega) (by simpa [Value.cells] using hf)
  clear hA0 hval0
  have hG : Go.Proofs.YtdobgebdlbckoaaGreatDoor.WdN.Gl W := Go.Proofs.YtdobgebdlbckoaaGreatDoor.WdG.gl_of (laid := Rows.brokerPlaysRow.laid) hL (by kernel_rfl) (by kernel_rfl) hsh
  refine (BkPl.plays_any a0 len0 cap0 xs0 hl0 sl0 ok0 (W := W) (hG := hG)).mono fun e W' ⟨he, hS⟩ => ?_
  subst he
  exact ⟨_, rfl, _, _, _, [], _, [], hW', trodAll_mk1 (shut_bool Tryz.underlying4 _), (trodAll_cons_mk (Below.trod laidOut (by kernel_rfl) (of_decide_eq_true (by kernel_rfl)) k0 hS.below lt0) trodAll_mk0), rfl, hS.below.frame _, fun h => by cases h⟩

theorem over : Rows.brokerPlaysRow.holds Tryz.pinned (OpenSpec.ofChange Rows.brokerPlaysSpec) :=
  OpenClaim.holds_of_wide 4 Tryz.f4 rfl rfl rfl rfl rfl rfl rfl ⟨rfl, rfl, rfl, rfl, rfl⟩ rfl rfl rfl rfl rfl (by kernel_rfl) Tryz.func4 (by kernel_rfl)
    (of_decide_eq_true (by kernel_rfl)) (by unfold Func.isWrapper; first | (rw [if_pos (by decide +kernel)]; kernel_rfl) | (rw [if_neg (by decide +kernel)]; exact ⟨rfl, rfl⟩))
    (fun os started H enc _ => lifted os started H enc)


/-- The statement: the card. -/
theorem proved : Rows.BrokerPlaysCardSaid :=
  Claim7.holds_tied_plain_at .later [] [.data, .data, .data] true (true, "eb0cf306507bcfc7ba8c186a5cf823a11a8a080634520a1a069b5975069773b6") true over (fun _ h => by cases h) (by kernel_rfl) (fun _ h => by cases h) brokerPlays_row_tie rfl ⟨rfl, rfl⟩ (by kernel_rfl) rfl
    (fun f fn hf hfn => by
      obtain rfl : f = 4 := Option.some.inj ((show Tryz.prog.funcNamed "crier/crierlaw24.BrokerPlays" = some 4 by kernel_rfl).symm.trans hf) |>.symm
      obtain rfl : fn = Tryz.f4 := (Option.some.inj (Tryz.func4.symm.trans hfn)).symm
      exact ⟨by kernel_rfl, fun j t ht => by
        rw [Tryz.params4] at ht
        have hm : t ∈ [22] := by simpa using Array.mem_of_getElem? ht
        have hall : ([22].all fun u => !Tryz.prog.wantsStandIn u) = true := by kernel_rfl
        exact (show Tryz.prog.wantsStandIn t = false by simpa using List.all_eq_true.1 hall t hm)⟩)
    (by kernel_rfl)
end Go.Proofs.YtdobgebdlbckoaaGreatDoor.brokerPlays
