/-
  The statement RouterAllows: for every input the law returns true, and its arguments read as they did.
  No condition.
-/
import Derived.Test.YtlofiaaacepgmaaGreatDoorRows
import Derived.Test.YtlofiaaacepgmaaGreatDoorFrame
import Derived.Test.YtlofiaaacepgmaaGreatDoorCards
import Derived.Test.YtlofiaaacepgmaaGreatDoorTie
import Derived.Test.YtlofiaaacepgmaaGreatDoorCard
import Derived.LaidMore
import Derived.Lay
import Derived.SevenTiedAt
import Derived.Stop.Joined
import Derived.Test.YtlofiaaacepgmaaGreatDoorRtL
namespace Go.Proofs.YtlofiaaacepgmaaGreatDoor.routerAllows
open Go.ChangeShapes Go.WideShapes Go.ChangeAt Go.RowKit Go.Proofs.YtlofiaaacepgmaaGreatDoor.Sep Go.Proofs.YtlofiaaacepgmaaGreatDoor.Frame
open Go.ChangeMaps (open_string shut_string)
open Go.Proofs.YtlofiaaacepgmaaGreatDoor.RtL
set_option linter.unusedVariables false

theorem own : ownKnob Tryz.prog.godebug = none := by kernel_rfl
theorem laidOut : laidOutB Tryz.prog = true := by kernel_rfl

set_option maxRecDepth 100000 in
theorem lifted (os : Os) (started : os.Started) (H : Type) (enc : TypeId × Value → H) :
    ReturnsInHanded {} Tryz.checked os 5 .any (fun w args => (Rows.routerAllowsSpec.pre enc Tryz.prog Tryz.f5 Rows.routerAllowsRow.domain false w args ∧ laidMetH Tryz.prog Rows.routerAllowsRow.laid w) ∧ sizedMet enc Tryz.prog Tryz.f5 (OpenSpec.ofChange Rows.routerAllowsSpec) false w args) (Rows.routerAllowsSpec.post enc Tryz.prog Tryz.f5 false true false false) := by
  refine Card.returns_both (C := Tryz.checked) (X := fun w _ => laidMetH Tryz.prog Rows.routerAllowsRow.laid w) (fun _ _ _ hh h => h.of_heap hh) own started (by kernel_rfl) Tryz.func5
    (ChangeSpec.witness_shaped (enc := enc) (C := Tryz.checked) (os := os) (X := fun w _ => laidMetH Tryz.prog Rows.routerAllowsRow.laid w) false (World.laidAll Tryz.prog os Rows.routerAllowsRow.laid) #[.slice none 0 0, .agg #[.string ByteArray.empty, .string ByteArray.empty, .string ByteArray.empty, .int .i64 0, .slice none 0 0, .string ByteArray.empty, .bool false]] 8 (World.laidAll_os _ _ _)
      (World.shaped_of_ZipB (by kernel_rfl) (by kernel_rfl)) (by kernel_rfl) (by kernel_rfl) (by kernel_rfl)
      (by rw [MakeChecks.laidMetH_plain _ _ _ (by kernel_rfl)]; exact laidMet_laidAll _ (by kernel_rfl) (by kernel_rfl))) ?_
  intro W base args ds gs before hval0 hW hcnd hL hsh
  have hval : ∀ (j : Nat) t v, Tryz.f5.params[j]? = some t → args[j]? = some v → Value.okWide Tryz.prog W .any base t v := hval0
  have hW' := hW
  obtain ⟨p, q, hA0, hV, rfl, hfz, hnd⟩ := hW
  have hA : DataW.TrodAll enc Tryz.prog W 0 (fun _ => true) true Tryz.f5.params.toList args.toList ds p := hA0
  rw [Tryz.params5] at hA hval
  obtain ⟨v0, vs0, d0, ds0, p0, q0, hargs, rfl, rfl, h0, r0⟩ := trodAll_cons hA
  obtain ⟨v1, vs1, d1, ds1, p1, q1, rfl, rfl, rfl, h1, r1⟩ := trodAll_cons r0
  obtain ⟨rfl, rfl, rfl⟩ := trodAll_nil r1
  obtain rfl : args = #[v0, v1] := by cases args; simp_all
  obtain ⟨rfl, rfl⟩ := trodVars_none hV
  obtain ⟨a0, len0, cap0, rfl⟩ := okWide_slice Tryz.underlying33 (hval 0 33 v0 rfl rfl)
  have k0 := h0
  have lt0 : ∀ x ∈ p0, x.block < W.heap.size := by obtain ⟨m, hm⟩ := k0; exact DataW.trod_lt m _ _ _ hm
  obtain ⟨xs0, hl0, sl0, ok0⟩ : ∃ xs : List _, xs.length = len0 ∧ Sl W 4 (.slice a0 len0 cap0) len0 (xs.flatMap RtG.RouteC.E) ∧ ∀ x ∈ xs, RtG.RouteC.Ok x := by
    obtain ⟨fuel, hf⟩ := h0
    exact slice_in (E := RtG.RouteC.E) (Ok := RtG.RouteC.Ok) Tryz.underlying33 (show Tryz.prog.cellsOf 40 = 4 by kernel_rfl) (fun n cs y h => RtG.RouteC.dec Tryz.underlying40 h) RtG.RouteC.len (by omega) (by simpa [Value.cells] using hf)
  obtain ⟨cs1, rfl, -⟩ := okWide_struct Tryz.underlying24 (hval 1 24 v1 rfl rfl)
  have k1 := h1
  have lt1 : ∀ x ∈ p1, x.block < W.heap.size := by obtain ⟨m, hm⟩ := k1; exact DataW.trod_lt m _ _ _ hm
  obtain ⟨x1, rfl, ok1⟩ : ∃ x, cs1 = (RtG.ReqC.E x).toArray ∧ RtG.ReqC.Ok x := by
    obtain ⟨fuel, hf⟩ := h1
    obtain ⟨x, hx, ok⟩ := RtG.ReqC.dec Tryz.underlying24 (by simpa [Value.cells] using hf)
    exact ⟨x, by rw [← hx], ok⟩
  clear hA0 hval0
  have hm : Go.Proofs.YtlofiaaacepgmaaGreatDoor.TrS.MaxLen W := Tryz.laysM146.s1_3 W hsh
  refine (RtL.allows_any a0 len0 cap0 xs0 hl0 sl0 ok0 x1 ok1 (W := W) (hm := hm)).mono fun e W' ⟨he, hS⟩ => ?_
  subst he
  exact ⟨_, rfl, _, _, _, [], _, [], hW', trodAll_mk1 (shut_bool Tryz.underlying4 _), (trodAll_cons_mk (Below.trod laidOut (by kernel_rfl) (of_decide_eq_true (by kernel_rfl)) k0 hS.below lt0) (trodAll_cons_mk (Below.trod laidOut (by kernel_rfl) (of_decide_eq_true (by kernel_rfl)) k1 hS.below lt1) trodAll_mk0)), rfl, hS.below.frame _, fun h => by cases h⟩

theorem over : Rows.routerAllowsRow.holds Tryz.pinned (OpenSpec.ofChange Rows.routerAllowsSpec) :=
  OpenClaim.holds_of_wide 5 Tryz.f5 rfl rfl rfl rfl rfl rfl rfl ⟨rfl, rfl, rfl, rfl, rfl⟩ rfl rfl rfl rfl rfl (by kernel_rfl) Tryz.func5 (by kernel_rfl)
    (of_decide_eq_true (by kernel_rfl)) (by unfold Func.isWrapper; first | (rw [if_pos (by decide +kernel)]; kernel_rfl) | (rw [if_neg (by decide +kernel)]; exact ⟨rfl, rfl⟩))
    (fun os started H enc _ => lifted os started H enc)


/-- The statement: the card. -/
theorem proved : Rows.RouterAllowsCardSaid :=
  Claim7.holds_tied_plain_at .later [] [.data, .pinned] true (true, "e86e335189c302af9b5f9e91b3eeac2a41be8e226e0110ee0c1568bc7125b9db") false over (fun _ h => by cases h) (by kernel_rfl) (fun _ h => by cases h) routerAllows_row_tie rfl ⟨rfl, rfl⟩ (by kernel_rfl) rfl
    (fun f fn hf hfn => by
      obtain rfl : f = 5 := Option.some.inj ((show Tryz.prog.funcNamed "crier/crierlaw14.RouterAllows" = some 5 by kernel_rfl).symm.trans hf) |>.symm
      obtain rfl : fn = Tryz.f5 := (Option.some.inj (Tryz.func5.symm.trans hfn)).symm
      exact ⟨by kernel_rfl, fun j t ht => by
        rw [Tryz.params5] at ht
        have hm : t ∈ [33, 24] := by simpa using Array.mem_of_getElem? ht
        have hall : ([33, 24].all fun u => !Tryz.prog.wantsStandIn u) = true := by kernel_rfl
        exact (show Tryz.prog.wantsStandIn t = false by simpa using List.all_eq_true.1 hall t hm)⟩)
    (by kernel_rfl)
end Go.Proofs.YtlofiaaacepgmaaGreatDoor.routerAllows
