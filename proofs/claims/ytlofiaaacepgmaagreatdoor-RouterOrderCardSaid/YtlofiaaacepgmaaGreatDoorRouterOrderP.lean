/-
  The statement RouterOrder: for every input the law returns true, and its arguments read as they did.
  No condition.
-/
import Derived.Test.YtlofiaaacepgmaaGreatDoorRows
import Derived.Test.YtlofiaaacepgmaaGreatDoorFrame
import Derived.Test.YtlofiaaacepgmaaGreatDoorCards
import Derived.Test.YtlofiaaacepgmaaGreatDoorTie
import Derived.Test.YtlofiaaacepgmaaGreatDoorCard
import Derived.LaidMore
import Derived.Lay
import Derived.SevenTiedAt
import Derived.Stop.Joined
import Derived.Test.YtlofiaaacepgmaaGreatDoorRtO
namespace Go.Proofs.YtlofiaaacepgmaaGreatDoor.routerOrder
open Go.ChangeShapes Go.WideShapes Go.ChangeAt Go.RowKit Go.Proofs.YtlofiaaacepgmaaGreatDoor.Sep Go.Proofs.YtlofiaaacepgmaaGreatDoor.Frame
open Go.ChangeMaps (open_string shut_string)
open Go.Proofs.YtlofiaaacepgmaaGreatDoor.RtO
set_option linter.unusedVariables false

theorem own : ownKnob Tryz.prog.godebug = none := by kernel_rfl
theorem laidOut : laidOutB Tryz.prog = true := by kernel_rfl

set_option maxRecDepth 100000 in
theorem lifted (os : Os) (started : os.Started) (H : Type) (enc : TypeId × Value → H) :
    ReturnsInHanded {} Tryz.checked os 4 .any (fun w args => (Rows.routerOrderSpec.pre enc Tryz.prog Tryz.f4 Rows.routerOrderRow.domain false w args ∧ laidMetH Tryz.prog Rows.routerOrderRow.laid w) ∧ sizedMet enc Tryz.prog Tryz.f4 (OpenSpec.ofChange Rows.routerOrderSpec) false w args) (Rows.routerOrderSpec.post enc Tryz.prog Tryz.f4 false true false false) := by
  refine Card.returns_both (C := Tryz.checked) (X := fun w _ => laidMetH Tryz.prog Rows.routerOrderRow.laid w) (fun _ _ _ hh h => h.of_heap hh) own started (by kernel_rfl) Tryz.func4
    (ChangeSpec.witness_shaped (enc := enc) (C := Tryz.checked) (os := os) (X := fun w _ => laidMetH Tryz.prog Rows.routerOrderRow.laid w) false (World.laidAll Tryz.prog os Rows.routerOrderRow.laid) #[.slice none 0 0, .int .i64 0, .agg #[.string ByteArray.empty, .string ByteArray.empty, .string ByteArray.empty, .int .i64 0, .slice none 0 0, .string ByteArray.empty, .bool false]] 8 (World.laidAll_os _ _ _)
      (World.shaped_of_ZipB (by kernel_rfl) (by kernel_rfl)) (by kernel_rfl) (by kernel_rfl) (by kernel_rfl)
      (by rw [MakeChecks.laidMetH_plain _ _ _ (by kernel_rfl)]; exact laidMet_laidAll _ (by kernel_rfl) (by kernel_rfl))) ?_
  intro W base args ds gs before hval0 hW hcnd hL hsh
  have hval : ∀ (j : Nat) t v, Tryz.f4.params[j]? = some t → args[j]? = some v → Value.okWide Tryz.prog W .any base t v := hval0
  have hW' := hW
  obtain ⟨p, q, hA0, hV, rfl, hfz, hnd⟩ := hW
  have hA : DataW.TrodAll enc Tryz.prog W 0 (fun _ => true) true Tryz.f4.params.toList args.toList ds p := hA0
  rw [Tryz.params4] at hA hval
  obtain ⟨v0, vs0, d0, ds0, p0, q0, hargs, rfl, rfl, h0, r0⟩ := trodAll_cons hA
  obtain ⟨v1, vs1, d1, ds1, p1, q1, rfl, rfl, rfl, h1, r1⟩ := trodAll_cons r0
  obtain ⟨v2, vs2, d2, ds2, p2, q2, rfl, rfl, rfl, h2, r2⟩ := trodAll_cons r1
  obtain ⟨rfl, rfl, rfl⟩ := trodAll_nil r2
  obtain rfl : args = #[v0, v1, v2] := by cases args; simp_all
  obtain ⟨rfl, rfl⟩ := trodVars_none hV
  obtain ⟨a0, len0, cap0, rfl⟩ := okWide_slice Tryz.underlying33 (hval 0 33 v0 rfl rfl)
  have k0 := h0
  have lt0 : ∀ x ∈ p0, x.block < W.heap.size := by obtain ⟨m, hm⟩ := k0; exact DataW.trod_lt m _ _ _ hm
  obtain ⟨xs0, hl0, sl0, ok0⟩ : ∃ xs : List _, xs.length = len0 ∧ Sl W 4 (.slice a0 len0 cap0) len0 (xs.flatMap RtG.RouteC.E) ∧ ∀ x ∈ xs, RtG.RouteC.Ok x := by
    obtain ⟨fuel, hf⟩ := h0
    exact slice_in (E := RtG.RouteC.E) (Ok := RtG.RouteC.Ok) Tryz.underlying33 (show Tryz.prog.cellsOf 40 = 4 by kernel_rfl) (fun n cs y h => RtG.RouteC.dec Tryz.underlying40 h) RtG.RouteC.len (by omega) (by simpa [Value.cells] using hf)
  obtain ⟨a1, rfl, rfl, rfl, w1⟩ := open_int Tryz.underlying3 (hval 1 3 v1 rfl rfl) h1
  obtain ⟨cs2, rfl, -⟩ := okWide_struct Tryz.underlying24 (hval 2 24 v2 rfl rfl)
  have k2 := h2
  have lt2 : ∀ x ∈ p2, x.block < W.heap.size := by obtain ⟨m, hm⟩ := k2; exact DataW.trod_lt m _ _ _ hm
  obtain ⟨x2, rfl, ok2⟩ : ∃ x, cs2 = (RtG.ReqC.E x).toArray ∧ RtG.ReqC.Ok x := by
    obtain ⟨fuel, hf⟩ := h2
    obtain ⟨x, hx, ok⟩ := RtG.ReqC.dec Tryz.underlying24 (by simpa [Value.cells] using hf)
    exact ⟨x, by rw [← hx], ok⟩
  clear hA0 hval0
  have hm : Go.Proofs.YtlofiaaacepgmaaGreatDoor.TrS.MaxLen W := Tryz.laysM146.s1_3 W hsh
  refine (RtO.order_any a0 len0 cap0 xs0 hl0 sl0 ok0 a1 w1 x2 ok2 (W := W) (hm := hm)).mono fun e W' ⟨he, hS⟩ => ?_
  subst he
  exact ⟨_, rfl, _, _, _, [], _, [], hW', trodAll_mk1 (shut_bool Tryz.underlying4 _), (trodAll_cons_mk (Below.trod laidOut (by kernel_rfl) (of_decide_eq_true (by kernel_rfl)) k0 hS.below lt0) (trodAll_cons_mk (shut_int Tryz.underlying3 w1) (trodAll_cons_mk (Below.trod laidOut (by kernel_rfl) (of_decide_eq_true (by kernel_rfl)) k2 hS.below lt2) trodAll_mk0))), rfl, hS.below.frame _, fun h => by cases h⟩

theorem over : Rows.routerOrderRow.holds Tryz.pinned (OpenSpec.ofChange Rows.routerOrderSpec) :=
  OpenClaim.holds_of_wide 4 Tryz.f4 rfl rfl rfl rfl rfl rfl rfl ⟨rfl, rfl, rfl, rfl, rfl⟩ rfl rfl rfl rfl rfl (by kernel_rfl) Tryz.func4 (by kernel_rfl)
    (of_decide_eq_true (by kernel_rfl)) (by unfold Func.isWrapper; first | (rw [if_pos (by decide +kernel)]; kernel_rfl) | (rw [if_neg (by decide +kernel)]; exact ⟨rfl, rfl⟩))
    (fun os started H enc _ => lifted os started H enc)


/-- The statement: the card. -/
theorem proved : Rows.RouterOrderCardSaid :=
  Claim7.holds_tied_plain_at .later [] [.data, .pinned] true (true, "e86e335189c302af9b5f9e91b3eeac2a41be8e226e0110ee0c1568bc7125b9db") false over (fun _ h => by cases h) (by kernel_rfl) (fun _ h => by cases h) routerOrder_row_tie rfl ⟨rfl, rfl⟩ (by kernel_rfl) rfl
    (fun f fn hf hfn => by
      obtain rfl : f = 4 := Option.some.inj ((show Tryz.prog.funcNamed "crier/crierlaw14.RouterOrder" = some 4 by kernel_rfl).symm.trans hf) |>.symm
      obtain rfl : fn = Tryz.f4 := (Option.some.inj (Tryz.func4.symm.trans hfn)).symm
      exact ⟨by kernel_rfl, fun j t ht => by
        rw [Tryz.params4] at ht
        have hm : t ∈ [33, 3, 24] := by simpa using Array.mem_of_getElem? ht
        have hall : ([33, 3, 24].all fun u => !Tryz.prog.wantsStandIn u) = true := by kernel_rfl
        exact (show Tryz.prog.wantsStandIn t = false by simpa using List.all_eq_true.1 hall t hm)⟩)
    (by kernel_rfl)
end Go.Proofs.YtlofiaaacepgmaaGreatDoor.routerOrder
