/-
  The statement TopicsStill: for every input the law returns true, and its arguments read as they did.
  No condition.
-/
import Derived.Test.YthaekkmnglhinaaRows
import Derived.Test.YthaekkmnglhinaaFrame
import Derived.Test.YthaekkmnglhinaaTpY
namespace Go.Proofs.Ythaekkmnglhinaa.topicsStill
open Go.ChangeShapes Go.WideShapes Go.ChangeAt Go.RowKit Go.Proofs.Ythaekkmnglhinaa.Sep Go.Proofs.Ythaekkmnglhinaa.Frame
open Go.ChangeMaps (open_string shut_string)
open Go.Proofs.Ythaekkmnglhinaa.TpY
set_option linter.unusedVariables false

theorem own : ownKnob Try.prog.godebug = none := by kernel_rfl
theorem laidOut : laidOutB Try.prog = true := by kernel_rfl

set_option maxRecDepth 100000 in
theorem lifted (os : Os) (started : os.Started) (H : Type) (enc : TypeId × Value → H) :
    ReturnsInHanded {} Try.checked os 7 .any (Rows.topicsStillSpec.pre6 enc Try.prog Try.f7 Rows.topicsStillRow.domain false) (Rows.topicsStillSpec.post enc Try.prog Try.f7 false true false false) := by
  refine returnsInHanded_of_change (C := Try.checked) own started (by kernel_rfl) Try.func7
    (ChangeSpec.witness6 (enc := enc) (C := Try.checked) false ⟨#[], #[.slice none 0 0, .int .u8 0, .int .u8 0, .slice none 0 0], []⟩ 8 (by kernel_rfl) (by kernel_rfl) (by kernel_rfl) (by kernel_rfl)) ?_
  intro W base args ds gs before hval0 hW hcnd _
  have hval : ∀ (j : Nat) t v, Try.f7.params[j]? = some t → args[j]? = some v → Value.okWide Try.prog W .any base t v := hval0
  have hW' := hW
  obtain ⟨p, q, hA0, hV, rfl, hfz, hnd⟩ := hW
  have hA : DataW.TrodAll enc Try.prog W 0 (fun _ => true) true Try.f7.params.toList args.toList ds p := hA0
  rw [Try.params7] at hA hval
  obtain ⟨v0, vs0, d0, ds0, p0, q0, hargs, rfl, rfl, h0, r0⟩ := trodAll_cons hA
  obtain ⟨v1, vs1, d1, ds1, p1, q1, rfl, rfl, rfl, h1, r1⟩ := trodAll_cons r0
  obtain ⟨v2, vs2, d2, ds2, p2, q2, rfl, rfl, rfl, h2, r2⟩ := trodAll_cons r1
  obtain ⟨v3, vs3, d3, ds3, p3, q3, rfl, rfl, rfl, h3, r3⟩ := trodAll_cons r2
  obtain ⟨rfl, rfl, rfl⟩ := trodAll_nil r3
  obtain rfl : args = #[v0, v1, v2, v3] := by cases args; simp_all
  obtain ⟨rfl, rfl⟩ := trodVars_none hV
  obtain ⟨a0, len0, cap0, rfl⟩ := okWide_slice Try.underlying22 (hval 0 22 v0 rfl rfl)
  have k0 := h0
  have lt0 : ∀ x ∈ p0, x.block < W.heap.size := by obtain ⟨m, hm⟩ := k0; exact DataW.trod_lt m _ _ _ hm
  obtain ⟨xs0, hl0, sl0, ok0⟩ : ∃ xs : List _, xs.length = len0 ∧ Sl W 1 (.slice a0 len0 cap0) len0 (xs.flatMap TpX.IntC.E) ∧ ∀ x ∈ xs, TpX.IntC.Ok x := by
    obtain ⟨fuel, hf⟩ := h0
    exact slice_in (E := TpX.IntC.E) (Ok := TpX.IntC.Ok) Try.underlying22 (show Try.prog.cellsOf 3 = 1 by kernel_rfl) (fun n cs y h => TpX.IntC.dec Try.underlying3 h) TpX.IntC.len (by omega) (by simpa [Value.cells] using hf)
  obtain ⟨a1, rfl, rfl, rfl, w1⟩ := open_int Try.underlying5 (hval 1 5 v1 rfl rfl) h1
  obtain ⟨a2, rfl, rfl, rfl, w2⟩ := open_int Try.underlying5 (hval 2 5 v2 rfl rfl) h2
  obtain ⟨a3, len3, cap3, rfl⟩ := okWide_slice Try.underlying32 (hval 3 32 v3 rfl rfl)
  have k3 := h3
  have lt3 : ∀ x ∈ p3, x.block < W.heap.size := by obtain ⟨m, hm⟩ := k3; exact DataW.trod_lt m _ _ _ hm
  obtain ⟨xs3, hl3, sl3, ok3⟩ : ∃ xs : List _, xs.length = len3 ∧ Sl W 3 (.slice a3 len3 cap3) len3 (xs.flatMap TpG.ActC.E) ∧ ∀ x ∈ xs, TpG.ActC.Ok x := by
    obtain ⟨fuel, hf⟩ := h3
    exact slice_in (E := TpG.ActC.E) (Ok := TpG.ActC.Ok) Try.underlying32 (show Try.prog.cellsOf 36 = 3 by kernel_rfl) (fun n cs y h => TpG.ActC.dec Try.underlying36 h) TpG.ActC.len (by omega) (by simpa [Value.cells] using hf)
  clear hA0 hval0
  refine (TpY.still_walk a0 len0 cap0 xs0 hl0 sl0 ok0 a1 w1 a2 w2 a3 len3 cap3 xs3 hl3 sl3 ok3 (W := W)).mono fun e W' ⟨he, hS⟩ => ?_
  subst he
  exact ⟨_, rfl, _, _, _, [], _, [], hW', trodAll_mk1 (shut_bool Try.underlying4 _), (trodAll_cons_mk (Below.trod laidOut (by kernel_rfl) (of_decide_eq_true (by kernel_rfl)) k0 hS.below lt0) (trodAll_cons_mk (shut_int Try.underlying5 w1) (trodAll_cons_mk (shut_int Try.underlying5 w2) (trodAll_cons_mk (Below.trod laidOut (by kernel_rfl) (of_decide_eq_true (by kernel_rfl)) k3 hS.below lt3) trodAll_mk0)))), rfl, hS.below.frame _, fun h => by cases h⟩

theorem over : Rows.topicsStillRow.holds Try.pinned (OpenSpec.ofChange Rows.topicsStillSpec) :=
  OpenClaim.holds_of_wide 7 Try.f7 rfl rfl rfl rfl rfl rfl rfl ⟨rfl, rfl, rfl, rfl, rfl⟩ rfl rfl rfl rfl rfl (by kernel_rfl) Try.func7 (by kernel_rfl)
    (of_decide_eq_true (by kernel_rfl)) (by unfold Func.isWrapper; first | (rw [if_pos (by decide +kernel)]; kernel_rfl) | (rw [if_neg (by decide +kernel)]; exact ⟨rfl, rfl⟩))
    (fun os started H enc _ => lifted os started H enc)


/-- The statement. -/
theorem proved : Rows.TopicsStillSaid := over
end Go.Proofs.Ythaekkmnglhinaa.topicsStill
