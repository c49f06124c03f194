/-
  The statement TopicsPlay: for every input the law returns true, and its arguments read as they did.
  No condition.
-/
import Derived.Test.YthaekkmnglhinaaRows
import Derived.Test.YthaekkmnglhinaaFrame
import Derived.Test.YthaekkmnglhinaaTpQ3
namespace Go.Proofs.Ythaekkmnglhinaa.topicsPlay
open Go.ChangeShapes Go.WideShapes Go.ChangeAt Go.RowKit Go.Proofs.Ythaekkmnglhinaa.Sep Go.Proofs.Ythaekkmnglhinaa.Frame
open Go.ChangeMaps (open_string shut_string)
open Go.Proofs.Ythaekkmnglhinaa.TpQ3
set_option linter.unusedVariables false

theorem own : ownKnob Try.prog.godebug = none := by kernel_rfl
theorem laidOut : laidOutB Try.prog = true := by kernel_rfl

set_option maxRecDepth 100000 in
theorem lifted (os : Os) (started : os.Started) (H : Type) (enc : TypeId × Value → H) :
    ReturnsInHanded {} Try.checked os 4 .any (Rows.topicsPlaySpec.pre6 enc Try.prog Try.f4 Rows.topicsPlayRow.domain false) (Rows.topicsPlaySpec.post enc Try.prog Try.f4 false true false false) := by
  refine returnsInHanded_of_change (C := Try.checked) own started (by kernel_rfl) Try.func4
    (ChangeSpec.witness6 (enc := enc) (C := Try.checked) false ⟨#[], #[.slice none 0 0], []⟩ 8 (by kernel_rfl) (by kernel_rfl) (by kernel_rfl) (by kernel_rfl)) ?_
  intro W base args ds gs before hval0 hW hcnd _
  have hval : ∀ (j : Nat) t v, Try.f4.params[j]? = some t → args[j]? = some v → Value.okWide Try.prog W .any base t v := hval0
  have hW' := hW
  obtain ⟨p, q, hA0, hV, rfl, hfz, hnd⟩ := hW
  have hA : DataW.TrodAll enc Try.prog W 0 (fun _ => true) true Try.f4.params.toList args.toList ds p := hA0
  rw [Try.params4] at hA hval
  obtain ⟨v0, vs0, d0, ds0, p0, q0, hargs, rfl, rfl, h0, r0⟩ := trodAll_cons hA
  obtain ⟨rfl, rfl, rfl⟩ := trodAll_nil r0
  obtain rfl : args = #[v0] := by cases args; simp_all
  obtain ⟨rfl, rfl⟩ := trodVars_none hV
  obtain ⟨a0, len0, cap0, rfl⟩ := okWide_slice Try.underlying32 (hval 0 32 v0 rfl rfl)
  have k0 := h0
  have lt0 : ∀ x ∈ p0, x.block < W.heap.size := by obtain ⟨m, hm⟩ := k0; exact DataW.trod_lt m _ _ _ hm
  obtain ⟨xs0, hl0, sl0, ok0⟩ : ∃ xs : List _, xs.length = len0 ∧ Sl W 3 (.slice a0 len0 cap0) len0 (xs.flatMap TpG.ActC.E) ∧ ∀ x ∈ xs, TpG.ActC.Ok x := by
    obtain ⟨fuel, hf⟩ := h0
    exact slice_in (E := TpG.ActC.E) (Ok := TpG.ActC.Ok) Try.underlying32 (show Try.prog.cellsOf 36 = 3 by kernel_rfl) (fun n cs y h => TpG.ActC.dec Try.underlying36 h) TpG.ActC.len (by omega) (by simpa [Value.cells] using hf)
  clear hA0 hval0
  refine (TpQ3.play_walk a0 len0 cap0 xs0 hl0 sl0 ok0 (W := W)).mono fun e W' ⟨he, hS⟩ => ?_
  subst he
  exact ⟨_, rfl, _, _, _, [], _, [], hW', trodAll_mk1 (shut_bool Try.underlying4 _), (trodAll_cons_mk (Below.trod laidOut (by kernel_rfl) (of_decide_eq_true (by kernel_rfl)) k0 hS.below lt0) trodAll_mk0), rfl, hS.below.frame _, fun h => by cases h⟩

theorem over : Rows.topicsPlayRow.holds Try.pinned (OpenSpec.ofChange Rows.topicsPlaySpec) :=
  OpenClaim.holds_of_wide 4 Try.f4 rfl rfl rfl rfl rfl rfl rfl ⟨rfl, rfl, rfl, rfl, rfl⟩ rfl rfl rfl rfl rfl (by kernel_rfl) Try.func4 (by kernel_rfl)
    (of_decide_eq_true (by kernel_rfl)) (by unfold Func.isWrapper; first | (rw [if_pos (by decide +kernel)]; kernel_rfl) | (rw [if_neg (by decide +kernel)]; exact ⟨rfl, rfl⟩))
    (fun os started H enc _ => lifted os started H enc)


/-- The statement. -/
theorem proved : Rows.TopicsPlaySaid := over
end Go.Proofs.Ythaekkmnglhinaa.topicsPlay
