/-
  The statement BufPlays: for every input the law returns true, and its arguments read as they did.
  No condition.
-/
import Derived.Test.YtldobldhmodjlaaRows
import Derived.Test.YtldobldhmodjlaaFrame
import Derived.HandedShaped
import Derived.Test.YtldobldhmodjlaaBufPl
namespace Go.Proofs.Ytldobldhmodjlaa.bufPlays
open Go.ChangeShapes Go.WideShapes Go.ChangeAt Go.RowKit Go.Proofs.Ytldobldhmodjlaa.Sep Go.Proofs.Ytldobldhmodjlaa.Frame
open Go.ChangeMaps (open_string shut_string)
open Go.Proofs.Ytldobldhmodjlaa.BufPl
set_option linter.unusedVariables false

theorem own : ownKnob Try.prog.godebug = none := by kernel_rfl
theorem laidOut : laidOutB Try.prog = true := by kernel_rfl

set_option maxRecDepth 100000 in
theorem lifted (os : Os) (started : os.Started) (H : Type) (enc : TypeId × Value → H) :
    ReturnsInHanded {} Try.checked os 9 .any (Rows.bufPlaysSpec.pre6 enc Try.prog Try.f9 Rows.bufPlaysRow.domain false) (Rows.bufPlaysSpec.post enc Try.prog Try.f9 false true false false) := by
  refine returnsInHanded_of_change_shaped (C := Try.checked) own started (by kernel_rfl) Try.func9
    (ChangeSpec.witness6 (enc := enc) (C := Try.checked) false ⟨#[], #[.int .i64 0, .slice none 0 0], []⟩ 8 (by kernel_rfl) (by kernel_rfl) (by kernel_rfl) (by kernel_rfl)) ?_
  intro W base args ds gs before hval0 hW hcnd _ hsh _
  have hval : ∀ (j : Nat) t v, Try.f9.params[j]? = some t → args[j]? = some v → Value.okWide Try.prog W .any base t v := hval0
  have hW' := hW
  obtain ⟨p, q, hA0, hV, rfl, hfz, hnd⟩ := hW
  have hA : DataW.TrodAll enc Try.prog W 0 (fun _ => true) true Try.f9.params.toList args.toList ds p := hA0
  rw [Try.params9] at hA hval
  obtain ⟨v0, vs0, d0, ds0, p0, q0, hargs, rfl, rfl, h0, r0⟩ := trodAll_cons hA
  obtain ⟨v1, vs1, d1, ds1, p1, q1, rfl, rfl, rfl, h1, r1⟩ := trodAll_cons r0
  obtain ⟨rfl, rfl, rfl⟩ := trodAll_nil r1
  obtain rfl : args = #[v0, v1] := by cases args; simp_all
  obtain ⟨rfl, rfl⟩ := trodVars_none hV
  obtain ⟨a0, rfl, rfl, rfl, w0⟩ := open_int Try.underlying3 (hval 0 3 v0 rfl rfl) h0
  obtain ⟨a1, len1, cap1, rfl⟩ := okWide_slice Try.underlying56 (hval 1 56 v1 rfl rfl)
  have k1 := h1
  have lt1 : ∀ x ∈ p1, x.block < W.heap.size := by obtain ⟨m, hm⟩ := k1; exact DataW.trod_lt m _ _ _ hm
  obtain ⟨xs1, hl1, sl1, ok1⟩ : ∃ xs : List _, xs.length = len1 ∧ Sl W 3 (.slice a1 len1 cap1) len1 (xs.flatMap ActC.E) ∧ ∀ x ∈ xs, ActC.Ok x := by
    obtain ⟨fuel, hf⟩ := h1
    exact slice_in (E := ActC.E) (Ok := ActC.Ok) Try.underlying56 (show Try.prog.cellsOf 61 = 3 by kernel_rfl) (fun n cs y h => ActC.dec Try.underlying61 h) ActC.len (by omega) (by simpa [Value.cells] using hf)
  clear hA0 hval0
  have hm : Go.Proofs.Ytldobldhmodjlaa.BufFind.MaxLen W := Try.laysM185.s1_3 W hsh
  refine (plays_walk a0 w0 a1 len1 cap1 xs1 hl1 sl1 ok1 (W := W) (hm := hm)).mono fun e W' ⟨he, hS⟩ => ?_
  subst he
  exact ⟨_, rfl, _, _, _, [], _, [], hW', trodAll_mk1 (shut_bool Try.underlying4 _), (trodAll_cons_mk (shut_int Try.underlying3 w0) (trodAll_cons_mk (Below.trod laidOut (by kernel_rfl) (of_decide_eq_true (by kernel_rfl)) k1 hS.below lt1) trodAll_mk0)), rfl, hS.below.frame _, fun h => by cases h⟩

theorem over : Rows.bufPlaysRow.holds Try.pinned (OpenSpec.ofChange Rows.bufPlaysSpec) :=
  OpenClaim.holds_of_wide 9 Try.f9 rfl rfl rfl rfl rfl rfl rfl ⟨rfl, rfl, rfl, rfl, rfl⟩ rfl rfl rfl rfl rfl (by kernel_rfl) Try.func9 (by kernel_rfl)
    (of_decide_eq_true (by kernel_rfl)) (by unfold Func.isWrapper; first | (rw [if_pos (by decide +kernel)]; kernel_rfl) | (rw [if_neg (by decide +kernel)]; exact ⟨rfl, rfl⟩))
    (fun os started H enc _ => lifted os started H enc)

/-- The statement. -/
theorem proved : Rows.BufPlaysSaid := over
end Go.Proofs.Ytldobldhmodjlaa.bufPlays
