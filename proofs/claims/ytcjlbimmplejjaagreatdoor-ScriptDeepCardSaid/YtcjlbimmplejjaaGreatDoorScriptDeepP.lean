/-
  The statement ScriptDeep: for every input the law returns true, and its arguments read as they did.
  No condition.
-/
import Derived.Test.YtcjlbimmplejjaaGreatDoorRows
import Derived.Test.YtcjlbimmplejjaaGreatDoorFrame
import Derived.Test.YtcjlbimmplejjaaGreatDoorCards
import Derived.Test.YtcjlbimmplejjaaGreatDoorTie
import Derived.Test.YtcjlbimmplejjaaGreatDoorCard
import Derived.LaidMore
import Derived.Lay
import Derived.SevenTiedAt
import Derived.Stop.Joined
import Derived.Test.YtcjlbimmplejjaaGreatDoorScDe
import Derived.Test.YtcjlbimmplejjaaGreatDoorWdG
namespace Go.Proofs.YtcjlbimmplejjaaGreatDoor.scriptDeep
open Go.ChangeShapes Go.WideShapes Go.ChangeAt Go.RowKit Go.Proofs.YtcjlbimmplejjaaGreatDoor.Sep Go.Proofs.YtcjlbimmplejjaaGreatDoor.Frame
open Go.ChangeMaps (open_string shut_string)
open Go.Proofs.YtcjlbimmplejjaaGreatDoor.ScPr Go.Proofs.YtcjlbimmplejjaaGreatDoor.ScDe
set_option linter.unusedVariables false

theorem own : ownKnob Tryz.prog.godebug = none := by kernel_rfl
theorem laidOut : laidOutB Tryz.prog = true := by kernel_rfl

set_option maxRecDepth 100000 in
theorem lifted (os : Os) (started : os.Started) (H : Type) (enc : TypeId × Value → H) :
    ReturnsInHanded {} Tryz.checked os 6 .any (fun w args => (Rows.scriptDeepSpec.pre enc Tryz.prog Tryz.f6 Rows.scriptDeepRow.domain false w args ∧ laidMetH Tryz.prog Rows.scriptDeepRow.laid w) ∧ sizedMet enc Tryz.prog Tryz.f6 (OpenSpec.ofChange Rows.scriptDeepSpec) false w args) (Rows.scriptDeepSpec.post enc Tryz.prog Tryz.f6 false true false false) := by
  refine Card.returns_both (C := Tryz.checked) (X := fun w _ => laidMetH Tryz.prog Rows.scriptDeepRow.laid w) (fun _ _ _ hh h => h.of_heap hh) own started (by kernel_rfl) Tryz.func6
    (ChangeSpec.witness_shaped (enc := enc) (C := Tryz.checked) (os := os) (X := fun w _ => laidMetH Tryz.prog Rows.scriptDeepRow.laid w) false (World.laidAll Tryz.prog os Rows.scriptDeepRow.laid) #[.slice none 0 0, .string ByteArray.empty, .int .u8 0] 8 (World.laidAll_os _ _ _)
      (World.shaped_of_ZipB (by kernel_rfl) (by kernel_rfl)) (by kernel_rfl) (by kernel_rfl) (by kernel_rfl)
      (by rw [MakeChecks.laidMetH_plain _ _ _ (by kernel_rfl)]; exact laidMet_laidAll _ (by kernel_rfl) (by kernel_rfl))) ?_
  intro W base args ds gs before hval0 hW hcnd hL hsh
  have hval : ∀ (j : Nat) t v, Tryz.f6.params[j]? = some t → args[j]? = some v → Value.okWide Tryz.prog W .any base t v := hval0
  have hW' := hW
  obtain ⟨p, q, hA0, hV, rfl, hfz, hnd⟩ := hW
  have hA : DataW.TrodAll enc Tryz.prog W 0 (fun _ => true) true Tryz.f6.params.toList args.toList ds p := hA0
  rw [Tryz.params6] at hA hval
  obtain ⟨v0, vs0, d0, ds0, p0, q0, hargs, rfl, rfl, h0, r0⟩ := trodAll_cons hA
  obtain ⟨v1, vs1, d1, ds1, p1, q1, rfl, rfl, rfl, h1, r1⟩ := trodAll_cons r0
  obtain ⟨v2, vs2, d2, ds2, p2, q2, rfl, rfl, rfl, h2, r2⟩ := trodAll_cons r1
  obtain ⟨rfl, rfl, rfl⟩ := trodAll_nil r2
  obtain rfl : args = #[v0, v1, v2] := by cases args; simp_all
  obtain ⟨rfl, rfl⟩ := trodVars_none hV
  obtain ⟨a0, len0, cap0, rfl⟩ := okWide_slice Tryz.underlying43 (hval 0 43 v0 rfl rfl)
  have k0 := h0
  have lt0 : ∀ x ∈ p0, x.block < W.heap.size := by obtain ⟨m, hm⟩ := k0; exact DataW.trod_lt m _ _ _ hm
  obtain ⟨xs0, hl0, sl0, ok0⟩ : ∃ xs : List _, xs.length = len0 ∧ Sl W 1 (.slice a0 len0 cap0) len0 (xs.flatMap ScDe.W16.E) ∧ ∀ x ∈ xs, ScDe.W16.Ok x := by
    obtain ⟨fuel, hf⟩ := h0
    exact slice_in (E := ScDe.W16.E) (Ok := ScDe.W16.Ok) Tryz.underlying43 (show Tryz.prog.cellsOf 45 = 1 by kernel_rfl) (fun n cs y h => ScDe.W16.dec Tryz.underlying45 h) ScDe.W16.len (by omega) (by simpa [Value.cells] using hf)
  obtain ⟨s1, rfl, rfl, rfl, w1⟩ := open_string Tryz.underlying9 (hval 1 9 v1 rfl rfl) h1
  obtain ⟨a1, rfl⟩ := string_list s1
  obtain ⟨a2, rfl, rfl, rfl, w2⟩ := open_int Tryz.underlying5 (hval 2 5 v2 rfl rfl) h2
  clear hA0 hval0
  have hG : Go.Proofs.YtcjlbimmplejjaaGreatDoor.ScPr.GlE W := Go.Proofs.YtcjlbimmplejjaaGreatDoor.WdG.er_of (laid := Rows.scriptDeepRow.laid) hL (by kernel_rfl) (by kernel_rfl) (by kernel_rfl) (by kernel_rfl) hsh
  refine (ScDe.deep_any a0 len0 cap0 xs0 hl0 sl0 ok0 a1 w1 a2 w2 (W := W) (hG := hG)).mono fun e W' ⟨he, hS⟩ => ?_
  subst he
  exact ⟨_, rfl, _, _, _, [], _, [], hW', trodAll_mk1 (shut_bool Tryz.underlying4 _), (trodAll_cons_mk (Below.trod laidOut (by kernel_rfl) (of_decide_eq_true (by kernel_rfl)) k0 hS.below lt0) (trodAll_cons_mk (shut_string Tryz.underlying9 w1) (trodAll_cons_mk (shut_int Tryz.underlying5 w2) trodAll_mk0))), rfl, hS.below.frame _, fun h => by cases h⟩

theorem over : Rows.scriptDeepRow.holds Tryz.pinned (OpenSpec.ofChange Rows.scriptDeepSpec) :=
  OpenClaim.holds_of_wide 6 Tryz.f6 rfl rfl rfl rfl rfl rfl rfl ⟨rfl, rfl, rfl, rfl, rfl⟩ rfl rfl rfl rfl rfl (by kernel_rfl) Tryz.func6 (by kernel_rfl)
    (of_decide_eq_true (by kernel_rfl)) (by unfold Func.isWrapper; first | (rw [if_pos (by decide +kernel)]; kernel_rfl) | (rw [if_neg (by decide +kernel)]; exact ⟨rfl, rfl⟩))
    (fun os started H enc _ => lifted os started H enc)


/-- The statement: the card. -/
theorem proved : Rows.ScriptDeepCardSaid :=
  Claim7.holds_tied_plain_at .later [] [.data, .data, .data, .data, .sentinel, .sentinel, .pinned] true (true, "4c74d767f5597f7d235dbd4dc6ab851e012faf8c32719013b2f6e1a3c374e9ae") true over (fun _ h => by cases h) (by kernel_rfl) (fun _ h => by cases h) scriptDeep_row_tie rfl ⟨rfl, rfl⟩ (by kernel_rfl) rfl
    (fun f fn hf hfn => by
      obtain rfl : f = 6 := Option.some.inj ((show Tryz.prog.funcNamed "crier/crierlaw30.ScriptDeep" = some 6 by kernel_rfl).symm.trans hf) |>.symm
      obtain rfl : fn = Tryz.f6 := (Option.some.inj (Tryz.func6.symm.trans hfn)).symm
      exact ⟨by kernel_rfl, fun j t ht => by
        rw [Tryz.params6] at ht
        have hm : t ∈ [43, 9, 5] := by simpa using Array.mem_of_getElem? ht
        have hall : ([43, 9, 5].all fun u => !Tryz.prog.wantsStandIn u) = true := by kernel_rfl
        exact (show Tryz.prog.wantsStandIn t = false by simpa using List.all_eq_true.1 hall t hm)⟩)
    (by kernel_rfl)
end Go.Proofs.YtcjlbimmplejjaaGreatDoor.scriptDeep
