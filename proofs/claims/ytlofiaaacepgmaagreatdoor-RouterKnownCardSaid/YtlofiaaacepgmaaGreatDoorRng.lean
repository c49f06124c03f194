/-
  A range over a function, in the small separation logic: the loop's record and its block of deferred calls are two more blocks of the call's own. No program is named here.
-/
import Derived.Test.YtlofiaaacepgmaaGreatDoorSep
import Derived.RangeFuncNested
import Derived.RangeFuncBound
import Derived.RangeFuncCalls
import Derived.RangeFuncLeaves
import Derived.Shelf.Abstract
import Derived.Shelf.RegionOpen
import Derived.WalkKit
import Derived.OwnWalkIn
import Derived.TacticsInMore
import Derived.LoopNIn
import Derived.LoopIn
namespace Go.Proofs.YtlofiaaacepgmaaGreatDoor.Rng
open Go Go.RowKit Go.Proofs Go.Proofs.YtlofiaaacepgmaaGreatDoor.Sep

section
variable {P : Program} {W w : World} {l : Nat} {o : Obj} {R : Asn}
/-- An owned block takes another object. -/
theorem St.putObj (h : St W w (star (pt l o) R)) (o' : Obj) : St W (w.putObj l o') (star (pt l o') R) :=
  h.turn rfl rfl rfl (by simp [World.putObj]) (fun k _ hk => World.putObj_heap_other hk) (World.putObj_heap_same h.lt)

end

/-- A loop's record. -/
def rec (fn : FuncId) (tmps : Array Value) (params : Array Tmp) (assign body : Code) (D : Nat) (st : LoopState) (pe : Option Code) : Loop := { state := st, pending := pe, fn, tmps, params, assign, body, defers := D }

section
variable {P : Program} {W w : World} {F : Fence} {fn : FuncId} {tmps : Array Value} {params : Array Tmp} {assign body : Code} {D l m : Nat} {R : Asn}
/-- How a round is left: on to the next one with Φ, or for good by a jump, with Ψ. -/
def RPost (W : World) (l : Nat) (busy : Loop) (Φ : Asn) (Ψ : Code → Asn) : Exit → Act → World → Prop
  | .normal, _, w => St W w (star (pt l (.loop busy)) Φ)
  | .ret, _, w => St W w (star (pt l (.loop busy)) (Ψ .ret))
  | .exit id, _, w => St W w (star (pt l (.loop busy)) (Ψ (.exit id)))
  | .goto t, _, w => St W w (star (pt l (.loop busy)) (Ψ (.goto t)))
  | .panic _, _, _ => False
  | .outgrown, _, _ => False

/-- One round: yield is called, and the body leaves what it leaves. -/
theorem yield_St {args : Array Value} {a₁ : Act} {Φ : Asn} {Ψ : Code → Asn}
    (hF : F.fn fn) (hs : args.size = params.size) (h : St W w (star (pt l (.loop (rec fn tmps params assign body D .ready none))) R))
    (hassign : ∀ K : Act → World → Prop, K a₁ w → assign.wpIn (F.inRound l) m P (Exit.then K (fun _ _ _ => False)) { tmps := (params.zip args).foldl (fun tmps (t, a) => tmps.setIfInBounds t a) tmps, defers := [] } w)
    (hbody : ∀ w2, St W w2 (star (pt l (.loop (rec fn tmps params assign body D .busy none))) R) → body.wpIn (F.inRound l) m P (RPost W l (rec fn tmps params assign body D .busy none) Φ Ψ) a₁ w2) :
    YieldAt F m P l args w fun e w' => (e = .returned (.bool true) ∧ St W w' (star (pt l (.loop (rec fn tmps params assign body D .ready none))) Φ)) ∨
      (e = .returned (.bool false) ∧ ∃ c, St W w' (star (pt l (.loop (rec fn tmps params assign body D .done (some c)))) (Ψ c))) := by
  have hb := h.blk
  refine ⟨fn, _, assign, body, run_yield hb hs, roundIn_of_wpIn hF (hassign _ ⟨_, run_beginRound hb rfl, ?_⟩)⟩
  refine wpIn_mono (hbody _ (St.putObj h _)) ?_
  rintro e a3 w3 hp
  cases e with
  | normal => exact ⟨_, _, run_endRound none (St.blk hp), .inl ⟨rfl, St.putObj hp _⟩⟩
  | ret => exact ⟨_, _, run_endRound (some .ret) (St.blk hp), .inr ⟨rfl, .ret, St.putObj hp _⟩⟩
  | exit id => exact ⟨_, _, run_endRound (some (.exit id)) (St.blk hp), .inr ⟨rfl, .exit id, St.putObj hp _⟩⟩
  | goto t => exact ⟨_, _, run_endRound (some (.goto t)) (St.blk hp), .inr ⟨rfl, .goto t, St.putObj hp _⟩⟩
  | panic ch => exact hp.elim
  | outgrown => exact hp.elim

/-- The statement 'for .. := range g { .. }'. -/
theorem range_St {n : Nat} {g : Operand} {Q : Exit → Act → World → Prop} {a : Act} {A : Asn} {gf : Nat} {lb : Array Value} {Φ : Asn} {Ψ : Code → Asn}
    (hro : F.round = none) (h1 : 1 ≤ n) (hg : a.eval g = .func (.func gf) #[] lb) (hFg : F.fn gf) (eg : ∀ args w, (callFunc gf args).run P w = .ok (.enter gf args) w) (h : St W w A)
    (hcall : ∀ fn l D w1, F.fn fn → St W w1 (star (pt l (.loop (rec fn a.tmps params assign body D .ready none))) (star (pt D (.deferred (some []))) A)) →
      CallsIn F (n - 1) P gf (#[.func (.yield l) #[] #[]] ++ lb) w1 fun e w' => (∃ v, e = .returned v) ∧
        (St W w' (star (pt l (.loop (rec fn a.tmps params assign body D .ready none))) (star (pt D (.deferred (some []))) Φ)) ∨
          ∃ c, St W w' (star (pt l (.loop (rec fn a.tmps params assign body D .done (some c)))) (star (pt D (.deferred (some []))) (Ψ c)))))
    (hdone : ∀ D w4, St W w4 (star (pt D (.deferred (some []))) Φ) → Q .normal { a with defers := { target := .collected D, args := #[] } :: a.defers } w4)
    (hstop : ∀ D c w4, St W w4 (star (pt D (.deferred (some []))) (Ψ c)) → c.wpIn F n P Q { a with defers := { target := .collected D, args := #[] } :: a.defers } w4) :
    (Code.rangeFunc g params assign body).wpIn F n P Q a w := by
  refine wpIn_rangeFunc ?_
  intro fn hfn
  rw [hro]
  have h2 := (h.alloc (.deferred (some []))).alloc (.loop (rec fn a.tmps params assign body w.heap.size .ready none))
  rw [World.size_alloc] at h2
  obtain ⟨W1, hW1⟩ : ∃ W1, (w.alloc (.deferred (some []))).alloc (.loop (rec fn a.tmps params assign body w.heap.size .ready none)) = W1 := ⟨_, rfl⟩
  rw [hW1] at h2
  refine ⟨w.heap.size + 1, [{ target := .collected w.heap.size, args := #[] }], W1, { target := .fn (.func gf) lb, args := #[.func (.yield (w.heap.size + 1)) #[] #[]] }, W1, gf,
    #[.func (.yield (w.heap.size + 1)) #[] #[]] ++ lb, W1, ?_, ?_, ?_, ?_, fun _ => h1, ?_⟩
  · rw [← hW1]; exact run_enterLoop_outer _ _ _ _ _
  · simp only [resolve, hg]
    simp [go_sem]
  · intro f' hf'; simp [Target.leads] at hf'; subst hf'; exact hFg
  · simp [invoke, go_sem, eg]
  · refine (hcall fn (w.heap.size + 1) w.heap.size _ hfn h2).mono ?_
    rintro e w3 ⟨⟨v, rfl⟩, hA | ⟨c, hA⟩⟩
    · exact ⟨none, _, run_endLoop hA.blk (by simp [rec]), hdone _ _ (St.putObj hA _).right⟩
    · exact ⟨some c, _, run_endLoop hA.blk (by simp [rec]), hstop _ c _ (St.putObj hA _).right⟩
end
end Go.Proofs.YtlofiaaacepgmaaGreatDoor.Rng
