import Derived.Test.YtcjlbimmplejjaaGreatDoorReg
namespace Go.Proofs.YtcjlbimmplejjaaGreatDoor.Fork
open Go Go.Proofs.YtcjlbimmplejjaaGreatDoor.Reg Region

section
variable {P : Program} {ops : Array Oper} {Q : Exit → Act → World → Prop}
theorem only_of_next {K : Act → World → Prop} {L : Act → World → Prop} {i : Nat} {a : Act} {w : World} (hw : wpOp P ops (Reg.Next K) i L a w) : wpOp P ops (Only Q) i L a w := by
  unfold Go.wpOp at hw ⊢
  cases ho : ops[i]? with
  | none => simp only [ho] at hw ⊢; exact hw
  | some o =>
    simp only [ho] at hw ⊢
    split
    · rename_i hwant
      rw [if_pos hwant] at hw
      refine hw.imp (fun h => ?_) (fun h => ?_)
      · unfold Oper.wp at h ⊢
        cases hrun : (execOp a.eval o).run P w with
        | ok nx w' =>
          rw [hrun] at h
          cases nx <;> simp only [Oper.upon] at h ⊢ <;> first
            | exact h
            | (refine Calls.mono h fun e w'' he => ?_
               cases e <;> first | exact he | (exact (he : False).elim) | (obtain ⟨_, _, he⟩ := he; exact (he : False).elim))
        | halt x w' =>
          rw [hrun] at h
          cases x <;> simp only [Oper.upon] at h ⊢ <;> exact (h : False).elim
      · obtain ⟨_, _, _, h⟩ := h
        exact (h : False).elim
    · rename_i hwant
      rw [if_neg hwant] at hw
      exact hw

/-- Behind a plain piece: whichever comes first of what may, and the pieces behind it. -/
def wpFork (P : Program) (ops : Array Oper) (l : List Oper) (Q : Exit → Act → World → Prop) : List (Nat × List (Bool × List Nat)) → Act → World → Prop
  | [], _, _ => True
  | [f], a, w => wpList P ops (Reg.Next (wpSegs P ops l Q f.2)) (pickOps l [f.1]) a w
  | f :: r, a, w => wpList P ops (Reg.Next (wpSegs P ops l Q f.2)) (pickOps l [f.1]) a w ∧ wpFork P ops l Q r a w
theorem wpFork_mem {l : List Oper} : ∀ {F : List (Nat × List (Bool × List Nat))} {a : Act} {w : World}, wpFork P ops l Q F a w → ∀ f ∈ F, wpList P ops (Reg.Next (wpSegs P ops l Q f.2)) (pickOps l [f.1]) a w
  | [], _, _, _, f, hf => by cases hf
  | [g], _, _, h, f, hf => by obtain rfl : f = g := by simpa using hf
                              exact h
  | g :: g2 :: r, _, _, h, f, hf => by
    rcases List.mem_cons.1 hf with rfl | hf
    · exact h.1
    · exact wpFork_mem h.2 f hf
def forkB (P : Program) (ops : Array Oper) (π : List Nat) (F : List (Nat × List (Bool × List Nat))) : Bool :=
  let fin := setAll π (Array.replicate ops.size false)
  canonB' P ops π (Array.replicate ops.size false) && (Region.ready .any ops fin == F.map (·.1)) && !F.isEmpty &&
  F.all fun f => segsB P ops f.2 (fin.setIfInBounds f.1 true) && segsLen f.2 + 1 + π.length == ops.size

/-- A region that draws its order: a plain piece, and a fork. -/
theorem wp_region_fork {id : Nat} {l : List Oper} {a : Act} {w : World} (π : List Nat) (F : List (Nat × List (Bool × List Nat))) (hm : P.follows .mixedOrders = true)
    (hB : (Region.noSelect l.toArray && forkB P l.toArray π F) = true)
    (h : wpList P l.toArray (Reg.Next (wpFork P l.toArray l Q F)) (pickOps l π) a w.drew) : (Code.region id l.toArray true).wp P Q a w := by
  obtain ⟨f0, r0, rfl⟩ : ∃ f0 r0, F = f0 :: r0 := by
    cases F with
    | nil => simp [forkB] at hB
    | cons f r => exact ⟨f, r, rfl⟩
  simp only [forkB, Bool.and_eq_true] at hB
  obtain ⟨hs, ⟨⟨hc, hr⟩, -⟩, hall⟩ := hB
  have hall := List.all_eq_true.1 hall
  have hlen : ∀ f ∈ f0 :: r0, segsLen f.2 + 1 + π.length = l.toArray.size := fun f hf => by
    have := hall f hf
    simp only [Bool.and_eq_true, beq_iff_eq] at this
    exact this.2
  have hr := eq_of_beq hr
  refine Code.wp_mono Only.imp (wp_region_any hm ?_)
  have key := canon_sound' (Q := Q) (n := segsLen f0.2 + 1) hs π _ a _ closed_start hc (K := wpFork P l.toArray l Q (f0 :: r0)) (fun a' w' hcl hK => ?_) (by simpa using h)
  · rw [hlen f0 (by simp)] at key
    exact key
  refine wpAny_all (rs := (f0 :: r0).map (·.1)) hr (by simp) fun j hj => ?_
  obtain ⟨f, hf, rfl⟩ := List.mem_map.1 hj
  have hB := hall f hf
  simp only [Bool.and_eq_true, beq_iff_eq] at hB
  have hw := wpFork_mem hK f hf
  have hlf : segsLen f.2 = segsLen f0.2 := by
    have h1 := hlen f hf
    have h2 := hlen f0 (by simp)
    omega
  have hrd : f.1 ∈ Region.ready .any l.toArray (setAll π (Array.replicate l.toArray.size false)) := by rw [hr]; exact hj
  have hw2 : wpOp P l.toArray (Reg.Next (wpSegs P l.toArray l Q f.2)) f.1 (wpSegs P l.toArray l Q f.2) a' w' := by
    obtain ⟨_, o, ho, _⟩ := mem_ready.1 hrd
    have hn : nthOp l f.1 = o := nthOp_get _ _ _ (by simpa using ho)
    unfold Go.wpOp
    simp only [ho]
    simpa only [pickOps, wpList, hn, Reg.Next] using hw
  rw [← hlf]
  exact wpOp_mono (fun a2 w2 h2 => segs_sound hs f.2 _ a2 w2 (closed_step hcl hrd) hB.1 h2) (only_of_next hw2)
end
end Go.Proofs.YtcjlbimmplejjaaGreatDoor.Fork
