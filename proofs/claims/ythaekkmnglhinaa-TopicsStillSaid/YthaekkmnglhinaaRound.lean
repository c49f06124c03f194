/-
  A region that draws its order, within a round of a range over a function. No program is named here.
-/
import Derived.Test.YthaekkmnglhinaaHeld
import Derived.RangeFuncCalls
import Derived.OrdersIn
namespace Go.Proofs.Ythaekkmnglhinaa.Round
open Go Go.Proofs.Ythaekkmnglhinaa.Reg Go.Proofs.Ythaekkmnglhinaa.Held Region

section
variable {P : Program} {ops : Array Oper} {Q : Exit → Act → World → Prop}

def noDefer (ops : Array Oper) : Bool := ops.all fun o => match o.op with
  | .defer _ => false
  | _ => true
theorem noDefer_spec (h : noDefer ops = true) {i : Nat} {o : Oper} (ho : ops[i]? = some o) : ∀ c, o.op ≠ .defer c := by
  intro c hc
  have h1 := Array.all_eq_true.1 h i (Array.getElem?_eq_some_iff.1 ho).1
  rw [(Array.getElem?_eq_some_iff.1 ho).2, hc] at h1
  cases h1

theorem op_round {l n : Nat} {o : Oper} {a : Act} {w : World} {K : Act → World → Prop} (hd : ∀ c, o.op ≠ .defer c) (h : o.wp P a w K (Only Q)) : o.wpIn (Fence.wide.inRound l) n P a w K Q := by
  refine ⟨fun _ _ => trivial, ?_⟩
  rw [Oper.semAt_eq _ _ _ hd]
  unfold Oper.wp at h
  cases hr : (execOp a.eval o).run P w with
  | halt x w' =>
    rw [hr] at h
    cases x <;> exact (h : False).elim
  | ok y w' =>
    rw [hr] at h
    cases y with
    | value v => exact h
    | skip => exact h
    | defer d => exact h
    | enter f args =>
      rw [Oper.upon_enter] at h
      refine ⟨fun hh => (by cases hh), CallsIn.inRound l (callsIn_wide.2 (Calls.mono h fun e w'' he => ?_))⟩
      cases e with
      | returned v => exact he
      | panicked c => exact (he : False).elim
      | outgrown => obtain ⟨_, _, hf⟩ := he; exact (hf : False).elim
    | row r args =>
      refine ⟨fun hh => (by cases hh), fun c cs _ => ?_⟩
      rw [Oper.upon_row] at h
      obtain ⟨v, w'', hR, hs⟩ := h c cs
      exact ⟨v, w'', hR, stepsIn_wide.2 hs⟩
    | _ => exact (h : False).elim

theorem any_round {l n : Nat} (hd : noDefer ops = true) : ∀ (f : Nat) (listed : Array Bool) (a : Act) (w : World), wpAny P .any ops (Only Q) f listed a w → wpAnyIn (Fence.wide.inRound l) n P .any ops Q f listed a w
  | 0, _, _, _, h => ⟨h.1, h.2⟩
  | f + 1, listed, a, w, h => by
    refine ⟨fun h0 => h.1 h0, fun i hi => ?_⟩
    have h1 := h.2 i hi
    unfold wpOp at h1
    unfold wpOpIn
    cases ho : ops[i]? with
    | none => rw [ho] at h1; exact any_round hd f _ a w h1
    | some o =>
      rw [ho] at h1
      dsimp only at h1 ⊢
      split at h1
      · rename_i hw
        rw [if_pos hw]
        rcases h1 with h1 | ⟨_, _, _, hf⟩
        · exact Oper.wpIn_mono (fun a' w' h' => any_round hd f _ a' w' h') (op_round (noDefer_spec hd ho) h1)
        · exact (hf : False).elim
      · rename_i hw
        rw [if_neg hw]
        exact ⟨fun _ _ => trivial, any_round hd f _ _ w h1⟩

/-- In an order of one's own, within a round. -/
theorem wpIn_round_canon {id r n : Nat} {l : List Oper} {a : Act} {w : World} (π : List Nat) (hm : P.follows .mixedOrders = true)
    (hB : (noDefer l.toArray && (Region.noSelect l.toArray && canonB P l.toArray π (Array.replicate l.toArray.size false) && π.length == l.toArray.size)) = true)
    (h : wpList P l.toArray (Only Q) (pickOps l π) a w.drew) : (Code.region id l.toArray true).wpIn (Fence.wide.inRound r) n P Q a w := by
  simp only [Bool.and_eq_true, beq_iff_eq] at hB
  refine wpIn_region_any hm (any_round hB.1 _ _ _ _ ?_)
  have := canon_sound hB.2.1.1 π _ a _ hB.2.1.2 (by simpa using h)
  rw [hB.2.2] at this
  exact this
/-- By a tree, within a round. -/
theorem wpIn_round_held {id r n : Nat} {l : List Oper} {a : Act} {w : World} (C : World → Prop) (E : List Nat) (t : Tr) (hm : P.follows .mixedOrders = true)
    (hB : (noDefer l.toArray && (Region.noSelect l.toArray && trB l.toArray E t (Array.replicate l.toArray.size false) l.toArray.size)) = true) (hC : C w.drew)
    (h : wpTr P l.toArray l C E Q t a w.drew) : (Code.region id l.toArray true).wpIn (Fence.wide.inRound r) n P Q a w := by
  simp only [Bool.and_eq_true] at hB
  refine wpIn_region_any hm (any_round hB.1 _ _ _ _ ?_)
  exact wpAny_of_C _ _ _ _ (tr_sound hB.2.1 t _ _ a _ hB.2.2 (fun _ => hC) (by simpa using h))
end
end Go.Proofs.Ythaekkmnglhinaa.Round
