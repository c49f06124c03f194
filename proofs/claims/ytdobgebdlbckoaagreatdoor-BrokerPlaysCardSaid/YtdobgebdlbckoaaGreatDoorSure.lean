/-
  A region that draws its order: what yields the same in every world, whatever kind it is (an addition of numbers), is taken first; the pieces come behind it. No program is named here.
-/
import Derived.Test.YtdobgebdlbckoaaGreatDoorFork
namespace Go.Proofs.YtdobgebdlbckoaaGreatDoor.Sure
open Go Go.Proofs.YtdobgebdlbckoaaGreatDoor.Reg Go.Proofs.YtdobgebdlbckoaaGreatDoor.Fork Region

section
variable {P : Program} {ops : Array Oper} {Q : Exit → Act → World → Prop}

/-- Operations of which each yields its value in every world. -/
def wpSure (P : Program) (l : List Oper) (K : Act → Prop) : List Nat → Act → Prop
  | [], a => K a
  | i :: r, a => (nthOp l i).guard = none ∧ ∃ v, (∀ w, (execOp a.eval (nthOp l i)).run P w = .ok (.value v) w) ∧ wpSure P l K r (a.put (nthOp l i).dst v)
def sureB (ops : Array Oper) : List Nat → Array Bool → Bool
  | [], _ => true
  | i :: r, listed => (Region.ready .any ops listed).contains i && Region.free .any ops listed i && sureB ops r (listed.setIfInBounds i true)

theorem sure_sound (hs : Region.noSelect ops = true) {K : Act → Prop} {n : Nat} {w : World} : ∀ (σ : List Nat) (listed : Array Bool) (a : Act), Closed ops listed → sureB ops σ listed = true →
    (∀ a, Closed ops (setAll σ listed) → K a → wpAny P .any ops (Only Q) n (setAll σ listed) a w) → wpSure P ops.toList K σ a → wpAny P .any ops (Only Q) (n + σ.length) listed a w
  | [], listed, a, hcl, _, hK, h => hK a hcl h
  | i :: r, listed, a, hcl, hB, hK, h => by
    simp only [sureB, Bool.and_eq_true] at hB
    obtain ⟨⟨hr, hf⟩, hB'⟩ := hB
    obtain ⟨hg, v, hv, h'⟩ := h
    have hr' : i ∈ Region.ready .any ops listed := by simpa using hr
    obtain ⟨_, o, ho, _⟩ := mem_ready.1 hr'
    have hn : nthOp ops.toList i = o := nthOp_get _ _ _ (by simpa using ho)
    rw [hn] at hg hv h'
    have H := sure_sound hs r (listed.setIfInBounds i true) (a.put o.dst v) (closed_step hcl hr') hB' hK h'
    exact wpAny_take ho hs hf hr (fun _ _ _ h => h) (.inl ⟨by simp [Region.wanted, hg], hv⟩) H

/-- A region that draws its order: what is sure, then pieces. -/
theorem wp_region_sure {id : Nat} {l : List Oper} {a : Act} {w : World} (σ : List Nat) (S : List (Bool × List Nat)) (hm : P.follows .mixedOrders = true)
    (hB : (Region.noSelect l.toArray && sureB l.toArray σ (Array.replicate l.toArray.size false) && segsB P l.toArray S (setAll σ (Array.replicate l.toArray.size false)) && segsLen S + σ.length == l.toArray.size) = true)
    (h : wpSure P l (fun a' => wpSegs P l.toArray l Q S a' w.drew) σ a) : (Code.region id l.toArray true).wp P Q a w := by
  simp only [Bool.and_eq_true, beq_iff_eq] at hB
  obtain ⟨⟨⟨hs, h1⟩, h2⟩, h3⟩ := hB
  refine Code.wp_mono Only.imp (wp_region_any hm ?_)
  have := sure_sound (Q := Q) (n := segsLen S) (w := w.drew) hs σ _ a closed_start h1 (K := fun a' => wpSegs P l.toArray l Q S a' w.drew) (fun a' hcl hK => segs_sound hs S _ a' _ hcl h2 (by simpa using hK)) (by simpa using h)
  rw [h3] at this
  exact this
end
end Go.Proofs.YtdobgebdlbckoaaGreatDoor.Sure
