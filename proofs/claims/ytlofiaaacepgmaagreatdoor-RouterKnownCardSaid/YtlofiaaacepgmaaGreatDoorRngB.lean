import Derived.Test.YtlofiaaacepgmaaGreatDoorRngA
namespace Go.Proofs.YtlofiaaacepgmaaGreatDoor.RngB
open Go Go.RowKit Go.Proofs Go.Proofs.YtlofiaaacepgmaaGreatDoor.Sep Go.Proofs.YtlofiaaacepgmaaGreatDoor.Rng

/-- A cell, and the row whose slice it holds. -/
def Held (ob : Nat) (T e : TypeId) (n : Nat) (xs : List Value) : Asn := fun h => ∃ v, star (pt ob (.cells #[v] T (0, 0))) (Row e 1 v n xs) h
def No : Asn := fun _ => False
section
variable {W w : World} {ob n : Nat} {T e : TypeId} {xs : List Value} {R : Asn}
theorem St.held (h : St W w (star (Held ob T e n xs) R)) : ∃ v, St W w (star (pt ob (.cells #[v] T (0, 0))) (star (Row e 1 v n xs) R)) := by
  obtain ⟨hb, k, ⟨h1, h2, d, e', ⟨v, a⟩, r⟩, f⟩ := h
  exact ⟨v, St.eq (A := star (star (pt ob (.cells #[v] T (0, 0))) (Row e 1 v n xs)) R) ⟨hb, k, ⟨h1, h2, d, e', a, r⟩, f⟩ (star_assoc _ _ _)⟩
theorem St.toHeld {v : Value} (h : St W w (star (pt ob (.cells #[v] T (0, 0))) (star (Row e 1 v n xs) R))) : St W w (star (Held ob T e n xs) R) := by
  refine (h.eq (star_assoc _ _ _).symm).weak fun k => ?_
  rintro ⟨h1, h2, d, e', a, r⟩
  exact ⟨h1, h2, d, e', ⟨v, a⟩, r⟩
theorem St.no (h : St W w (star R No)) : False := by
  obtain ⟨hb, k, ⟨h1, h2, d, e', a, r⟩, f⟩ := h
  exact r
end
theorem YieldAt.mono {F : Fence} {m : Nat} {P : Program} {l : Nat} {args : Array Value} {w : World} {R R' : Ending → World → Prop} (h : YieldAt F m P l args w R) (hr : ∀ e w', R e w' → R' e w') : YieldAt F m P l args w R' := by
  obtain ⟨fn, tmps, assign, body, hy, hR⟩ := h
  exact ⟨fn, tmps, assign, body, hy, hR.mono hr⟩
end Go.Proofs.YtlofiaaacepgmaaGreatDoor.RngB
