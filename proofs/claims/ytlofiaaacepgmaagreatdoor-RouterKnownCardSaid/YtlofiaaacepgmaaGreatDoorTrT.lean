import Derived.Test.YtlofiaaacepgmaaGreatDoorTrS
import Derived.Test.YtlofiaaacepgmaaGreatDoorTrQ
import Derived.Deep.Draws
namespace Go.Proofs.YtlofiaaacepgmaaGreatDoor.TrT
open Go Go.RowKit Go.Proofs Go.Proofs.YtlofiaaacepgmaaGreatDoor.Sep Go.Proofs.YtlofiaaacepgmaaGreatDoor.Reg Go.Proofs.YtlofiaaacepgmaaGreatDoor.Frame Go.Proofs.YtlofiaaacepgmaaGreatDoor.Strs Go.Proofs.YtlofiaaacepgmaaGreatDoor.PathP Go.Proofs.YtlofiaaacepgmaaGreatDoor.TrP Go.Proofs.YtlofiaaacepgmaaGreatDoor.TrS Go.Proofs.YtlofiaaacepgmaaGreatDoor.TrQ

theorem Right_any (p : Tx) (w : World) (hp : p.length ≤ 1000000) (hm : MaxLen w) : Calls Tryz.prog 26 #[.string ⟨p.toArray⟩] w (Makes w (.bool (splitP p).isSome)) := by
  have HSp := Lib.hid (split_any p w hp hm)
  cases hs : splitP p with
  | none =>
    rw [hs] at HSp
    clear hs
    go_enter Tryz.func26, Tryz.ntmps26
    go_wp2_with fail
    refine HSp.out.mono ?_
    rintro e w2 ⟨rfl, hb⟩
    go_wp2
    go_ret
    exact ⟨rfl, hb⟩
  | some l =>
    rw [hs] at HSp
    clear hs
    go_enter Tryz.func26, Tryz.ntmps26
    go_wp2_with fail
    refine HSp.out.mono ?_
    rintro e w2 ⟨a, c, rfl, h2⟩
    go_wp2
    go_ret
    exact Makes.of h2
def greatP (l : List Tx) : Bool := decide (12 < l.length) || l.any fun x => decide (40 < x.length)
theorem great_bounds {l : List Tx} (h : greatP l = false) : l.length ≤ 12 ∧ ∀ x ∈ l, x.length ≤ 40 := by
  unfold greatP at h
  rw [Bool.or_eq_false_iff, decide_eq_false_iff_not, List.any_eq_false] at h
  refine ⟨by omega, fun x hx => ?_⟩
  have := h.2 x hx
  simp at this
  omega

/-- A call that only reads. -/
def Reads (w : World) (v : Value) (e : Ending) (w' : World) : Prop := e = .returned v ∧ ∃ k, w' = w.drewN k
theorem Reads.st {W w w' : World} {v : Value} {e : Ending} {A : Asn} (h : Reads w v e w') (hS : St W w A) : St W w' A := by
  obtain ⟨_, k, rfl⟩ := h; exact hS.drewN k
theorem drewN_one (w : World) (k : Nat) : (w.drewN k).drew = w.drewN (k + 1) := by simp [World.drewN, World.drew, Nat.add_assoc]
end Go.Proofs.YtlofiaaacepgmaaGreatDoor.TrT
