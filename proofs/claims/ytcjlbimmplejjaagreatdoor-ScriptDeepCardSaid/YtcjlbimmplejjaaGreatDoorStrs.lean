/-
  Slices of texts: their cells, a literal, an element in every later world. No program is named here but for the number of the type string.
-/
import Derived.Test.YtcjlbimmplejjaaGreatDoorGen
namespace Go.Proofs.YtcjlbimmplejjaaGreatDoor.Strs
open Go Go.RowKit Go.Proofs Go.Proofs.YtcjlbimmplejjaaGreatDoor.Sep Go.Proofs.YtcjlbimmplejjaaGreatDoor.Frame
def strsV (l : List (List UInt8)) : List Value := l.map fun x => Value.string ⟨x.toArray⟩
theorem strsV_length (l : List (List UInt8)) : (strsV l).length = l.length := by simp [strsV]
theorem strsV_get (l : List (List UInt8)) (i : Nat) : (strsV l)[i]? = (l[i]?).map fun x => Value.string ⟨x.toArray⟩ := by simp [strsV]
theorem strsV_append (l k : List (List UInt8)) : strsV (l ++ k) = strsV l ++ strsV k := by simp [strsV]
theorem strsV_set (l : List (List UInt8)) (i : Nat) (x : List UInt8) : (strsV l).set i (.string ⟨x.toArray⟩) = strsV (l.set i x) := by simp [strsV, List.map_set]
theorem strsV_one (l : List (List UInt8)) : ∀ u ∈ strsV l, u.oneCell' = true := by
  intro u hu
  obtain ⟨x, _, rfl⟩ := List.mem_map.1 hu
  rfl
theorem strsV_E (l : List (List UInt8)) : l.flatMap Str.E = strsV l := by
  induction l with
  | nil => rfl
  | cons x xs ih => rw [List.flatMap_cons, ih]; rfl
/-- The element k, in every later world. -/
theorem strs_at {W : World} {a : Option Addr} {n c : Nat} {l : List (List UInt8)} (h : Sl W 1 (.slice a n c) n (strsV l)) {k : Nat} {x : List UInt8} (hk : l[k]? = some x) :
    ∃ ab ao, a = some ⟨ab, ao, none⟩ ∧ ∀ w A, St W w A → w.cell? ⟨ab, ao + k, none⟩ = some (.string ⟨x.toArray⟩) := by
  rw [← strsV_E] at h
  exact str_at_all h hk
theorem St.compR {W w w' : World} {A R : Asn} (h : St W w R) (k : St w w' (star A emp)) : St W w' (star A R) := (St.comp h k).eq (by rw [star_emp])
/-- A slice literal of texts. -/
theorem lit_sl {W w : World} {A : Asn} (h : St W w A) (l : List (List UInt8)) (hl : l.length ≤ maxLen) : St W (w.alloc (.cells (strsV l).toArray 9 (0, 0))) (star (Row 9 1 (.slice (some ⟨w.heap.size, 0, none⟩) l.length l.length) l.length (strsV l)) A) :=
  St.mkRow (h.alloc _) (Nat.le_refl _) hl (by simp [strsV]) (by rw [Nat.mul_one]; exact List.take_of_length_le (by simp [strsV]))
end Go.Proofs.YtcjlbimmplejjaaGreatDoor.Strs
